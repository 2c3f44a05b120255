/-
  Chapter 01: the document's tenth of a number: a contract.
-/
import Derived.Test.YtpiapipmhlpmjaaU128TA
namespace Go.Proofs.Ytpiapipmhlpmjaa
set_option linter.unusedSimpArgs false
set_option linter.unusedVariables false
set_option linter.unusedSectionVars false
open Go Go.RowKit

/-- A number's bytes. -/
structure BysIs (X : Nat → Int) (h l : Int) : Prop where
  r : ∀ k, 0 ≤ X k ∧ X k < 256
  h : h = X 8 + 256 * (X 9 + 256 * (X 10 + 256 * (X 11 + 256 * (X 12 + 256 * (X 13 + 256 * (X 14 + 256 * (X 15)))))))
  l : l = X 0 + 256 * (X 1 + 256 * (X 2 + 256 * (X 3 + 256 * (X 4 + 256 * (X 5 + 256 * (X 6 + 256 * (X 7)))))))
def byX (h l : Int) (k : Nat) : Int := intAt (d8 l ++ d8 h) k
def gByX (X : Nat → Int) : GSpec := fun av tp => match av with
  | [.fl (.agg ⟨[.int .u64 h, .int .u64 l]⟩)] => some (⟨fun _ => .agg ⟨[.int .u8 (X 0), .int .u8 (X 1), .int .u8 (X 2), .int .u8 (X 3), .int .u8 (X 4), .int .u8 (X 5), .int .u8 (X 6), .int .u8 (X 7), .int .u8 (X 8), .int .u8 (X 9), .int .u8 (X 10), .int .u8 (X 11), .int .u8 (X 12), .int .u8 (X 13), .int .u8 (X 14), .int .u8 (X 15)]⟩, []⟩, tp, [BysIs X h l, ∀ k, X k = byX h l k])
  | _ => none
theorem byX_list (h l : Int) : d8 l ++ d8 h = [.int .u8 (byX h l 0), .int .u8 (byX h l 1), .int .u8 (byX h l 2), .int .u8 (byX h l 3), .int .u8 (byX h l 4), .int .u8 (byX h l 5), .int .u8 (byX h l 6), .int .u8 (byX h l 7), .int .u8 (byX h l 8), .int .u8 (byX h l 9), .int .u8 (byX h l 10), .int .u8 (byX h l 11), .int .u8 (byX h l 12), .int .u8 (byX h l 13), .int .u8 (byX h l 14), .int .u8 (byX h l 15)] := rfl
theorem gByX_ok {f : FuncId} (H : GOk Try.prog f [.f] gBy) (X : Nat → Int) : GOk Try.prog f [.f] (gByX X) := by
  intro av tp gr tp' ob hG ho
  unfold gByX at hG
  split at hG
  case h_2 => cases hG
  rename_i h l
  simp only [Option.some.injEq, Prod.mk.injEq] at hG
  obtain ⟨rfl, rfl, rfl⟩ := hG
  obtain ⟨_, e, _⟩ := ho
  have := H [.fl (.agg ⟨[.int .u64 h, .int .u64 l]⟩)] tp ⟨fun _ => .agg ⟨d8 l ++ d8 h⟩, []⟩ tp _ rfl (by simp [Alls])
  rw [byX_list] at this
  simp only [← e] at this
  exact this
theorem bysIs {h l : Int} (h0 : wf64 h) (l0 : wf64 l) : BysIs (byX h l) h l := by
  have h1 := h0.1
  have h2 := h0.2
  have l1 := l0.1
  have l2 := l0.2
  refine ⟨fun k => ?_, ?_, ?_⟩
  · match k with
    | 0 => exact ⟨Int.emod_nonneg _ (by decide), Int.emod_lt_of_pos _ (by decide)⟩
    | 1 => exact ⟨Int.emod_nonneg _ (by decide), Int.emod_lt_of_pos _ (by decide)⟩
    | 2 => exact ⟨Int.emod_nonneg _ (by decide), Int.emod_lt_of_pos _ (by decide)⟩
    | 3 => exact ⟨Int.emod_nonneg _ (by decide), Int.emod_lt_of_pos _ (by decide)⟩
    | 4 => exact ⟨Int.emod_nonneg _ (by decide), Int.emod_lt_of_pos _ (by decide)⟩
    | 5 => exact ⟨Int.emod_nonneg _ (by decide), Int.emod_lt_of_pos _ (by decide)⟩
    | 6 => exact ⟨Int.emod_nonneg _ (by decide), Int.emod_lt_of_pos _ (by decide)⟩
    | 7 => exact ⟨Int.emod_nonneg _ (by decide), Int.emod_lt_of_pos _ (by decide)⟩
    | 8 => exact ⟨Int.emod_nonneg _ (by decide), Int.emod_lt_of_pos _ (by decide)⟩
    | 9 => exact ⟨Int.emod_nonneg _ (by decide), Int.emod_lt_of_pos _ (by decide)⟩
    | 10 => exact ⟨Int.emod_nonneg _ (by decide), Int.emod_lt_of_pos _ (by decide)⟩
    | 11 => exact ⟨Int.emod_nonneg _ (by decide), Int.emod_lt_of_pos _ (by decide)⟩
    | 12 => exact ⟨Int.emod_nonneg _ (by decide), Int.emod_lt_of_pos _ (by decide)⟩
    | 13 => exact ⟨Int.emod_nonneg _ (by decide), Int.emod_lt_of_pos _ (by decide)⟩
    | 14 => exact ⟨Int.emod_nonneg _ (by decide), Int.emod_lt_of_pos _ (by decide)⟩
    | 15 => exact ⟨Int.emod_nonneg _ (by decide), Int.emod_lt_of_pos _ (by decide)⟩
    | k + 16 => have e : byX h l (k + 16) = 0 := rfl; rw [e]; omega
  · show h = _
    simp only [byX, intAt, d8, List.cons_append, List.nil_append, List.getElem?_cons_succ, List.getElem?_cons_zero]
    omega
  · show l = _
    simp only [byX, intAt, d8, List.cons_append, List.nil_append, List.getElem?_cons_succ, List.getElem?_cons_zero]
    omega
def teT (X : Nat → Int) : TFun := orTz (mkT 32 [.f] (gByX X)) (mkT 42 [.f] gOfB)
def teV (X : Nat → Int) : Tv := ⟨teT X, noXz, noL, fun _ => [], lsSy 47 [(15, 0), (19, 0), (20, 0), (23, 0), (24, 0), (27, 0)], fun _ => [], fun _ => 0⟩
theorem te_r (X : Nat → Int) (h l : Int) : runZ (teV X) Try.prog 9 47 [.agg ⟨[.int .u64 h, .int .u64 l]⟩] [] 1 [] =
  Res.ok ((Value.tuple (Array.mk [Value.agg (Array.mk [Value.int IntKind.u64 (lowI IntKind.u8 (dvI (adI (mlI (256 : Int) (mdI (adI (mlI (256 : Int) (mdI (adI (mlI (256 : Int) (mdI (adI (mlI (256 : Int) (mdI (adI (mlI (256 :
 Int) (mdI (adI (mlI (256 : Int) (mdI (adI (mlI (256 : Int) (mdI (adI (0 : Int) (X 15)) (10 : Int))) (X 14)) (10 : Int))) (X 13)) (10 : Int))) (X 12)) (10 : Int))) (X 11)) (10 : Int))) (X 10)) (10 : Int))) (X 9)) (10 :
 Int))) (X 8)) (10 : Int)) + (256 : Int) * (lowI IntKind.u8 (dvI (adI (mlI (256 : Int) (mdI (adI (mlI (256 : Int) (mdI (adI (mlI (256 : Int) (mdI (adI (mlI (256 : Int) (mdI (adI (mlI (256 : Int) (mdI (adI (mlI (256 : Int)
 (mdI (adI (0 : Int) (X 15)) (10 : Int))) (X 14)) (10 : Int))) (X 13)) (10 : Int))) (X 12)) (10 : Int))) (X 11)) (10 : Int))) (X 10)) (10 : Int))) (X 9)) (10 : Int)) + (256 : Int) * (lowI IntKind.u8 (dvI (adI (mlI (256 :
 Int) (mdI (adI (mlI (256 : Int) (mdI (adI (mlI (256 : Int) (mdI (adI (mlI (256 : Int) (mdI (adI (mlI (256 : Int) (mdI (adI (0 : Int) (X 15)) (10 : Int))) (X 14)) (10 : Int))) (X 13)) (10 : Int))) (X 12)) (10 : Int))) (X
 11)) (10 : Int))) (X 10)) (10 : Int)) + (256 : Int) * (lowI IntKind.u8 (dvI (adI (mlI (256 : Int) (mdI (adI (mlI (256 : Int) (mdI (adI (mlI (256 : Int) (mdI (adI (mlI (256 : Int) (mdI (adI (0 : Int) (X 15)) (10 : Int)))
 (X 14)) (10 : Int))) (X 13)) (10 : Int))) (X 12)) (10 : Int))) (X 11)) (10 : Int)) + (256 : Int) * (lowI IntKind.u8 (dvI (adI (mlI (256 : Int) (mdI (adI (mlI (256 : Int) (mdI (adI (mlI (256 : Int) (mdI (adI (0 : Int) (X
 15)) (10 : Int))) (X 14)) (10 : Int))) (X 13)) (10 : Int))) (X 12)) (10 : Int)) + (256 : Int) * (lowI IntKind.u8 (dvI (adI (mlI (256 : Int) (mdI (adI (mlI (256 : Int) (mdI (adI (0 : Int) (X 15)) (10 : Int))) (X 14)) (10 :
 Int))) (X 13)) (10 : Int)) + (256 : Int) * (lowI IntKind.u8 (dvI (adI (mlI (256 : Int) (mdI (adI (0 : Int) (X 15)) (10 : Int))) (X 14)) (10 : Int)) + (256 : Int) * lowI IntKind.u8 (dvI (adI (0 : Int) (X 15)) (10 :
 Int))))))))), Value.int IntKind.u64 (lowI IntKind.u8 (dvI (adI (mlI (256 : Int) (mdI (adI (mlI (256 : Int) (mdI (adI (mlI (256 : Int) (mdI (adI (mlI (256 : Int) (mdI (adI (mlI (256 : Int) (mdI (adI (mlI (256 : Int) (mdI
 (adI (mlI (256 : Int) (mdI (adI (mlI (256 : Int) (mdI (adI (mlI (256 : Int) (mdI (adI (mlI (256 : Int) (mdI (adI (mlI (256 : Int) (mdI (adI (mlI (256 : Int) (mdI (adI (mlI (256 : Int) (mdI (adI (mlI (256 : Int) (mdI (adI
 (mlI (256 : Int) (mdI (adI (0 : Int) (X 15)) (10 : Int))) (X 14)) (10 : Int))) (X 13)) (10 : Int))) (X 12)) (10 : Int))) (X 11)) (10 : Int))) (X 10)) (10 : Int))) (X 9)) (10 : Int))) (X 8)) (10 : Int))) (X 7)) (10 :
 Int))) (X 6)) (10 : Int))) (X 5)) (10 : Int))) (X 4)) (10 : Int))) (X 3)) (10 : Int))) (X 2)) (10 : Int))) (X 1)) (10 : Int))) (X 0)) (10 : Int)) + (256 : Int) * (lowI IntKind.u8 (dvI (adI (mlI (256 : Int) (mdI (adI (mlI
 (256 : Int) (mdI (adI (mlI (256 : Int) (mdI (adI (mlI (256 : Int) (mdI (adI (mlI (256 : Int) (mdI (adI (mlI (256 : Int) (mdI (adI (mlI (256 : Int) (mdI (adI (mlI (256 : Int) (mdI (adI (mlI (256 : Int) (mdI (adI (mlI (256
 : Int) (mdI (adI (mlI (256 : Int) (mdI (adI (mlI (256 : Int) (mdI (adI (mlI (256 : Int) (mdI (adI (mlI (256 : Int) (mdI (adI (0 : Int) (X 15)) (10 : Int))) (X 14)) (10 : Int))) (X 13)) (10 : Int))) (X 12)) (10 : Int))) (X
 11)) (10 : Int))) (X 10)) (10 : Int))) (X 9)) (10 : Int))) (X 8)) (10 : Int))) (X 7)) (10 : Int))) (X 6)) (10 : Int))) (X 5)) (10 : Int))) (X 4)) (10 : Int))) (X 3)) (10 : Int))) (X 2)) (10 : Int))) (X 1)) (10 : Int)) +
 (256 : Int) * (lowI IntKind.u8 (dvI (adI (mlI (256 : Int) (mdI (adI (mlI (256 : Int) (mdI (adI (mlI (256 : Int) (mdI (adI (mlI (256 : Int) (mdI (adI (mlI (256 : Int) (mdI (adI (mlI (256 : Int) (mdI (adI (mlI (256 : Int)
 (mdI (adI (mlI (256 : Int) (mdI (adI (mlI (256 : Int) (mdI (adI (mlI (256 : Int) (mdI (adI (mlI (256 : Int) (mdI (adI (mlI (256 : Int) (mdI (adI (mlI (256 : Int) (mdI (adI (0 : Int) (X 15)) (10 : Int))) (X 14)) (10 :
 Int))) (X 13)) (10 : Int))) (X 12)) (10 : Int))) (X 11)) (10 : Int))) (X 10)) (10 : Int))) (X 9)) (10 : Int))) (X 8)) (10 : Int))) (X 7)) (10 : Int))) (X 6)) (10 : Int))) (X 5)) (10 : Int))) (X 4)) (10 : Int))) (X 3)) (10
 : Int))) (X 2)) (10 : Int)) + (256 : Int) * (lowI IntKind.u8 (dvI (adI (mlI (256 : Int) (mdI (adI (mlI (256 : Int) (mdI (adI (mlI (256 : Int) (mdI (adI (mlI (256 : Int) (mdI (adI (mlI (256 : Int) (mdI (adI (mlI (256 :
 Int) (mdI (adI (mlI (256 : Int) (mdI (adI (mlI (256 : Int) (mdI (adI (mlI (256 : Int) (mdI (adI (mlI (256 : Int) (mdI (adI (mlI (256 : Int) (mdI (adI (mlI (256 : Int) (mdI (adI (0 : Int) (X 15)) (10 : Int))) (X 14)) (10 :
 Int))) (X 13)) (10 : Int))) (X 12)) (10 : Int))) (X 11)) (10 : Int))) (X 10)) (10 : Int))) (X 9)) (10 : Int))) (X 8)) (10 : Int))) (X 7)) (10 : Int))) (X 6)) (10 : Int))) (X 5)) (10 : Int))) (X 4)) (10 : Int))) (X 3)) (10
 : Int)) + (256 : Int) * (lowI IntKind.u8 (dvI (adI (mlI (256 : Int) (mdI (adI (mlI (256 : Int) (mdI (adI (mlI (256 : Int) (mdI (adI (mlI (256 : Int) (mdI (adI (mlI (256 : Int) (mdI (adI (mlI (256 : Int) (mdI (adI (mlI
 (256 : Int) (mdI (adI (mlI (256 : Int) (mdI (adI (mlI (256 : Int) (mdI (adI (mlI (256 : Int) (mdI (adI (mlI (256 : Int) (mdI (adI (0 : Int) (X 15)) (10 : Int))) (X 14)) (10 : Int))) (X 13)) (10 : Int))) (X 12)) (10 :
 Int))) (X 11)) (10 : Int))) (X 10)) (10 : Int))) (X 9)) (10 : Int))) (X 8)) (10 : Int))) (X 7)) (10 : Int))) (X 6)) (10 : Int))) (X 5)) (10 : Int))) (X 4)) (10 : Int)) + (256 : Int) * (lowI IntKind.u8 (dvI (adI (mlI (256
 : Int) (mdI (adI (mlI (256 : Int) (mdI (adI (mlI (256 : Int) (mdI (adI (mlI (256 : Int) (mdI (adI (mlI (256 : Int) (mdI (adI (mlI (256 : Int) (mdI (adI (mlI (256 : Int) (mdI (adI (mlI (256 : Int) (mdI (adI (mlI (256 :
 Int) (mdI (adI (mlI (256 : Int) (mdI (adI (0 : Int) (X 15)) (10 : Int))) (X 14)) (10 : Int))) (X 13)) (10 : Int))) (X 12)) (10 : Int))) (X 11)) (10 : Int))) (X 10)) (10 : Int))) (X 9)) (10 : Int))) (X 8)) (10 : Int))) (X
 7)) (10 : Int))) (X 6)) (10 : Int))) (X 5)) (10 : Int)) + (256 : Int) * (lowI IntKind.u8 (dvI (adI (mlI (256 : Int) (mdI (adI (mlI (256 : Int) (mdI (adI (mlI (256 : Int) (mdI (adI (mlI (256 : Int) (mdI (adI (mlI (256 :
 Int) (mdI (adI (mlI (256 : Int) (mdI (adI (mlI (256 : Int) (mdI (adI (mlI (256 : Int) (mdI (adI (mlI (256 : Int) (mdI (adI (0 : Int) (X 15)) (10 : Int))) (X 14)) (10 : Int))) (X 13)) (10 : Int))) (X 12)) (10 : Int))) (X
 11)) (10 : Int))) (X 10)) (10 : Int))) (X 9)) (10 : Int))) (X 8)) (10 : Int))) (X 7)) (10 : Int))) (X 6)) (10 : Int)) + (256 : Int) * lowI IntKind.u8 (dvI (adI (mlI (256 : Int) (mdI (adI (mlI (256 : Int) (mdI (adI (mlI
 (256 : Int) (mdI (adI (mlI (256 : Int) (mdI (adI (mlI (256 : Int) (mdI (adI (mlI (256 : Int) (mdI (adI (mlI (256 : Int) (mdI (adI (mlI (256 : Int) (mdI (adI (0 : Int) (X 15)) (10 : Int))) (X 14)) (10 : Int))) (X 13)) (10
 : Int))) (X 12)) (10 : Int))) (X 11)) (10 : Int))) (X 10)) (10 : Int))) (X 9)) (10 : Int))) (X 8)) (10 : Int))) (X 7)) (10 : Int)))))))))]), Value.int IntKind.i64 (mdI (adI (mlI (256 : Int) (mdI (adI (mlI (256 : Int) (mdI
 (adI (mlI (256 : Int) (mdI (adI (mlI (256 : Int) (mdI (adI (mlI (256 : Int) (mdI (adI (mlI (256 : Int) (mdI (adI (mlI (256 : Int) (mdI (adI (mlI (256 : Int) (mdI (adI (mlI (256 : Int) (mdI (adI (mlI (256 : Int) (mdI (adI
 (mlI (256 : Int) (mdI (adI (mlI (256 : Int) (mdI (adI (mlI (256 : Int) (mdI (adI (mlI (256 : Int) (mdI (adI (mlI (256 : Int) (mdI (adI (0 : Int) (X 15)) (10 : Int))) (X 14)) (10 : Int))) (X 13)) (10 : Int))) (X 12)) (10 :
 Int))) (X 11)) (10 : Int))) (X 10)) (10 : Int))) (X 9)) (10 : Int))) (X 8)) (10 : Int))) (X 7)) (10 : Int))) (X 6)) (10 : Int))) (X 5)) (10 : Int))) (X 4)) (10 : Int))) (X 3)) (10 : Int))) (X 2)) (10 : Int))) (X 1)) (10 :
 Int))) (X 0)) (10 : Int))]), [], 4, []), [], [BysIs X h l, ∀ (k : Nat), X k = byX h l k, rg IntKind.i64 (0 : Int), rg IntKind.i64 (X 15), rg IntKind.i64 (adI (0 : Int) (X 15)), (0 : Int) ≤ adI (0 : Int) (X 15) ∧ (0 : Int)
 < (10 : Int) ∧ rg IntKind.i64 (adI (0 : Int) (X 15)), (0 : Int) ≤ adI (0 : Int) (X 15) ∧ (0 : Int) < (10 : Int), rg IntKind.i64 (mlI (256 : Int) (mdI (adI (0 : Int) (X 15)) (10 : Int))), rg IntKind.i64 (X 14), rg
 IntKind.i64 (adI (mlI (256 : Int) (mdI (adI (0 : Int) (X 15)) (10 : Int))) (X 14)), (0 : Int) ≤ adI (mlI (256 : Int) (mdI (adI (0 : Int) (X 15)) (10 : Int))) (X 14) ∧ (0 : Int) < (10 : Int) ∧ rg IntKind.i64 (adI (mlI (256
 : Int) (mdI (adI (0 : Int) (X 15)) (10 : Int))) (X 14)), (0 : Int) ≤ adI (mlI (256 : Int) (mdI (adI (0 : Int) (X 15)) (10 : Int))) (X 14) ∧ (0 : Int) < (10 : Int), rg IntKind.i64 (mlI (256 : Int) (mdI (adI (mlI (256 :
 Int) (mdI (adI (0 : Int) (X 15)) (10 : Int))) (X 14)) (10 : Int))), rg IntKind.i64 (X 13), rg IntKind.i64 (adI (mlI (256 : Int) (mdI (adI (mlI (256 : Int) (mdI (adI (0 : Int) (X 15)) (10 : Int))) (X 14)) (10 : Int))) (X
 13)), (0 : Int) ≤ adI (mlI (256 : Int) (mdI (adI (mlI (256 : Int) (mdI (adI (0 : Int) (X 15)) (10 : Int))) (X 14)) (10 : Int))) (X 13) ∧ (0 : Int) < (10 : Int) ∧ rg IntKind.i64 (adI (mlI (256 : Int) (mdI (adI (mlI (256 :
 Int) (mdI (adI (0 : Int) (X 15)) (10 : Int))) (X 14)) (10 : Int))) (X 13)), (0 : Int) ≤ adI (mlI (256 : Int) (mdI (adI (mlI (256 : Int) (mdI (adI (0 : Int) (X 15)) (10 : Int))) (X 14)) (10 : Int))) (X 13) ∧ (0 : Int) <
 (10 : Int), rg IntKind.i64 (mlI (256 : Int) (mdI (adI (mlI (256 : Int) (mdI (adI (mlI (256 : Int) (mdI (adI (0 : Int) (X 15)) (10 : Int))) (X 14)) (10 : Int))) (X 13)) (10 : Int))), rg IntKind.i64 (X 12), rg IntKind.i64
 (adI (mlI (256 : Int) (mdI (adI (mlI (256 : Int) (mdI (adI (mlI (256 : Int) (mdI (adI (0 : Int) (X 15)) (10 : Int))) (X 14)) (10 : Int))) (X 13)) (10 : Int))) (X 12)), (0 : Int) ≤ adI (mlI (256 : Int) (mdI (adI (mlI (256
 : Int) (mdI (adI (mlI (256 : Int) (mdI (adI (0 : Int) (X 15)) (10 : Int))) (X 14)) (10 : Int))) (X 13)) (10 : Int))) (X 12) ∧ (0 : Int) < (10 : Int) ∧ rg IntKind.i64 (adI (mlI (256 : Int) (mdI (adI (mlI (256 : Int) (mdI
 (adI (mlI (256 : Int) (mdI (adI (0 : Int) (X 15)) (10 : Int))) (X 14)) (10 : Int))) (X 13)) (10 : Int))) (X 12)), (0 : Int) ≤ adI (mlI (256 : Int) (mdI (adI (mlI (256 : Int) (mdI (adI (mlI (256 : Int) (mdI (adI (0 : Int)
 (X 15)) (10 : Int))) (X 14)) (10 : Int))) (X 13)) (10 : Int))) (X 12) ∧ (0 : Int) < (10 : Int), rg IntKind.i64 (mlI (256 : Int) (mdI (adI (mlI (256 : Int) (mdI (adI (mlI (256 : Int) (mdI (adI (mlI (256 : Int) (mdI (adI (0
 : Int) (X 15)) (10 : Int))) (X 14)) (10 : Int))) (X 13)) (10 : Int))) (X 12)) (10 : Int))), rg IntKind.i64 (X 11), rg IntKind.i64 (adI (mlI (256 : Int) (mdI (adI (mlI (256 : Int) (mdI (adI (mlI (256 : Int) (mdI (adI (mlI
 (256 : Int) (mdI (adI (0 : Int) (X 15)) (10 : Int))) (X 14)) (10 : Int))) (X 13)) (10 : Int))) (X 12)) (10 : Int))) (X 11)), (0 : Int) ≤ adI (mlI (256 : Int) (mdI (adI (mlI (256 : Int) (mdI (adI (mlI (256 : Int) (mdI (adI
 (mlI (256 : Int) (mdI (adI (0 : Int) (X 15)) (10 : Int))) (X 14)) (10 : Int))) (X 13)) (10 : Int))) (X 12)) (10 : Int))) (X 11) ∧ (0 : Int) < (10 : Int) ∧ rg IntKind.i64 (adI (mlI (256 : Int) (mdI (adI (mlI (256 : Int)
 (mdI (adI (mlI (256 : Int) (mdI (adI (mlI (256 : Int) (mdI (adI (0 : Int) (X 15)) (10 : Int))) (X 14)) (10 : Int))) (X 13)) (10 : Int))) (X 12)) (10 : Int))) (X 11)), (0 : Int) ≤ adI (mlI (256 : Int) (mdI (adI (mlI (256 :
 Int) (mdI (adI (mlI (256 : Int) (mdI (adI (mlI (256 : Int) (mdI (adI (0 : Int) (X 15)) (10 : Int))) (X 14)) (10 : Int))) (X 13)) (10 : Int))) (X 12)) (10 : Int))) (X 11) ∧ (0 : Int) < (10 : Int), rg IntKind.i64 (mlI (256
 : Int) (mdI (adI (mlI (256 : Int) (mdI (adI (mlI (256 : Int) (mdI (adI (mlI (256 : Int) (mdI (adI (mlI (256 : Int) (mdI (adI (0 : Int) (X 15)) (10 : Int))) (X 14)) (10 : Int))) (X 13)) (10 : Int))) (X 12)) (10 : Int))) (X
 11)) (10 : Int))), rg IntKind.i64 (X 10), rg IntKind.i64 (adI (mlI (256 : Int) (mdI (adI (mlI (256 : Int) (mdI (adI (mlI (256 : Int) (mdI (adI (mlI (256 : Int) (mdI (adI (mlI (256 : Int) (mdI (adI (0 : Int) (X 15)) (10 :
 Int))) (X 14)) (10 : Int))) (X 13)) (10 : Int))) (X 12)) (10 : Int))) (X 11)) (10 : Int))) (X 10)), (0 : Int) ≤ adI (mlI (256 : Int) (mdI (adI (mlI (256 : Int) (mdI (adI (mlI (256 : Int) (mdI (adI (mlI (256 : Int) (mdI
 (adI (mlI (256 : Int) (mdI (adI (0 : Int) (X 15)) (10 : Int))) (X 14)) (10 : Int))) (X 13)) (10 : Int))) (X 12)) (10 : Int))) (X 11)) (10 : Int))) (X 10) ∧ (0 : Int) < (10 : Int) ∧ rg IntKind.i64 (adI (mlI (256 : Int)
 (mdI (adI (mlI (256 : Int) (mdI (adI (mlI (256 : Int) (mdI (adI (mlI (256 : Int) (mdI (adI (mlI (256 : Int) (mdI (adI (0 : Int) (X 15)) (10 : Int))) (X 14)) (10 : Int))) (X 13)) (10 : Int))) (X 12)) (10 : Int))) (X 11))
 (10 : Int))) (X 10)), (0 : Int) ≤ adI (mlI (256 : Int) (mdI (adI (mlI (256 : Int) (mdI (adI (mlI (256 : Int) (mdI (adI (mlI (256 : Int) (mdI (adI (mlI (256 : Int) (mdI (adI (0 : Int) (X 15)) (10 : Int))) (X 14)) (10 :
 Int))) (X 13)) (10 : Int))) (X 12)) (10 : Int))) (X 11)) (10 : Int))) (X 10) ∧ (0 : Int) < (10 : Int), rg IntKind.i64 (mlI (256 : Int) (mdI (adI (mlI (256 : Int) (mdI (adI (mlI (256 : Int) (mdI (adI (mlI (256 : Int) (mdI
 (adI (mlI (256 : Int) (mdI (adI (mlI (256 : Int) (mdI (adI (0 : Int) (X 15)) (10 : Int))) (X 14)) (10 : Int))) (X 13)) (10 : Int))) (X 12)) (10 : Int))) (X 11)) (10 : Int))) (X 10)) (10 : Int))), rg IntKind.i64 (X 9), rg
 IntKind.i64 (adI (mlI (256 : Int) (mdI (adI (mlI (256 : Int) (mdI (adI (mlI (256 : Int) (mdI (adI (mlI (256 : Int) (mdI (adI (mlI (256 : Int) (mdI (adI (mlI (256 : Int) (mdI (adI (0 : Int) (X 15)) (10 : Int))) (X 14)) (10
 : Int))) (X 13)) (10 : Int))) (X 12)) (10 : Int))) (X 11)) (10 : Int))) (X 10)) (10 : Int))) (X 9)), (0 : Int) ≤ adI (mlI (256 : Int) (mdI (adI (mlI (256 : Int) (mdI (adI (mlI (256 : Int) (mdI (adI (mlI (256 : Int) (mdI
 (adI (mlI (256 : Int) (mdI (adI (mlI (256 : Int) (mdI (adI (0 : Int) (X 15)) (10 : Int))) (X 14)) (10 : Int))) (X 13)) (10 : Int))) (X 12)) (10 : Int))) (X 11)) (10 : Int))) (X 10)) (10 : Int))) (X 9) ∧ (0 : Int) < (10 :
 Int) ∧ rg IntKind.i64 (adI (mlI (256 : Int) (mdI (adI (mlI (256 : Int) (mdI (adI (mlI (256 : Int) (mdI (adI (mlI (256 : Int) (mdI (adI (mlI (256 : Int) (mdI (adI (mlI (256 : Int) (mdI (adI (0 : Int) (X 15)) (10 : Int)))
 (X 14)) (10 : Int))) (X 13)) (10 : Int))) (X 12)) (10 : Int))) (X 11)) (10 : Int))) (X 10)) (10 : Int))) (X 9)), (0 : Int) ≤ adI (mlI (256 : Int) (mdI (adI (mlI (256 : Int) (mdI (adI (mlI (256 : Int) (mdI (adI (mlI (256 :
 Int) (mdI (adI (mlI (256 : Int) (mdI (adI (mlI (256 : Int) (mdI (adI (0 : Int) (X 15)) (10 : Int))) (X 14)) (10 : Int))) (X 13)) (10 : Int))) (X 12)) (10 : Int))) (X 11)) (10 : Int))) (X 10)) (10 : Int))) (X 9) ∧ (0 :
 Int) < (10 : Int), rg IntKind.i64 (mlI (256 : Int) (mdI (adI (mlI (256 : Int) (mdI (adI (mlI (256 : Int) (mdI (adI (mlI (256 : Int) (mdI (adI (mlI (256 : Int) (mdI (adI (mlI (256 : Int) (mdI (adI (mlI (256 : Int) (mdI
 (adI (0 : Int) (X 15)) (10 : Int))) (X 14)) (10 : Int))) (X 13)) (10 : Int))) (X 12)) (10 : Int))) (X 11)) (10 : Int))) (X 10)) (10 : Int))) (X 9)) (10 : Int))), rg IntKind.i64 (X 8), rg IntKind.i64 (adI (mlI (256 : Int)
 (mdI (adI (mlI (256 : Int) (mdI (adI (mlI (256 : Int) (mdI (adI (mlI (256 : Int) (mdI (adI (mlI (256 : Int) (mdI (adI (mlI (256 : Int) (mdI (adI (mlI (256 : Int) (mdI (adI (0 : Int) (X 15)) (10 : Int))) (X 14)) (10 :
 Int))) (X 13)) (10 : Int))) (X 12)) (10 : Int))) (X 11)) (10 : Int))) (X 10)) (10 : Int))) (X 9)) (10 : Int))) (X 8)), (0 : Int) ≤ adI (mlI (256 : Int) (mdI (adI (mlI (256 : Int) (mdI (adI (mlI (256 : Int) (mdI (adI (mlI
 (256 : Int) (mdI (adI (mlI (256 : Int) (mdI (adI (mlI (256 : Int) (mdI (adI (mlI (256 : Int) (mdI (adI (0 : Int) (X 15)) (10 : Int))) (X 14)) (10 : Int))) (X 13)) (10 : Int))) (X 12)) (10 : Int))) (X 11)) (10 : Int))) (X
 10)) (10 : Int))) (X 9)) (10 : Int))) (X 8) ∧ (0 : Int) < (10 : Int) ∧ rg IntKind.i64 (adI (mlI (256 : Int) (mdI (adI (mlI (256 : Int) (mdI (adI (mlI (256 : Int) (mdI (adI (mlI (256 : Int) (mdI (adI (mlI (256 : Int) (mdI
 (adI (mlI (256 : Int) (mdI (adI (mlI (256 : Int) (mdI (adI (0 : Int) (X 15)) (10 : Int))) (X 14)) (10 : Int))) (X 13)) (10 : Int))) (X 12)) (10 : Int))) (X 11)) (10 : Int))) (X 10)) (10 : Int))) (X 9)) (10 : Int))) (X
 8)), (0 : Int) ≤ adI (mlI (256 : Int) (mdI (adI (mlI (256 : Int) (mdI (adI (mlI (256 : Int) (mdI (adI (mlI (256 : Int) (mdI (adI (mlI (256 : Int) (mdI (adI (mlI (256 : Int) (mdI (adI (mlI (256 : Int) (mdI (adI (0 : Int)
 (X 15)) (10 : Int))) (X 14)) (10 : Int))) (X 13)) (10 : Int))) (X 12)) (10 : Int))) (X 11)) (10 : Int))) (X 10)) (10 : Int))) (X 9)) (10 : Int))) (X 8) ∧ (0 : Int) < (10 : Int), rg IntKind.i64 (mlI (256 : Int) (mdI (adI
 (mlI (256 : Int) (mdI (adI (mlI (256 : Int) (mdI (adI (mlI (256 : Int) (mdI (adI (mlI (256 : Int) (mdI (adI (mlI (256 : Int) (mdI (adI (mlI (256 : Int) (mdI (adI (mlI (256 : Int) (mdI (adI (0 : Int) (X 15)) (10 : Int)))
 (X 14)) (10 : Int))) (X 13)) (10 : Int))) (X 12)) (10 : Int))) (X 11)) (10 : Int))) (X 10)) (10 : Int))) (X 9)) (10 : Int))) (X 8)) (10 : Int))), rg IntKind.i64 (X 7), rg IntKind.i64 (adI (mlI (256 : Int) (mdI (adI (mlI
 (256 : Int) (mdI (adI (mlI (256 : Int) (mdI (adI (mlI (256 : Int) (mdI (adI (mlI (256 : Int) (mdI (adI (mlI (256 : Int) (mdI (adI (mlI (256 : Int) (mdI (adI (mlI (256 : Int) (mdI (adI (0 : Int) (X 15)) (10 : Int))) (X
 14)) (10 : Int))) (X 13)) (10 : Int))) (X 12)) (10 : Int))) (X 11)) (10 : Int))) (X 10)) (10 : Int))) (X 9)) (10 : Int))) (X 8)) (10 : Int))) (X 7)), (0 : Int) ≤ adI (mlI (256 : Int) (mdI (adI (mlI (256 : Int) (mdI (adI
 (mlI (256 : Int) (mdI (adI (mlI (256 : Int) (mdI (adI (mlI (256 : Int) (mdI (adI (mlI (256 : Int) (mdI (adI (mlI (256 : Int) (mdI (adI (mlI (256 : Int) (mdI (adI (0 : Int) (X 15)) (10 : Int))) (X 14)) (10 : Int))) (X 13))
 (10 : Int))) (X 12)) (10 : Int))) (X 11)) (10 : Int))) (X 10)) (10 : Int))) (X 9)) (10 : Int))) (X 8)) (10 : Int))) (X 7) ∧ (0 : Int) < (10 : Int) ∧ rg IntKind.i64 (adI (mlI (256 : Int) (mdI (adI (mlI (256 : Int) (mdI
 (adI (mlI (256 : Int) (mdI (adI (mlI (256 : Int) (mdI (adI (mlI (256 : Int) (mdI (adI (mlI (256 : Int) (mdI (adI (mlI (256 : Int) (mdI (adI (mlI (256 : Int) (mdI (adI (0 : Int) (X 15)) (10 : Int))) (X 14)) (10 : Int))) (X
 13)) (10 : Int))) (X 12)) (10 : Int))) (X 11)) (10 : Int))) (X 10)) (10 : Int))) (X 9)) (10 : Int))) (X 8)) (10 : Int))) (X 7)), (0 : Int) ≤ adI (mlI (256 : Int) (mdI (adI (mlI (256 : Int) (mdI (adI (mlI (256 : Int) (mdI
 (adI (mlI (256 : Int) (mdI (adI (mlI (256 : Int) (mdI (adI (mlI (256 : Int) (mdI (adI (mlI (256 : Int) (mdI (adI (mlI (256 : Int) (mdI (adI (0 : Int) (X 15)) (10 : Int))) (X 14)) (10 : Int))) (X 13)) (10 : Int))) (X 12))
 (10 : Int))) (X 11)) (10 : Int))) (X 10)) (10 : Int))) (X 9)) (10 : Int))) (X 8)) (10 : Int))) (X 7) ∧ (0 : Int) < (10 : Int), rg IntKind.i64 (mlI (256 : Int) (mdI (adI (mlI (256 : Int) (mdI (adI (mlI (256 : Int) (mdI
 (adI (mlI (256 : Int) (mdI (adI (mlI (256 : Int) (mdI (adI (mlI (256 : Int) (mdI (adI (mlI (256 : Int) (mdI (adI (mlI (256 : Int) (mdI (adI (mlI (256 : Int) (mdI (adI (0 : Int) (X 15)) (10 : Int))) (X 14)) (10 : Int))) (X
 13)) (10 : Int))) (X 12)) (10 : Int))) (X 11)) (10 : Int))) (X 10)) (10 : Int))) (X 9)) (10 : Int))) (X 8)) (10 : Int))) (X 7)) (10 : Int))), rg IntKind.i64 (X 6), rg IntKind.i64 (adI (mlI (256 : Int) (mdI (adI (mlI (256
 : Int) (mdI (adI (mlI (256 : Int) (mdI (adI (mlI (256 : Int) (mdI (adI (mlI (256 : Int) (mdI (adI (mlI (256 : Int) (mdI (adI (mlI (256 : Int) (mdI (adI (mlI (256 : Int) (mdI (adI (mlI (256 : Int) (mdI (adI (0 : Int) (X
 15)) (10 : Int))) (X 14)) (10 : Int))) (X 13)) (10 : Int))) (X 12)) (10 : Int))) (X 11)) (10 : Int))) (X 10)) (10 : Int))) (X 9)) (10 : Int))) (X 8)) (10 : Int))) (X 7)) (10 : Int))) (X 6)), (0 : Int) ≤ adI (mlI (256 :
 Int) (mdI (adI (mlI (256 : Int) (mdI (adI (mlI (256 : Int) (mdI (adI (mlI (256 : Int) (mdI (adI (mlI (256 : Int) (mdI (adI (mlI (256 : Int) (mdI (adI (mlI (256 : Int) (mdI (adI (mlI (256 : Int) (mdI (adI (mlI (256 : Int)
 (mdI (adI (0 : Int) (X 15)) (10 : Int))) (X 14)) (10 : Int))) (X 13)) (10 : Int))) (X 12)) (10 : Int))) (X 11)) (10 : Int))) (X 10)) (10 : Int))) (X 9)) (10 : Int))) (X 8)) (10 : Int))) (X 7)) (10 : Int))) (X 6) ∧ (0 :
 Int) < (10 : Int) ∧ rg IntKind.i64 (adI (mlI (256 : Int) (mdI (adI (mlI (256 : Int) (mdI (adI (mlI (256 : Int) (mdI (adI (mlI (256 : Int) (mdI (adI (mlI (256 : Int) (mdI (adI (mlI (256 : Int) (mdI (adI (mlI (256 : Int)
 (mdI (adI (mlI (256 : Int) (mdI (adI (mlI (256 : Int) (mdI (adI (0 : Int) (X 15)) (10 : Int))) (X 14)) (10 : Int))) (X 13)) (10 : Int))) (X 12)) (10 : Int))) (X 11)) (10 : Int))) (X 10)) (10 : Int))) (X 9)) (10 : Int)))
 (X 8)) (10 : Int))) (X 7)) (10 : Int))) (X 6)), (0 : Int) ≤ adI (mlI (256 : Int) (mdI (adI (mlI (256 : Int) (mdI (adI (mlI (256 : Int) (mdI (adI (mlI (256 : Int) (mdI (adI (mlI (256 : Int) (mdI (adI (mlI (256 : Int) (mdI
 (adI (mlI (256 : Int) (mdI (adI (mlI (256 : Int) (mdI (adI (mlI (256 : Int) (mdI (adI (0 : Int) (X 15)) (10 : Int))) (X 14)) (10 : Int))) (X 13)) (10 : Int))) (X 12)) (10 : Int))) (X 11)) (10 : Int))) (X 10)) (10 : Int)))
 (X 9)) (10 : Int))) (X 8)) (10 : Int))) (X 7)) (10 : Int))) (X 6) ∧ (0 : Int) < (10 : Int), rg IntKind.i64 (mlI (256 : Int) (mdI (adI (mlI (256 : Int) (mdI (adI (mlI (256 : Int) (mdI (adI (mlI (256 : Int) (mdI (adI (mlI
 (256 : Int) (mdI (adI (mlI (256 : Int) (mdI (adI (mlI (256 : Int) (mdI (adI (mlI (256 : Int) (mdI (adI (mlI (256 : Int) (mdI (adI (mlI (256 : Int) (mdI (adI (0 : Int) (X 15)) (10 : Int))) (X 14)) (10 : Int))) (X 13)) (10
 : Int))) (X 12)) (10 : Int))) (X 11)) (10 : Int))) (X 10)) (10 : Int))) (X 9)) (10 : Int))) (X 8)) (10 : Int))) (X 7)) (10 : Int))) (X 6)) (10 : Int))), rg IntKind.i64 (X 5), rg IntKind.i64 (adI (mlI (256 : Int) (mdI (adI
 (mlI (256 : Int) (mdI (adI (mlI (256 : Int) (mdI (adI (mlI (256 : Int) (mdI (adI (mlI (256 : Int) (mdI (adI (mlI (256 : Int) (mdI (adI (mlI (256 : Int) (mdI (adI (mlI (256 : Int) (mdI (adI (mlI (256 : Int) (mdI (adI (mlI
 (256 : Int) (mdI (adI (0 : Int) (X 15)) (10 : Int))) (X 14)) (10 : Int))) (X 13)) (10 : Int))) (X 12)) (10 : Int))) (X 11)) (10 : Int))) (X 10)) (10 : Int))) (X 9)) (10 : Int))) (X 8)) (10 : Int))) (X 7)) (10 : Int))) (X
 6)) (10 : Int))) (X 5)), (0 : Int) ≤ adI (mlI (256 : Int) (mdI (adI (mlI (256 : Int) (mdI (adI (mlI (256 : Int) (mdI (adI (mlI (256 : Int) (mdI (adI (mlI (256 : Int) (mdI (adI (mlI (256 : Int) (mdI (adI (mlI (256 : Int)
 (mdI (adI (mlI (256 : Int) (mdI (adI (mlI (256 : Int) (mdI (adI (mlI (256 : Int) (mdI (adI (0 : Int) (X 15)) (10 : Int))) (X 14)) (10 : Int))) (X 13)) (10 : Int))) (X 12)) (10 : Int))) (X 11)) (10 : Int))) (X 10)) (10 :
 Int))) (X 9)) (10 : Int))) (X 8)) (10 : Int))) (X 7)) (10 : Int))) (X 6)) (10 : Int))) (X 5) ∧ (0 : Int) < (10 : Int) ∧ rg IntKind.i64 (adI (mlI (256 : Int) (mdI (adI (mlI (256 : Int) (mdI (adI (mlI (256 : Int) (mdI (adI
 (mlI (256 : Int) (mdI (adI (mlI (256 : Int) (mdI (adI (mlI (256 : Int) (mdI (adI (mlI (256 : Int) (mdI (adI (mlI (256 : Int) (mdI (adI (mlI (256 : Int) (mdI (adI (mlI (256 : Int) (mdI (adI (0 : Int) (X 15)) (10 : Int)))
 (X 14)) (10 : Int))) (X 13)) (10 : Int))) (X 12)) (10 : Int))) (X 11)) (10 : Int))) (X 10)) (10 : Int))) (X 9)) (10 : Int))) (X 8)) (10 : Int))) (X 7)) (10 : Int))) (X 6)) (10 : Int))) (X 5)), (0 : Int) ≤ adI (mlI (256 :
 Int) (mdI (adI (mlI (256 : Int) (mdI (adI (mlI (256 : Int) (mdI (adI (mlI (256 : Int) (mdI (adI (mlI (256 : Int) (mdI (adI (mlI (256 : Int) (mdI (adI (mlI (256 : Int) (mdI (adI (mlI (256 : Int) (mdI (adI (mlI (256 : Int)
 (mdI (adI (mlI (256 : Int) (mdI (adI (0 : Int) (X 15)) (10 : Int))) (X 14)) (10 : Int))) (X 13)) (10 : Int))) (X 12)) (10 : Int))) (X 11)) (10 : Int))) (X 10)) (10 : Int))) (X 9)) (10 : Int))) (X 8)) (10 : Int))) (X 7))
 (10 : Int))) (X 6)) (10 : Int))) (X 5) ∧ (0 : Int) < (10 : Int), rg IntKind.i64 (mlI (256 : Int) (mdI (adI (mlI (256 : Int) (mdI (adI (mlI (256 : Int) (mdI (adI (mlI (256 : Int) (mdI (adI (mlI (256 : Int) (mdI (adI (mlI
 (256 : Int) (mdI (adI (mlI (256 : Int) (mdI (adI (mlI (256 : Int) (mdI (adI (mlI (256 : Int) (mdI (adI (mlI (256 : Int) (mdI (adI (mlI (256 : Int) (mdI (adI (0 : Int) (X 15)) (10 : Int))) (X 14)) (10 : Int))) (X 13)) (10
 : Int))) (X 12)) (10 : Int))) (X 11)) (10 : Int))) (X 10)) (10 : Int))) (X 9)) (10 : Int))) (X 8)) (10 : Int))) (X 7)) (10 : Int))) (X 6)) (10 : Int))) (X 5)) (10 : Int))), rg IntKind.i64 (X 4), rg IntKind.i64 (adI (mlI
 (256 : Int) (mdI (adI (mlI (256 : Int) (mdI (adI (mlI (256 : Int) (mdI (adI (mlI (256 : Int) (mdI (adI (mlI (256 : Int) (mdI (adI (mlI (256 : Int) (mdI (adI (mlI (256 : Int) (mdI (adI (mlI (256 : Int) (mdI (adI (mlI (256
 : Int) (mdI (adI (mlI (256 : Int) (mdI (adI (mlI (256 : Int) (mdI (adI (0 : Int) (X 15)) (10 : Int))) (X 14)) (10 : Int))) (X 13)) (10 : Int))) (X 12)) (10 : Int))) (X 11)) (10 : Int))) (X 10)) (10 : Int))) (X 9)) (10 :
 Int))) (X 8)) (10 : Int))) (X 7)) (10 : Int))) (X 6)) (10 : Int))) (X 5)) (10 : Int))) (X 4)), (0 : Int) ≤ adI (mlI (256 : Int) (mdI (adI (mlI (256 : Int) (mdI (adI (mlI (256 : Int) (mdI (adI (mlI (256 : Int) (mdI (adI
 (mlI (256 : Int) (mdI (adI (mlI (256 : Int) (mdI (adI (mlI (256 : Int) (mdI (adI (mlI (256 : Int) (mdI (adI (mlI (256 : Int) (mdI (adI (mlI (256 : Int) (mdI (adI (mlI (256 : Int) (mdI (adI (0 : Int) (X 15)) (10 : Int)))
 (X 14)) (10 : Int))) (X 13)) (10 : Int))) (X 12)) (10 : Int))) (X 11)) (10 : Int))) (X 10)) (10 : Int))) (X 9)) (10 : Int))) (X 8)) (10 : Int))) (X 7)) (10 : Int))) (X 6)) (10 : Int))) (X 5)) (10 : Int))) (X 4) ∧ (0 :
 Int) < (10 : Int) ∧ rg IntKind.i64 (adI (mlI (256 : Int) (mdI (adI (mlI (256 : Int) (mdI (adI (mlI (256 : Int) (mdI (adI (mlI (256 : Int) (mdI (adI (mlI (256 : Int) (mdI (adI (mlI (256 : Int) (mdI (adI (mlI (256 : Int)
 (mdI (adI (mlI (256 : Int) (mdI (adI (mlI (256 : Int) (mdI (adI (mlI (256 : Int) (mdI (adI (mlI (256 : Int) (mdI (adI (0 : Int) (X 15)) (10 : Int))) (X 14)) (10 : Int))) (X 13)) (10 : Int))) (X 12)) (10 : Int))) (X 11))
 (10 : Int))) (X 10)) (10 : Int))) (X 9)) (10 : Int))) (X 8)) (10 : Int))) (X 7)) (10 : Int))) (X 6)) (10 : Int))) (X 5)) (10 : Int))) (X 4)), (0 : Int) ≤ adI (mlI (256 : Int) (mdI (adI (mlI (256 : Int) (mdI (adI (mlI (256
 : Int) (mdI (adI (mlI (256 : Int) (mdI (adI (mlI (256 : Int) (mdI (adI (mlI (256 : Int) (mdI (adI (mlI (256 : Int) (mdI (adI (mlI (256 : Int) (mdI (adI (mlI (256 : Int) (mdI (adI (mlI (256 : Int) (mdI (adI (mlI (256 :
 Int) (mdI (adI (0 : Int) (X 15)) (10 : Int))) (X 14)) (10 : Int))) (X 13)) (10 : Int))) (X 12)) (10 : Int))) (X 11)) (10 : Int))) (X 10)) (10 : Int))) (X 9)) (10 : Int))) (X 8)) (10 : Int))) (X 7)) (10 : Int))) (X 6)) (10
 : Int))) (X 5)) (10 : Int))) (X 4) ∧ (0 : Int) < (10 : Int), rg IntKind.i64 (mlI (256 : Int) (mdI (adI (mlI (256 : Int) (mdI (adI (mlI (256 : Int) (mdI (adI (mlI (256 : Int) (mdI (adI (mlI (256 : Int) (mdI (adI (mlI (256
 : Int) (mdI (adI (mlI (256 : Int) (mdI (adI (mlI (256 : Int) (mdI (adI (mlI (256 : Int) (mdI (adI (mlI (256 : Int) (mdI (adI (mlI (256 : Int) (mdI (adI (mlI (256 : Int) (mdI (adI (0 : Int) (X 15)) (10 : Int))) (X 14)) (10
 : Int))) (X 13)) (10 : Int))) (X 12)) (10 : Int))) (X 11)) (10 : Int))) (X 10)) (10 : Int))) (X 9)) (10 : Int))) (X 8)) (10 : Int))) (X 7)) (10 : Int))) (X 6)) (10 : Int))) (X 5)) (10 : Int))) (X 4)) (10 : Int))), rg
 IntKind.i64 (X 3), rg IntKind.i64 (adI (mlI (256 : Int) (mdI (adI (mlI (256 : Int) (mdI (adI (mlI (256 : Int) (mdI (adI (mlI (256 : Int) (mdI (adI (mlI (256 : Int) (mdI (adI (mlI (256 : Int) (mdI (adI (mlI (256 : Int)
 (mdI (adI (mlI (256 : Int) (mdI (adI (mlI (256 : Int) (mdI (adI (mlI (256 : Int) (mdI (adI (mlI (256 : Int) (mdI (adI (mlI (256 : Int) (mdI (adI (0 : Int) (X 15)) (10 : Int))) (X 14)) (10 : Int))) (X 13)) (10 : Int))) (X
 12)) (10 : Int))) (X 11)) (10 : Int))) (X 10)) (10 : Int))) (X 9)) (10 : Int))) (X 8)) (10 : Int))) (X 7)) (10 : Int))) (X 6)) (10 : Int))) (X 5)) (10 : Int))) (X 4)) (10 : Int))) (X 3)), (0 : Int) ≤ adI (mlI (256 : Int)
 (mdI (adI (mlI (256 : Int) (mdI (adI (mlI (256 : Int) (mdI (adI (mlI (256 : Int) (mdI (adI (mlI (256 : Int) (mdI (adI (mlI (256 : Int) (mdI (adI (mlI (256 : Int) (mdI (adI (mlI (256 : Int) (mdI (adI (mlI (256 : Int) (mdI
 (adI (mlI (256 : Int) (mdI (adI (mlI (256 : Int) (mdI (adI (mlI (256 : Int) (mdI (adI (0 : Int) (X 15)) (10 : Int))) (X 14)) (10 : Int))) (X 13)) (10 : Int))) (X 12)) (10 : Int))) (X 11)) (10 : Int))) (X 10)) (10 : Int)))
 (X 9)) (10 : Int))) (X 8)) (10 : Int))) (X 7)) (10 : Int))) (X 6)) (10 : Int))) (X 5)) (10 : Int))) (X 4)) (10 : Int))) (X 3) ∧ (0 : Int) < (10 : Int) ∧ rg IntKind.i64 (adI (mlI (256 : Int) (mdI (adI (mlI (256 : Int) (mdI
 (adI (mlI (256 : Int) (mdI (adI (mlI (256 : Int) (mdI (adI (mlI (256 : Int) (mdI (adI (mlI (256 : Int) (mdI (adI (mlI (256 : Int) (mdI (adI (mlI (256 : Int) (mdI (adI (mlI (256 : Int) (mdI (adI (mlI (256 : Int) (mdI (adI
 (mlI (256 : Int) (mdI (adI (mlI (256 : Int) (mdI (adI (0 : Int) (X 15)) (10 : Int))) (X 14)) (10 : Int))) (X 13)) (10 : Int))) (X 12)) (10 : Int))) (X 11)) (10 : Int))) (X 10)) (10 : Int))) (X 9)) (10 : Int))) (X 8)) (10
 : Int))) (X 7)) (10 : Int))) (X 6)) (10 : Int))) (X 5)) (10 : Int))) (X 4)) (10 : Int))) (X 3)), (0 : Int) ≤ adI (mlI (256 : Int) (mdI (adI (mlI (256 : Int) (mdI (adI (mlI (256 : Int) (mdI (adI (mlI (256 : Int) (mdI (adI
 (mlI (256 : Int) (mdI (adI (mlI (256 : Int) (mdI (adI (mlI (256 : Int) (mdI (adI (mlI (256 : Int) (mdI (adI (mlI (256 : Int) (mdI (adI (mlI (256 : Int) (mdI (adI (mlI (256 : Int) (mdI (adI (mlI (256 : Int) (mdI (adI (0 :
 Int) (X 15)) (10 : Int))) (X 14)) (10 : Int))) (X 13)) (10 : Int))) (X 12)) (10 : Int))) (X 11)) (10 : Int))) (X 10)) (10 : Int))) (X 9)) (10 : Int))) (X 8)) (10 : Int))) (X 7)) (10 : Int))) (X 6)) (10 : Int))) (X 5)) (10
 : Int))) (X 4)) (10 : Int))) (X 3) ∧ (0 : Int) < (10 : Int), rg IntKind.i64 (mlI (256 : Int) (mdI (adI (mlI (256 : Int) (mdI (adI (mlI (256 : Int) (mdI (adI (mlI (256 : Int) (mdI (adI (mlI (256 : Int) (mdI (adI (mlI (256
 : Int) (mdI (adI (mlI (256 : Int) (mdI (adI (mlI (256 : Int) (mdI (adI (mlI (256 : Int) (mdI (adI (mlI (256 : Int) (mdI (adI (mlI (256 : Int) (mdI (adI (mlI (256 : Int) (mdI (adI (mlI (256 : Int) (mdI (adI (0 : Int) (X
 15)) (10 : Int))) (X 14)) (10 : Int))) (X 13)) (10 : Int))) (X 12)) (10 : Int))) (X 11)) (10 : Int))) (X 10)) (10 : Int))) (X 9)) (10 : Int))) (X 8)) (10 : Int))) (X 7)) (10 : Int))) (X 6)) (10 : Int))) (X 5)) (10 :
 Int))) (X 4)) (10 : Int))) (X 3)) (10 : Int))), rg IntKind.i64 (X 2), rg IntKind.i64 (adI (mlI (256 : Int) (mdI (adI (mlI (256 : Int) (mdI (adI (mlI (256 : Int) (mdI (adI (mlI (256 : Int) (mdI (adI (mlI (256 : Int) (mdI
 (adI (mlI (256 : Int) (mdI (adI (mlI (256 : Int) (mdI (adI (mlI (256 : Int) (mdI (adI (mlI (256 : Int) (mdI (adI (mlI (256 : Int) (mdI (adI (mlI (256 : Int) (mdI (adI (mlI (256 : Int) (mdI (adI (mlI (256 : Int) (mdI (adI
 (0 : Int) (X 15)) (10 : Int))) (X 14)) (10 : Int))) (X 13)) (10 : Int))) (X 12)) (10 : Int))) (X 11)) (10 : Int))) (X 10)) (10 : Int))) (X 9)) (10 : Int))) (X 8)) (10 : Int))) (X 7)) (10 : Int))) (X 6)) (10 : Int))) (X
 5)) (10 : Int))) (X 4)) (10 : Int))) (X 3)) (10 : Int))) (X 2)), (0 : Int) ≤ adI (mlI (256 : Int) (mdI (adI (mlI (256 : Int) (mdI (adI (mlI (256 : Int) (mdI (adI (mlI (256 : Int) (mdI (adI (mlI (256 : Int) (mdI (adI (mlI
 (256 : Int) (mdI (adI (mlI (256 : Int) (mdI (adI (mlI (256 : Int) (mdI (adI (mlI (256 : Int) (mdI (adI (mlI (256 : Int) (mdI (adI (mlI (256 : Int) (mdI (adI (mlI (256 : Int) (mdI (adI (mlI (256 : Int) (mdI (adI (0 : Int)
 (X 15)) (10 : Int))) (X 14)) (10 : Int))) (X 13)) (10 : Int))) (X 12)) (10 : Int))) (X 11)) (10 : Int))) (X 10)) (10 : Int))) (X 9)) (10 : Int))) (X 8)) (10 : Int))) (X 7)) (10 : Int))) (X 6)) (10 : Int))) (X 5)) (10 :
 Int))) (X 4)) (10 : Int))) (X 3)) (10 : Int))) (X 2) ∧ (0 : Int) < (10 : Int) ∧ rg IntKind.i64 (adI (mlI (256 : Int) (mdI (adI (mlI (256 : Int) (mdI (adI (mlI (256 : Int) (mdI (adI (mlI (256 : Int) (mdI (adI (mlI (256 :
 Int) (mdI (adI (mlI (256 : Int) (mdI (adI (mlI (256 : Int) (mdI (adI (mlI (256 : Int) (mdI (adI (mlI (256 : Int) (mdI (adI (mlI (256 : Int) (mdI (adI (mlI (256 : Int) (mdI (adI (mlI (256 : Int) (mdI (adI (mlI (256 : Int)
 (mdI (adI (0 : Int) (X 15)) (10 : Int))) (X 14)) (10 : Int))) (X 13)) (10 : Int))) (X 12)) (10 : Int))) (X 11)) (10 : Int))) (X 10)) (10 : Int))) (X 9)) (10 : Int))) (X 8)) (10 : Int))) (X 7)) (10 : Int))) (X 6)) (10 :
 Int))) (X 5)) (10 : Int))) (X 4)) (10 : Int))) (X 3)) (10 : Int))) (X 2)), (0 : Int) ≤ adI (mlI (256 : Int) (mdI (adI (mlI (256 : Int) (mdI (adI (mlI (256 : Int) (mdI (adI (mlI (256 : Int) (mdI (adI (mlI (256 : Int) (mdI
 (adI (mlI (256 : Int) (mdI (adI (mlI (256 : Int) (mdI (adI (mlI (256 : Int) (mdI (adI (mlI (256 : Int) (mdI (adI (mlI (256 : Int) (mdI (adI (mlI (256 : Int) (mdI (adI (mlI (256 : Int) (mdI (adI (mlI (256 : Int) (mdI (adI
 (0 : Int) (X 15)) (10 : Int))) (X 14)) (10 : Int))) (X 13)) (10 : Int))) (X 12)) (10 : Int))) (X 11)) (10 : Int))) (X 10)) (10 : Int))) (X 9)) (10 : Int))) (X 8)) (10 : Int))) (X 7)) (10 : Int))) (X 6)) (10 : Int))) (X
 5)) (10 : Int))) (X 4)) (10 : Int))) (X 3)) (10 : Int))) (X 2) ∧ (0 : Int) < (10 : Int), rg IntKind.i64 (mlI (256 : Int) (mdI (adI (mlI (256 : Int) (mdI (adI (mlI (256 : Int) (mdI (adI (mlI (256 : Int) (mdI (adI (mlI (256
 : Int) (mdI (adI (mlI (256 : Int) (mdI (adI (mlI (256 : Int) (mdI (adI (mlI (256 : Int) (mdI (adI (mlI (256 : Int) (mdI (adI (mlI (256 : Int) (mdI (adI (mlI (256 : Int) (mdI (adI (mlI (256 : Int) (mdI (adI (mlI (256 :
 Int) (mdI (adI (mlI (256 : Int) (mdI (adI (0 : Int) (X 15)) (10 : Int))) (X 14)) (10 : Int))) (X 13)) (10 : Int))) (X 12)) (10 : Int))) (X 11)) (10 : Int))) (X 10)) (10 : Int))) (X 9)) (10 : Int))) (X 8)) (10 : Int))) (X
 7)) (10 : Int))) (X 6)) (10 : Int))) (X 5)) (10 : Int))) (X 4)) (10 : Int))) (X 3)) (10 : Int))) (X 2)) (10 : Int))), rg IntKind.i64 (X 1), rg IntKind.i64 (adI (mlI (256 : Int) (mdI (adI (mlI (256 : Int) (mdI (adI (mlI
 (256 : Int) (mdI (adI (mlI (256 : Int) (mdI (adI (mlI (256 : Int) (mdI (adI (mlI (256 : Int) (mdI (adI (mlI (256 : Int) (mdI (adI (mlI (256 : Int) (mdI (adI (mlI (256 : Int) (mdI (adI (mlI (256 : Int) (mdI (adI (mlI (256
 : Int) (mdI (adI (mlI (256 : Int) (mdI (adI (mlI (256 : Int) (mdI (adI (mlI (256 : Int) (mdI (adI (0 : Int) (X 15)) (10 : Int))) (X 14)) (10 : Int))) (X 13)) (10 : Int))) (X 12)) (10 : Int))) (X 11)) (10 : Int))) (X 10))
 (10 : Int))) (X 9)) (10 : Int))) (X 8)) (10 : Int))) (X 7)) (10 : Int))) (X 6)) (10 : Int))) (X 5)) (10 : Int))) (X 4)) (10 : Int))) (X 3)) (10 : Int))) (X 2)) (10 : Int))) (X 1)), (0 : Int) ≤ adI (mlI (256 : Int) (mdI
 (adI (mlI (256 : Int) (mdI (adI (mlI (256 : Int) (mdI (adI (mlI (256 : Int) (mdI (adI (mlI (256 : Int) (mdI (adI (mlI (256 : Int) (mdI (adI (mlI (256 : Int) (mdI (adI (mlI (256 : Int) (mdI (adI (mlI (256 : Int) (mdI (adI
 (mlI (256 : Int) (mdI (adI (mlI (256 : Int) (mdI (adI (mlI (256 : Int) (mdI (adI (mlI (256 : Int) (mdI (adI (mlI (256 : Int) (mdI (adI (0 : Int) (X 15)) (10 : Int))) (X 14)) (10 : Int))) (X 13)) (10 : Int))) (X 12)) (10 :
 Int))) (X 11)) (10 : Int))) (X 10)) (10 : Int))) (X 9)) (10 : Int))) (X 8)) (10 : Int))) (X 7)) (10 : Int))) (X 6)) (10 : Int))) (X 5)) (10 : Int))) (X 4)) (10 : Int))) (X 3)) (10 : Int))) (X 2)) (10 : Int))) (X 1) ∧ (0 :
 Int) < (10 : Int) ∧ rg IntKind.i64 (adI (mlI (256 : Int) (mdI (adI (mlI (256 : Int) (mdI (adI (mlI (256 : Int) (mdI (adI (mlI (256 : Int) (mdI (adI (mlI (256 : Int) (mdI (adI (mlI (256 : Int) (mdI (adI (mlI (256 : Int)
 (mdI (adI (mlI (256 : Int) (mdI (adI (mlI (256 : Int) (mdI (adI (mlI (256 : Int) (mdI (adI (mlI (256 : Int) (mdI (adI (mlI (256 : Int) (mdI (adI (mlI (256 : Int) (mdI (adI (mlI (256 : Int) (mdI (adI (0 : Int) (X 15)) (10
 : Int))) (X 14)) (10 : Int))) (X 13)) (10 : Int))) (X 12)) (10 : Int))) (X 11)) (10 : Int))) (X 10)) (10 : Int))) (X 9)) (10 : Int))) (X 8)) (10 : Int))) (X 7)) (10 : Int))) (X 6)) (10 : Int))) (X 5)) (10 : Int))) (X 4))
 (10 : Int))) (X 3)) (10 : Int))) (X 2)) (10 : Int))) (X 1)), (0 : Int) ≤ adI (mlI (256 : Int) (mdI (adI (mlI (256 : Int) (mdI (adI (mlI (256 : Int) (mdI (adI (mlI (256 : Int) (mdI (adI (mlI (256 : Int) (mdI (adI (mlI (256
 : Int) (mdI (adI (mlI (256 : Int) (mdI (adI (mlI (256 : Int) (mdI (adI (mlI (256 : Int) (mdI (adI (mlI (256 : Int) (mdI (adI (mlI (256 : Int) (mdI (adI (mlI (256 : Int) (mdI (adI (mlI (256 : Int) (mdI (adI (mlI (256 :
 Int) (mdI (adI (0 : Int) (X 15)) (10 : Int))) (X 14)) (10 : Int))) (X 13)) (10 : Int))) (X 12)) (10 : Int))) (X 11)) (10 : Int))) (X 10)) (10 : Int))) (X 9)) (10 : Int))) (X 8)) (10 : Int))) (X 7)) (10 : Int))) (X 6)) (10
 : Int))) (X 5)) (10 : Int))) (X 4)) (10 : Int))) (X 3)) (10 : Int))) (X 2)) (10 : Int))) (X 1) ∧ (0 : Int) < (10 : Int), rg IntKind.i64 (mlI (256 : Int) (mdI (adI (mlI (256 : Int) (mdI (adI (mlI (256 : Int) (mdI (adI (mlI
 (256 : Int) (mdI (adI (mlI (256 : Int) (mdI (adI (mlI (256 : Int) (mdI (adI (mlI (256 : Int) (mdI (adI (mlI (256 : Int) (mdI (adI (mlI (256 : Int) (mdI (adI (mlI (256 : Int) (mdI (adI (mlI (256 : Int) (mdI (adI (mlI (256
 : Int) (mdI (adI (mlI (256 : Int) (mdI (adI (mlI (256 : Int) (mdI (adI (mlI (256 : Int) (mdI (adI (0 : Int) (X 15)) (10 : Int))) (X 14)) (10 : Int))) (X 13)) (10 : Int))) (X 12)) (10 : Int))) (X 11)) (10 : Int))) (X 10))
 (10 : Int))) (X 9)) (10 : Int))) (X 8)) (10 : Int))) (X 7)) (10 : Int))) (X 6)) (10 : Int))) (X 5)) (10 : Int))) (X 4)) (10 : Int))) (X 3)) (10 : Int))) (X 2)) (10 : Int))) (X 1)) (10 : Int))), rg IntKind.i64 (X 0), rg
 IntKind.i64 (adI (mlI (256 : Int) (mdI (adI (mlI (256 : Int) (mdI (adI (mlI (256 : Int) (mdI (adI (mlI (256 : Int) (mdI (adI (mlI (256 : Int) (mdI (adI (mlI (256 : Int) (mdI (adI (mlI (256 : Int) (mdI (adI (mlI (256 :
 Int) (mdI (adI (mlI (256 : Int) (mdI (adI (mlI (256 : Int) (mdI (adI (mlI (256 : Int) (mdI (adI (mlI (256 : Int) (mdI (adI (mlI (256 : Int) (mdI (adI (mlI (256 : Int) (mdI (adI (mlI (256 : Int) (mdI (adI (0 : Int) (X 15))
 (10 : Int))) (X 14)) (10 : Int))) (X 13)) (10 : Int))) (X 12)) (10 : Int))) (X 11)) (10 : Int))) (X 10)) (10 : Int))) (X 9)) (10 : Int))) (X 8)) (10 : Int))) (X 7)) (10 : Int))) (X 6)) (10 : Int))) (X 5)) (10 : Int))) (X
 4)) (10 : Int))) (X 3)) (10 : Int))) (X 2)) (10 : Int))) (X 1)) (10 : Int))) (X 0)), (0 : Int) ≤ adI (mlI (256 : Int) (mdI (adI (mlI (256 : Int) (mdI (adI (mlI (256 : Int) (mdI (adI (mlI (256 : Int) (mdI (adI (mlI (256 :
 Int) (mdI (adI (mlI (256 : Int) (mdI (adI (mlI (256 : Int) (mdI (adI (mlI (256 : Int) (mdI (adI (mlI (256 : Int) (mdI (adI (mlI (256 : Int) (mdI (adI (mlI (256 : Int) (mdI (adI (mlI (256 : Int) (mdI (adI (mlI (256 : Int)
 (mdI (adI (mlI (256 : Int) (mdI (adI (mlI (256 : Int) (mdI (adI (0 : Int) (X 15)) (10 : Int))) (X 14)) (10 : Int))) (X 13)) (10 : Int))) (X 12)) (10 : Int))) (X 11)) (10 : Int))) (X 10)) (10 : Int))) (X 9)) (10 : Int)))
 (X 8)) (10 : Int))) (X 7)) (10 : Int))) (X 6)) (10 : Int))) (X 5)) (10 : Int))) (X 4)) (10 : Int))) (X 3)) (10 : Int))) (X 2)) (10 : Int))) (X 1)) (10 : Int))) (X 0) ∧ (0 : Int) < (10 : Int) ∧ rg IntKind.i64 (adI (mlI
 (256 : Int) (mdI (adI (mlI (256 : Int) (mdI (adI (mlI (256 : Int) (mdI (adI (mlI (256 : Int) (mdI (adI (mlI (256 : Int) (mdI (adI (mlI (256 : Int) (mdI (adI (mlI (256 : Int) (mdI (adI (mlI (256 : Int) (mdI (adI (mlI (256
 : Int) (mdI (adI (mlI (256 : Int) (mdI (adI (mlI (256 : Int) (mdI (adI (mlI (256 : Int) (mdI (adI (mlI (256 : Int) (mdI (adI (mlI (256 : Int) (mdI (adI (mlI (256 : Int) (mdI (adI (0 : Int) (X 15)) (10 : Int))) (X 14)) (10
 : Int))) (X 13)) (10 : Int))) (X 12)) (10 : Int))) (X 11)) (10 : Int))) (X 10)) (10 : Int))) (X 9)) (10 : Int))) (X 8)) (10 : Int))) (X 7)) (10 : Int))) (X 6)) (10 : Int))) (X 5)) (10 : Int))) (X 4)) (10 : Int))) (X 3))
 (10 : Int))) (X 2)) (10 : Int))) (X 1)) (10 : Int))) (X 0)), (0 : Int) ≤ adI (mlI (256 : Int) (mdI (adI (mlI (256 : Int) (mdI (adI (mlI (256 : Int) (mdI (adI (mlI (256 : Int) (mdI (adI (mlI (256 : Int) (mdI (adI (mlI (256
 : Int) (mdI (adI (mlI (256 : Int) (mdI (adI (mlI (256 : Int) (mdI (adI (mlI (256 : Int) (mdI (adI (mlI (256 : Int) (mdI (adI (mlI (256 : Int) (mdI (adI (mlI (256 : Int) (mdI (adI (mlI (256 : Int) (mdI (adI (mlI (256 :
 Int) (mdI (adI (mlI (256 : Int) (mdI (adI (0 : Int) (X 15)) (10 : Int))) (X 14)) (10 : Int))) (X 13)) (10 : Int))) (X 12)) (10 : Int))) (X 11)) (10 : Int))) (X 10)) (10 : Int))) (X 9)) (10 : Int))) (X 8)) (10 : Int))) (X
 7)) (10 : Int))) (X 6)) (10 : Int))) (X 5)) (10 : Int))) (X 4)) (10 : Int))) (X 3)) (10 : Int))) (X 2)) (10 : Int))) (X 1)) (10 : Int))) (X 0) ∧ (0 : Int) < (10 : Int), (0 : Int) ≤ lowI IntKind.u8 (dvI (adI (mlI (256 :
 Int) (mdI (adI (mlI (256 : Int) (mdI (adI (mlI (256 : Int) (mdI (adI (mlI (256 : Int) (mdI (adI (mlI (256 : Int) (mdI (adI (mlI (256 : Int) (mdI (adI (mlI (256 : Int) (mdI (adI (mlI (256 : Int) (mdI (adI (mlI (256 : Int)
 (mdI (adI (mlI (256 : Int) (mdI (adI (mlI (256 : Int) (mdI (adI (mlI (256 : Int) (mdI (adI (mlI (256 : Int) (mdI (adI (mlI (256 : Int) (mdI (adI (mlI (256 : Int) (mdI (adI (0 : Int) (X 15)) (10 : Int))) (X 14)) (10 :
 Int))) (X 13)) (10 : Int))) (X 12)) (10 : Int))) (X 11)) (10 : Int))) (X 10)) (10 : Int))) (X 9)) (10 : Int))) (X 8)) (10 : Int))) (X 7)) (10 : Int))) (X 6)) (10 : Int))) (X 5)) (10 : Int))) (X 4)) (10 : Int))) (X 3)) (10
 : Int))) (X 2)) (10 : Int))) (X 1)) (10 : Int))) (X 0)) (10 : Int)) ∧ lowI IntKind.u8 (dvI (adI (mlI (256 : Int) (mdI (adI (mlI (256 : Int) (mdI (adI (mlI (256 : Int) (mdI (adI (mlI (256 : Int) (mdI (adI (mlI (256 : Int)
 (mdI (adI (mlI (256 : Int) (mdI (adI (mlI (256 : Int) (mdI (adI (mlI (256 : Int) (mdI (adI (mlI (256 : Int) (mdI (adI (mlI (256 : Int) (mdI (adI (mlI (256 : Int) (mdI (adI (mlI (256 : Int) (mdI (adI (mlI (256 : Int) (mdI
 (adI (mlI (256 : Int) (mdI (adI (mlI (256 : Int) (mdI (adI (0 : Int) (X 15)) (10 : Int))) (X 14)) (10 : Int))) (X 13)) (10 : Int))) (X 12)) (10 : Int))) (X 11)) (10 : Int))) (X 10)) (10 : Int))) (X 9)) (10 : Int))) (X 8))
 (10 : Int))) (X 7)) (10 : Int))) (X 6)) (10 : Int))) (X 5)) (10 : Int))) (X 4)) (10 : Int))) (X 3)) (10 : Int))) (X 2)) (10 : Int))) (X 1)) (10 : Int))) (X 0)) (10 : Int)) < (256 : Int), (0 : Int) ≤ lowI IntKind.u8 (dvI
 (adI (mlI (256 : Int) (mdI (adI (mlI (256 : Int) (mdI (adI (mlI (256 : Int) (mdI (adI (mlI (256 : Int) (mdI (adI (mlI (256 : Int) (mdI (adI (mlI (256 : Int) (mdI (adI (mlI (256 : Int) (mdI (adI (mlI (256 : Int) (mdI (adI
 (mlI (256 : Int) (mdI (adI (mlI (256 : Int) (mdI (adI (mlI (256 : Int) (mdI (adI (mlI (256 : Int) (mdI (adI (mlI (256 : Int) (mdI (adI (mlI (256 : Int) (mdI (adI (0 : Int) (X 15)) (10 : Int))) (X 14)) (10 : Int))) (X 13))
 (10 : Int))) (X 12)) (10 : Int))) (X 11)) (10 : Int))) (X 10)) (10 : Int))) (X 9)) (10 : Int))) (X 8)) (10 : Int))) (X 7)) (10 : Int))) (X 6)) (10 : Int))) (X 5)) (10 : Int))) (X 4)) (10 : Int))) (X 3)) (10 : Int))) (X
 2)) (10 : Int))) (X 1)) (10 : Int)) ∧ lowI IntKind.u8 (dvI (adI (mlI (256 : Int) (mdI (adI (mlI (256 : Int) (mdI (adI (mlI (256 : Int) (mdI (adI (mlI (256 : Int) (mdI (adI (mlI (256 : Int) (mdI (adI (mlI (256 : Int) (mdI
 (adI (mlI (256 : Int) (mdI (adI (mlI (256 : Int) (mdI (adI (mlI (256 : Int) (mdI (adI (mlI (256 : Int) (mdI (adI (mlI (256 : Int) (mdI (adI (mlI (256 : Int) (mdI (adI (mlI (256 : Int) (mdI (adI (mlI (256 : Int) (mdI (adI
 (0 : Int) (X 15)) (10 : Int))) (X 14)) (10 : Int))) (X 13)) (10 : Int))) (X 12)) (10 : Int))) (X 11)) (10 : Int))) (X 10)) (10 : Int))) (X 9)) (10 : Int))) (X 8)) (10 : Int))) (X 7)) (10 : Int))) (X 6)) (10 : Int))) (X
 5)) (10 : Int))) (X 4)) (10 : Int))) (X 3)) (10 : Int))) (X 2)) (10 : Int))) (X 1)) (10 : Int)) < (256 : Int), (0 : Int) ≤ lowI IntKind.u8 (dvI (adI (mlI (256 : Int) (mdI (adI (mlI (256 : Int) (mdI (adI (mlI (256 : Int)
 (mdI (adI (mlI (256 : Int) (mdI (adI (mlI (256 : Int) (mdI (adI (mlI (256 : Int) (mdI (adI (mlI (256 : Int) (mdI (adI (mlI (256 : Int) (mdI (adI (mlI (256 : Int) (mdI (adI (mlI (256 : Int) (mdI (adI (mlI (256 : Int) (mdI
 (adI (mlI (256 : Int) (mdI (adI (mlI (256 : Int) (mdI (adI (0 : Int) (X 15)) (10 : Int))) (X 14)) (10 : Int))) (X 13)) (10 : Int))) (X 12)) (10 : Int))) (X 11)) (10 : Int))) (X 10)) (10 : Int))) (X 9)) (10 : Int))) (X 8))
 (10 : Int))) (X 7)) (10 : Int))) (X 6)) (10 : Int))) (X 5)) (10 : Int))) (X 4)) (10 : Int))) (X 3)) (10 : Int))) (X 2)) (10 : Int)) ∧ lowI IntKind.u8 (dvI (adI (mlI (256 : Int) (mdI (adI (mlI (256 : Int) (mdI (adI (mlI
 (256 : Int) (mdI (adI (mlI (256 : Int) (mdI (adI (mlI (256 : Int) (mdI (adI (mlI (256 : Int) (mdI (adI (mlI (256 : Int) (mdI (adI (mlI (256 : Int) (mdI (adI (mlI (256 : Int) (mdI (adI (mlI (256 : Int) (mdI (adI (mlI (256
 : Int) (mdI (adI (mlI (256 : Int) (mdI (adI (mlI (256 : Int) (mdI (adI (0 : Int) (X 15)) (10 : Int))) (X 14)) (10 : Int))) (X 13)) (10 : Int))) (X 12)) (10 : Int))) (X 11)) (10 : Int))) (X 10)) (10 : Int))) (X 9)) (10 :
 Int))) (X 8)) (10 : Int))) (X 7)) (10 : Int))) (X 6)) (10 : Int))) (X 5)) (10 : Int))) (X 4)) (10 : Int))) (X 3)) (10 : Int))) (X 2)) (10 : Int)) < (256 : Int), (0 : Int) ≤ lowI IntKind.u8 (dvI (adI (mlI (256 : Int) (mdI
 (adI (mlI (256 : Int) (mdI (adI (mlI (256 : Int) (mdI (adI (mlI (256 : Int) (mdI (adI (mlI (256 : Int) (mdI (adI (mlI (256 : Int) (mdI (adI (mlI (256 : Int) (mdI (adI (mlI (256 : Int) (mdI (adI (mlI (256 : Int) (mdI (adI
 (mlI (256 : Int) (mdI (adI (mlI (256 : Int) (mdI (adI (mlI (256 : Int) (mdI (adI (0 : Int) (X 15)) (10 : Int))) (X 14)) (10 : Int))) (X 13)) (10 : Int))) (X 12)) (10 : Int))) (X 11)) (10 : Int))) (X 10)) (10 : Int))) (X
 9)) (10 : Int))) (X 8)) (10 : Int))) (X 7)) (10 : Int))) (X 6)) (10 : Int))) (X 5)) (10 : Int))) (X 4)) (10 : Int))) (X 3)) (10 : Int)) ∧ lowI IntKind.u8 (dvI (adI (mlI (256 : Int) (mdI (adI (mlI (256 : Int) (mdI (adI
 (mlI (256 : Int) (mdI (adI (mlI (256 : Int) (mdI (adI (mlI (256 : Int) (mdI (adI (mlI (256 : Int) (mdI (adI (mlI (256 : Int) (mdI (adI (mlI (256 : Int) (mdI (adI (mlI (256 : Int) (mdI (adI (mlI (256 : Int) (mdI (adI (mlI
 (256 : Int) (mdI (adI (mlI (256 : Int) (mdI (adI (0 : Int) (X 15)) (10 : Int))) (X 14)) (10 : Int))) (X 13)) (10 : Int))) (X 12)) (10 : Int))) (X 11)) (10 : Int))) (X 10)) (10 : Int))) (X 9)) (10 : Int))) (X 8)) (10 :
 Int))) (X 7)) (10 : Int))) (X 6)) (10 : Int))) (X 5)) (10 : Int))) (X 4)) (10 : Int))) (X 3)) (10 : Int)) < (256 : Int), (0 : Int) ≤ lowI IntKind.u8 (dvI (adI (mlI (256 : Int) (mdI (adI (mlI (256 : Int) (mdI (adI (mlI
 (256 : Int) (mdI (adI (mlI (256 : Int) (mdI (adI (mlI (256 : Int) (mdI (adI (mlI (256 : Int) (mdI (adI (mlI (256 : Int) (mdI (adI (mlI (256 : Int) (mdI (adI (mlI (256 : Int) (mdI (adI (mlI (256 : Int) (mdI (adI (mlI (256
 : Int) (mdI (adI (0 : Int) (X 15)) (10 : Int))) (X 14)) (10 : Int))) (X 13)) (10 : Int))) (X 12)) (10 : Int))) (X 11)) (10 : Int))) (X 10)) (10 : Int))) (X 9)) (10 : Int))) (X 8)) (10 : Int))) (X 7)) (10 : Int))) (X 6))
 (10 : Int))) (X 5)) (10 : Int))) (X 4)) (10 : Int)) ∧ lowI IntKind.u8 (dvI (adI (mlI (256 : Int) (mdI (adI (mlI (256 : Int) (mdI (adI (mlI (256 : Int) (mdI (adI (mlI (256 : Int) (mdI (adI (mlI (256 : Int) (mdI (adI (mlI
 (256 : Int) (mdI (adI (mlI (256 : Int) (mdI (adI (mlI (256 : Int) (mdI (adI (mlI (256 : Int) (mdI (adI (mlI (256 : Int) (mdI (adI (mlI (256 : Int) (mdI (adI (0 : Int) (X 15)) (10 : Int))) (X 14)) (10 : Int))) (X 13)) (10
 : Int))) (X 12)) (10 : Int))) (X 11)) (10 : Int))) (X 10)) (10 : Int))) (X 9)) (10 : Int))) (X 8)) (10 : Int))) (X 7)) (10 : Int))) (X 6)) (10 : Int))) (X 5)) (10 : Int))) (X 4)) (10 : Int)) < (256 : Int), (0 : Int) ≤
 lowI IntKind.u8 (dvI (adI (mlI (256 : Int) (mdI (adI (mlI (256 : Int) (mdI (adI (mlI (256 : Int) (mdI (adI (mlI (256 : Int) (mdI (adI (mlI (256 : Int) (mdI (adI (mlI (256 : Int) (mdI (adI (mlI (256 : Int) (mdI (adI (mlI
 (256 : Int) (mdI (adI (mlI (256 : Int) (mdI (adI (mlI (256 : Int) (mdI (adI (0 : Int) (X 15)) (10 : Int))) (X 14)) (10 : Int))) (X 13)) (10 : Int))) (X 12)) (10 : Int))) (X 11)) (10 : Int))) (X 10)) (10 : Int))) (X 9))
 (10 : Int))) (X 8)) (10 : Int))) (X 7)) (10 : Int))) (X 6)) (10 : Int))) (X 5)) (10 : Int)) ∧ lowI IntKind.u8 (dvI (adI (mlI (256 : Int) (mdI (adI (mlI (256 : Int) (mdI (adI (mlI (256 : Int) (mdI (adI (mlI (256 : Int)
 (mdI (adI (mlI (256 : Int) (mdI (adI (mlI (256 : Int) (mdI (adI (mlI (256 : Int) (mdI (adI (mlI (256 : Int) (mdI (adI (mlI (256 : Int) (mdI (adI (mlI (256 : Int) (mdI (adI (0 : Int) (X 15)) (10 : Int))) (X 14)) (10 :
 Int))) (X 13)) (10 : Int))) (X 12)) (10 : Int))) (X 11)) (10 : Int))) (X 10)) (10 : Int))) (X 9)) (10 : Int))) (X 8)) (10 : Int))) (X 7)) (10 : Int))) (X 6)) (10 : Int))) (X 5)) (10 : Int)) < (256 : Int), (0 : Int) ≤ lowI
 IntKind.u8 (dvI (adI (mlI (256 : Int) (mdI (adI (mlI (256 : Int) (mdI (adI (mlI (256 : Int) (mdI (adI (mlI (256 : Int) (mdI (adI (mlI (256 : Int) (mdI (adI (mlI (256 : Int) (mdI (adI (mlI (256 : Int) (mdI (adI (mlI (256 :
 Int) (mdI (adI (mlI (256 : Int) (mdI (adI (0 : Int) (X 15)) (10 : Int))) (X 14)) (10 : Int))) (X 13)) (10 : Int))) (X 12)) (10 : Int))) (X 11)) (10 : Int))) (X 10)) (10 : Int))) (X 9)) (10 : Int))) (X 8)) (10 : Int))) (X
 7)) (10 : Int))) (X 6)) (10 : Int)) ∧ lowI IntKind.u8 (dvI (adI (mlI (256 : Int) (mdI (adI (mlI (256 : Int) (mdI (adI (mlI (256 : Int) (mdI (adI (mlI (256 : Int) (mdI (adI (mlI (256 : Int) (mdI (adI (mlI (256 : Int) (mdI
 (adI (mlI (256 : Int) (mdI (adI (mlI (256 : Int) (mdI (adI (mlI (256 : Int) (mdI (adI (0 : Int) (X 15)) (10 : Int))) (X 14)) (10 : Int))) (X 13)) (10 : Int))) (X 12)) (10 : Int))) (X 11)) (10 : Int))) (X 10)) (10 : Int)))
 (X 9)) (10 : Int))) (X 8)) (10 : Int))) (X 7)) (10 : Int))) (X 6)) (10 : Int)) < (256 : Int), (0 : Int) ≤ lowI IntKind.u8 (dvI (adI (mlI (256 : Int) (mdI (adI (mlI (256 : Int) (mdI (adI (mlI (256 : Int) (mdI (adI (mlI
 (256 : Int) (mdI (adI (mlI (256 : Int) (mdI (adI (mlI (256 : Int) (mdI (adI (mlI (256 : Int) (mdI (adI (mlI (256 : Int) (mdI (adI (0 : Int) (X 15)) (10 : Int))) (X 14)) (10 : Int))) (X 13)) (10 : Int))) (X 12)) (10 :
 Int))) (X 11)) (10 : Int))) (X 10)) (10 : Int))) (X 9)) (10 : Int))) (X 8)) (10 : Int))) (X 7)) (10 : Int)) ∧ lowI IntKind.u8 (dvI (adI (mlI (256 : Int) (mdI (adI (mlI (256 : Int) (mdI (adI (mlI (256 : Int) (mdI (adI (mlI
 (256 : Int) (mdI (adI (mlI (256 : Int) (mdI (adI (mlI (256 : Int) (mdI (adI (mlI (256 : Int) (mdI (adI (mlI (256 : Int) (mdI (adI (0 : Int) (X 15)) (10 : Int))) (X 14)) (10 : Int))) (X 13)) (10 : Int))) (X 12)) (10 :
 Int))) (X 11)) (10 : Int))) (X 10)) (10 : Int))) (X 9)) (10 : Int))) (X 8)) (10 : Int))) (X 7)) (10 : Int)) < (256 : Int), (0 : Int) ≤ lowI IntKind.u8 (dvI (adI (mlI (256 : Int) (mdI (adI (mlI (256 : Int) (mdI (adI (mlI
 (256 : Int) (mdI (adI (mlI (256 : Int) (mdI (adI (mlI (256 : Int) (mdI (adI (mlI (256 : Int) (mdI (adI (mlI (256 : Int) (mdI (adI (0 : Int) (X 15)) (10 : Int))) (X 14)) (10 : Int))) (X 13)) (10 : Int))) (X 12)) (10 :
 Int))) (X 11)) (10 : Int))) (X 10)) (10 : Int))) (X 9)) (10 : Int))) (X 8)) (10 : Int)) ∧ lowI IntKind.u8 (dvI (adI (mlI (256 : Int) (mdI (adI (mlI (256 : Int) (mdI (adI (mlI (256 : Int) (mdI (adI (mlI (256 : Int) (mdI
 (adI (mlI (256 : Int) (mdI (adI (mlI (256 : Int) (mdI (adI (mlI (256 : Int) (mdI (adI (0 : Int) (X 15)) (10 : Int))) (X 14)) (10 : Int))) (X 13)) (10 : Int))) (X 12)) (10 : Int))) (X 11)) (10 : Int))) (X 10)) (10 : Int)))
 (X 9)) (10 : Int))) (X 8)) (10 : Int)) < (256 : Int), (0 : Int) ≤ lowI IntKind.u8 (dvI (adI (mlI (256 : Int) (mdI (adI (mlI (256 : Int) (mdI (adI (mlI (256 : Int) (mdI (adI (mlI (256 : Int) (mdI (adI (mlI (256 : Int) (mdI
 (adI (mlI (256 : Int) (mdI (adI (0 : Int) (X 15)) (10 : Int))) (X 14)) (10 : Int))) (X 13)) (10 : Int))) (X 12)) (10 : Int))) (X 11)) (10 : Int))) (X 10)) (10 : Int))) (X 9)) (10 : Int)) ∧ lowI IntKind.u8 (dvI (adI (mlI
 (256 : Int) (mdI (adI (mlI (256 : Int) (mdI (adI (mlI (256 : Int) (mdI (adI (mlI (256 : Int) (mdI (adI (mlI (256 : Int) (mdI (adI (mlI (256 : Int) (mdI (adI (0 : Int) (X 15)) (10 : Int))) (X 14)) (10 : Int))) (X 13)) (10
 : Int))) (X 12)) (10 : Int))) (X 11)) (10 : Int))) (X 10)) (10 : Int))) (X 9)) (10 : Int)) < (256 : Int), (0 : Int) ≤ lowI IntKind.u8 (dvI (adI (mlI (256 : Int) (mdI (adI (mlI (256 : Int) (mdI (adI (mlI (256 : Int) (mdI
 (adI (mlI (256 : Int) (mdI (adI (mlI (256 : Int) (mdI (adI (0 : Int) (X 15)) (10 : Int))) (X 14)) (10 : Int))) (X 13)) (10 : Int))) (X 12)) (10 : Int))) (X 11)) (10 : Int))) (X 10)) (10 : Int)) ∧ lowI IntKind.u8 (dvI (adI
 (mlI (256 : Int) (mdI (adI (mlI (256 : Int) (mdI (adI (mlI (256 : Int) (mdI (adI (mlI (256 : Int) (mdI (adI (mlI (256 : Int) (mdI (adI (0 : Int) (X 15)) (10 : Int))) (X 14)) (10 : Int))) (X 13)) (10 : Int))) (X 12)) (10 :
 Int))) (X 11)) (10 : Int))) (X 10)) (10 : Int)) < (256 : Int), (0 : Int) ≤ lowI IntKind.u8 (dvI (adI (mlI (256 : Int) (mdI (adI (mlI (256 : Int) (mdI (adI (mlI (256 : Int) (mdI (adI (mlI (256 : Int) (mdI (adI (0 : Int) (X
 15)) (10 : Int))) (X 14)) (10 : Int))) (X 13)) (10 : Int))) (X 12)) (10 : Int))) (X 11)) (10 : Int)) ∧ lowI IntKind.u8 (dvI (adI (mlI (256 : Int) (mdI (adI (mlI (256 : Int) (mdI (adI (mlI (256 : Int) (mdI (adI (mlI (256 :
 Int) (mdI (adI (0 : Int) (X 15)) (10 : Int))) (X 14)) (10 : Int))) (X 13)) (10 : Int))) (X 12)) (10 : Int))) (X 11)) (10 : Int)) < (256 : Int), (0 : Int) ≤ lowI IntKind.u8 (dvI (adI (mlI (256 : Int) (mdI (adI (mlI (256 :
 Int) (mdI (adI (mlI (256 : Int) (mdI (adI (0 : Int) (X 15)) (10 : Int))) (X 14)) (10 : Int))) (X 13)) (10 : Int))) (X 12)) (10 : Int)) ∧ lowI IntKind.u8 (dvI (adI (mlI (256 : Int) (mdI (adI (mlI (256 : Int) (mdI (adI (mlI
 (256 : Int) (mdI (adI (0 : Int) (X 15)) (10 : Int))) (X 14)) (10 : Int))) (X 13)) (10 : Int))) (X 12)) (10 : Int)) < (256 : Int), (0 : Int) ≤ lowI IntKind.u8 (dvI (adI (mlI (256 : Int) (mdI (adI (mlI (256 : Int) (mdI (adI
 (0 : Int) (X 15)) (10 : Int))) (X 14)) (10 : Int))) (X 13)) (10 : Int)) ∧ lowI IntKind.u8 (dvI (adI (mlI (256 : Int) (mdI (adI (mlI (256 : Int) (mdI (adI (0 : Int) (X 15)) (10 : Int))) (X 14)) (10 : Int))) (X 13)) (10 :
 Int)) < (256 : Int), (0 : Int) ≤ lowI IntKind.u8 (dvI (adI (mlI (256 : Int) (mdI (adI (0 : Int) (X 15)) (10 : Int))) (X 14)) (10 : Int)) ∧ lowI IntKind.u8 (dvI (adI (mlI (256 : Int) (mdI (adI (0 : Int) (X 15)) (10 :
 Int))) (X 14)) (10 : Int)) < (256 : Int), (0 : Int) ≤ lowI IntKind.u8 (dvI (adI (0 : Int) (X 15)) (10 : Int)) ∧ lowI IntKind.u8 (dvI (adI (0 : Int) (X 15)) (10 : Int)) < (256 : Int)]) := by kernel_rfl
def gTen : GSpec := fun av tp => match av with
  | [.fl (.agg ⟨[.int .u64 h, .int .u64 l]⟩)] => some (⟨fun _ => .tuple ⟨[.agg ⟨[.int .u64 (h / 10), .int .u64 ((h % 10 * 18446744073709551616 + l) / 10)]⟩, .int .i64 ((h % 10 * 18446744073709551616 + l) % 10)]⟩, []⟩, tp, [wf64 h, wf64 l])
  | _ => none
theorem lw8 {x : Int} (h : 0 ≤ x ∧ x < 256) : lowI .u8 x = x := by unfold lowI; rw [mdI_eq]; exact Int.emod_eq_of_lt h.1 h.2
set_option maxHeartbeats 4000000 in
theorem te_run {h l : Int} (h0 : wf64 h) (l0 : wf64 l) : Ran Try.prog 47 [.agg ⟨[.int .u64 h, .int .u64 l]⟩] [] 1 ⟨fun _ => .tuple ⟨[.agg ⟨[.int .u64 (h / 10), .int .u64 ((h % 10 * 18446744073709551616 + l) / 10)]⟩, .int .i64 ((h % 10 * 18446744073709551616 + l) % 10)]⟩, []⟩ := by
  obtain ⟨X, eX⟩ : ∃ X, ∀ k, X k = byX h l k := ⟨byX h l, fun k => rfl⟩
  have B : BysIs X h l := by
    have : X = byX h l := funext eX
    rw [this]; exact bysIs h0 l0
  have hX : XOkZ (teV X) Try.prog := noXz_ok rfl
  have hT : TOkZ (teV X) Try.prog := T_okV rfl (orTz_ok (mkT_one (gByX_ok by_r_gok X)) (mkT_one of_gok))
  have hL : LOkZ (teV X) Try.prog := noL_okV rfl
  have hh := B.h
  have hl := B.l
  have hR := fun o => run_tri hX hT hL (te_r X h l) o rfl
  obtain ⟨n15, e15⟩ : ∃ n, adI 0 (X 15) = n := ⟨_, rfl⟩
  have r15 := B.r 15
  have m15 : n15 = X 15 := by rw [← e15, adI_eq]; omega
  have b15 : 0 ≤ n15 ∧ n15 < 2560 := by omega
  obtain ⟨q15, f15⟩ : ∃ q, lowI .u8 (dvI n15 10) = q := ⟨_, rfl⟩
  have p15 : q15 = n15 / 10 := by rw [← f15, dvI_eq, lw8 (by omega)]
  have c15 : 0 ≤ q15 ∧ q15 < 256 := by omega
  obtain ⟨n14, e14⟩ : ∃ n, adI (mlI 256 (mdI n15 10)) (X 14) = n := ⟨_, rfl⟩
  have r14 := B.r 14
  have m14 : n14 = 256 * (n15 % 10) + X 14 := by rw [← e14, adI_eq, mlI_eq, mdI_eq]
  have b14 : 0 ≤ n14 ∧ n14 < 2560 := by omega
  obtain ⟨q14, f14⟩ : ∃ q, lowI .u8 (dvI n14 10) = q := ⟨_, rfl⟩
  have p14 : q14 = n14 / 10 := by rw [← f14, dvI_eq, lw8 (by omega)]
  have c14 : 0 ≤ q14 ∧ q14 < 256 := by omega
  obtain ⟨n13, e13⟩ : ∃ n, adI (mlI 256 (mdI n14 10)) (X 13) = n := ⟨_, rfl⟩
  have r13 := B.r 13
  have m13 : n13 = 256 * (n14 % 10) + X 13 := by rw [← e13, adI_eq, mlI_eq, mdI_eq]
  have b13 : 0 ≤ n13 ∧ n13 < 2560 := by omega
  obtain ⟨q13, f13⟩ : ∃ q, lowI .u8 (dvI n13 10) = q := ⟨_, rfl⟩
  have p13 : q13 = n13 / 10 := by rw [← f13, dvI_eq, lw8 (by omega)]
  have c13 : 0 ≤ q13 ∧ q13 < 256 := by omega
  obtain ⟨n12, e12⟩ : ∃ n, adI (mlI 256 (mdI n13 10)) (X 12) = n := ⟨_, rfl⟩
  have r12 := B.r 12
  have m12 : n12 = 256 * (n13 % 10) + X 12 := by rw [← e12, adI_eq, mlI_eq, mdI_eq]
  have b12 : 0 ≤ n12 ∧ n12 < 2560 := by omega
  obtain ⟨q12, f12⟩ : ∃ q, lowI .u8 (dvI n12 10) = q := ⟨_, rfl⟩
  have p12 : q12 = n12 / 10 := by rw [← f12, dvI_eq, lw8 (by omega)]
  have c12 : 0 ≤ q12 ∧ q12 < 256 := by omega
  obtain ⟨n11, e11⟩ : ∃ n, adI (mlI 256 (mdI n12 10)) (X 11) = n := ⟨_, rfl⟩
  have r11 := B.r 11
  have m11 : n11 = 256 * (n12 % 10) + X 11 := by rw [← e11, adI_eq, mlI_eq, mdI_eq]
  have b11 : 0 ≤ n11 ∧ n11 < 2560 := by omega
  obtain ⟨q11, f11⟩ : ∃ q, lowI .u8 (dvI n11 10) = q := ⟨_, rfl⟩
  have p11 : q11 = n11 / 10 := by rw [← f11, dvI_eq, lw8 (by omega)]
  have c11 : 0 ≤ q11 ∧ q11 < 256 := by omega
  obtain ⟨n10, e10⟩ : ∃ n, adI (mlI 256 (mdI n11 10)) (X 10) = n := ⟨_, rfl⟩
  have r10 := B.r 10
  have m10 : n10 = 256 * (n11 % 10) + X 10 := by rw [← e10, adI_eq, mlI_eq, mdI_eq]
  have b10 : 0 ≤ n10 ∧ n10 < 2560 := by omega
  obtain ⟨q10, f10⟩ : ∃ q, lowI .u8 (dvI n10 10) = q := ⟨_, rfl⟩
  have p10 : q10 = n10 / 10 := by rw [← f10, dvI_eq, lw8 (by omega)]
  have c10 : 0 ≤ q10 ∧ q10 < 256 := by omega
  obtain ⟨n9, e9⟩ : ∃ n, adI (mlI 256 (mdI n10 10)) (X 9) = n := ⟨_, rfl⟩
  have r9 := B.r 9
  have m9 : n9 = 256 * (n10 % 10) + X 9 := by rw [← e9, adI_eq, mlI_eq, mdI_eq]
  have b9 : 0 ≤ n9 ∧ n9 < 2560 := by omega
  obtain ⟨q9, f9⟩ : ∃ q, lowI .u8 (dvI n9 10) = q := ⟨_, rfl⟩
  have p9 : q9 = n9 / 10 := by rw [← f9, dvI_eq, lw8 (by omega)]
  have c9 : 0 ≤ q9 ∧ q9 < 256 := by omega
  obtain ⟨n8, e8⟩ : ∃ n, adI (mlI 256 (mdI n9 10)) (X 8) = n := ⟨_, rfl⟩
  have r8 := B.r 8
  have m8 : n8 = 256 * (n9 % 10) + X 8 := by rw [← e8, adI_eq, mlI_eq, mdI_eq]
  have b8 : 0 ≤ n8 ∧ n8 < 2560 := by omega
  obtain ⟨q8, f8⟩ : ∃ q, lowI .u8 (dvI n8 10) = q := ⟨_, rfl⟩
  have p8 : q8 = n8 / 10 := by rw [← f8, dvI_eq, lw8 (by omega)]
  have c8 : 0 ≤ q8 ∧ q8 < 256 := by omega
  obtain ⟨n7, e7⟩ : ∃ n, adI (mlI 256 (mdI n8 10)) (X 7) = n := ⟨_, rfl⟩
  have r7 := B.r 7
  have m7 : n7 = 256 * (n8 % 10) + X 7 := by rw [← e7, adI_eq, mlI_eq, mdI_eq]
  have b7 : 0 ≤ n7 ∧ n7 < 2560 := by omega
  obtain ⟨q7, f7⟩ : ∃ q, lowI .u8 (dvI n7 10) = q := ⟨_, rfl⟩
  have p7 : q7 = n7 / 10 := by rw [← f7, dvI_eq, lw8 (by omega)]
  have c7 : 0 ≤ q7 ∧ q7 < 256 := by omega
  obtain ⟨n6, e6⟩ : ∃ n, adI (mlI 256 (mdI n7 10)) (X 6) = n := ⟨_, rfl⟩
  have r6 := B.r 6
  have m6 : n6 = 256 * (n7 % 10) + X 6 := by rw [← e6, adI_eq, mlI_eq, mdI_eq]
  have b6 : 0 ≤ n6 ∧ n6 < 2560 := by omega
  obtain ⟨q6, f6⟩ : ∃ q, lowI .u8 (dvI n6 10) = q := ⟨_, rfl⟩
  have p6 : q6 = n6 / 10 := by rw [← f6, dvI_eq, lw8 (by omega)]
  have c6 : 0 ≤ q6 ∧ q6 < 256 := by omega
  obtain ⟨n5, e5⟩ : ∃ n, adI (mlI 256 (mdI n6 10)) (X 5) = n := ⟨_, rfl⟩
  have r5 := B.r 5
  have m5 : n5 = 256 * (n6 % 10) + X 5 := by rw [← e5, adI_eq, mlI_eq, mdI_eq]
  have b5 : 0 ≤ n5 ∧ n5 < 2560 := by omega
  obtain ⟨q5, f5⟩ : ∃ q, lowI .u8 (dvI n5 10) = q := ⟨_, rfl⟩
  have p5 : q5 = n5 / 10 := by rw [← f5, dvI_eq, lw8 (by omega)]
  have c5 : 0 ≤ q5 ∧ q5 < 256 := by omega
  obtain ⟨n4, e4⟩ : ∃ n, adI (mlI 256 (mdI n5 10)) (X 4) = n := ⟨_, rfl⟩
  have r4 := B.r 4
  have m4 : n4 = 256 * (n5 % 10) + X 4 := by rw [← e4, adI_eq, mlI_eq, mdI_eq]
  have b4 : 0 ≤ n4 ∧ n4 < 2560 := by omega
  obtain ⟨q4, f4⟩ : ∃ q, lowI .u8 (dvI n4 10) = q := ⟨_, rfl⟩
  have p4 : q4 = n4 / 10 := by rw [← f4, dvI_eq, lw8 (by omega)]
  have c4 : 0 ≤ q4 ∧ q4 < 256 := by omega
  obtain ⟨n3, e3⟩ : ∃ n, adI (mlI 256 (mdI n4 10)) (X 3) = n := ⟨_, rfl⟩
  have r3 := B.r 3
  have m3 : n3 = 256 * (n4 % 10) + X 3 := by rw [← e3, adI_eq, mlI_eq, mdI_eq]
  have b3 : 0 ≤ n3 ∧ n3 < 2560 := by omega
  obtain ⟨q3, f3⟩ : ∃ q, lowI .u8 (dvI n3 10) = q := ⟨_, rfl⟩
  have p3 : q3 = n3 / 10 := by rw [← f3, dvI_eq, lw8 (by omega)]
  have c3 : 0 ≤ q3 ∧ q3 < 256 := by omega
  obtain ⟨n2, e2⟩ : ∃ n, adI (mlI 256 (mdI n3 10)) (X 2) = n := ⟨_, rfl⟩
  have r2 := B.r 2
  have m2 : n2 = 256 * (n3 % 10) + X 2 := by rw [← e2, adI_eq, mlI_eq, mdI_eq]
  have b2 : 0 ≤ n2 ∧ n2 < 2560 := by omega
  obtain ⟨q2, f2⟩ : ∃ q, lowI .u8 (dvI n2 10) = q := ⟨_, rfl⟩
  have p2 : q2 = n2 / 10 := by rw [← f2, dvI_eq, lw8 (by omega)]
  have c2 : 0 ≤ q2 ∧ q2 < 256 := by omega
  obtain ⟨n1, e1⟩ : ∃ n, adI (mlI 256 (mdI n2 10)) (X 1) = n := ⟨_, rfl⟩
  have r1 := B.r 1
  have m1 : n1 = 256 * (n2 % 10) + X 1 := by rw [← e1, adI_eq, mlI_eq, mdI_eq]
  have b1 : 0 ≤ n1 ∧ n1 < 2560 := by omega
  obtain ⟨q1, f1⟩ : ∃ q, lowI .u8 (dvI n1 10) = q := ⟨_, rfl⟩
  have p1 : q1 = n1 / 10 := by rw [← f1, dvI_eq, lw8 (by omega)]
  have c1 : 0 ≤ q1 ∧ q1 < 256 := by omega
  obtain ⟨n0, e0⟩ : ∃ n, adI (mlI 256 (mdI n1 10)) (X 0) = n := ⟨_, rfl⟩
  have r0 := B.r 0
  have m0 : n0 = 256 * (n1 % 10) + X 0 := by rw [← e0, adI_eq, mlI_eq, mdI_eq]
  have b0 : 0 ≤ n0 ∧ n0 < 2560 := by omega
  obtain ⟨q0, f0⟩ : ∃ q, lowI .u8 (dvI n0 10) = q := ⟨_, rfl⟩
  have p0 : q0 = n0 / 10 := by rw [← f0, dvI_eq, lw8 (by omega)]
  have c0 : 0 ≤ q0 ∧ q0 < 256 := by omega
  simp only [e15, e14, e13, e12, e11, e10, e9, e8, e7, e6, e5, e4, e3, e2, e1, e0, f15, f14, f13, f12, f11, f10, f9, f8, f7, f6, f5, f4, f3, f2, f1, f0] at hR
  have g1 : q8 + 256 * (q9 + 256 * (q10 + 256 * (q11 + 256 * (q12 + 256 * (q13 + 256 * (q14 + 256 * (q15))))))) = h / 10 := by omega
  have g0 : n8 % 10 = h % 10 := by omega
  have g2 : q0 + 256 * (q1 + 256 * (q2 + 256 * (q3 + 256 * (q4 + 256 * (q5 + 256 * (q6 + 256 * (q7))))))) = (h % 10 * 18446744073709551616 + l) / 10 := by omega
  have g3 : n0 % 10 = (h % 10 * 18446744073709551616 + l) % 10 := by omega
  refine ⟨_, _, _, _, fun n => n, hR ?_, ?_⟩
  · repeat' (first | exact alls_nil | refine alls_cons ?_ ?_)
    all_goals first | with_reducible assumption | with_reducible rfl | (simp only [rg, mlI_eq, adI_eq, dvI_eq, mdI_eq]; omega) | omega | rfl
  · rw [mdI_eq, g1, g2, g3]
    exact GrIs.flat fun σ => rfl
theorem te_gok : GOk Try.prog 47 [.f] gTen := by
  intro av tp gr tp' ob hG ho hP caps hcap
  unfold gTen at hG
  split at hG
  case h_2 => cases hG
  rename_i h l
  simp only [Option.some.injEq, Prod.mk.injEq] at hG
  obtain ⟨rfl, rfl, rfl⟩ := hG
  exact te_run ho.1 ho.2.1
end Go.Proofs.Ytpiapipmhlpmjaa
