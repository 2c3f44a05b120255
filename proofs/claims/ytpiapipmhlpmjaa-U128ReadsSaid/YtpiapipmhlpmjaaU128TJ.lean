/-
  Chapter 01: the statement U128Texts, at any number and any text.
-/
import Derived.Test.YtpiapipmhlpmjaaU128TI
namespace Go.Proofs.Ytpiapipmhlpmjaa
set_option linter.unusedSimpArgs false
set_option linter.unusedVariables false
set_option linter.unusedSectionVars false
open Go Go.RowKit

def utT : TFun := orTz (mkT 13 [] gTrueY) (orTz (mkT 34 [.f] gPrs) (orTz (mkT 35 [.f] gPrs) (orTz (mkT 36 [.f] gTxt) (mkT 37 [.f] gTxt))))
theorem utT_one : TOneZ Try.prog utT := orTz_ok (mkT_one (gTrueY_ok awake_any)) (orTz_ok (mkT_one pi_gok) (orTz_ok (mkT_one pr_gok) (orTz_ok (mkT_one ti_gok) (mkT_one tt_gok))))
def utV : Tv := ⟨utT, noXz, noL, tbl 6 [11, 26, 30, 35], noSy, fun _ => [], fun _ => 0⟩
theorem ut_all (h l : Int) (s : ByteArray) : prjV (runZ utV Try.prog 9 6 [.agg ⟨[.int .u64 h, .int .u64 l]⟩, .string s] [] 2 [false, true, true, true]) =
  Res.ok (Value.bool true, [], [decide ((↑(List.length (Array.toList (ByteArray.data s))) : Int) > (1000 : Int)) = false, wf64 h, wf64 l, wf64 h, wf64 l, strEq (strI (txtI h l)) (strI (txtI h l)) = true, (pvH s == pvH s &&
 (pvL s == pvL s && true)) = true, (pvC s == pvC s) = true]) := by kernel_rfl
theorem ut_long (h l : Int) (s : ByteArray) : prjV (runZ utV Try.prog 9 6 [.agg ⟨[.int .u64 h, .int .u64 l]⟩, .string s] [] 2 [true]) =
  Res.ok (Value.bool true, [], [decide ((↑(List.length (Array.toList (ByteArray.data s))) : Int) > (1000 : Int)) = true]) := by kernel_rfl
theorem strEq_refl (s : ByteArray) : strEq s s = true := by unfold strEq; exact beq_self_eq_true _
theorem texts_run {h l : Int} (s : ByteArray) (w1 : wf64 h) (w2 : wf64 l) : RunsTrue Try.prog 6 [.agg ⟨[.int .u64 h, .int .u64 l]⟩, .string s] [] 2 := by
  have hX : XOkZ utV Try.prog := noXz_ok rfl
  have hT : TOkZ utV Try.prog := T_okV rfl utT_one
  have hL : LOkZ utV Try.prog := noL_okV rfl
  by_cases h1 : (s.data.toList.length : Int) > 1000
  · exact run_val hX hT hL (ut_long h l s) ⟨decide_eq_true h1, trivial⟩ rfl
  · refine run_val hX hT hL (ut_all h l s) ?_ rfl
    repeat' (first | exact alls_nil | refine alls_cons ?_ ?_)
    all_goals first | with_reducible assumption | exact decide_eq_false h1 | exact strEq_refl _ | (simp only [beq_self_eq_true, Bool.and_self]; done)
theorem texts_any {W : World} {h l : Int} (s : ByteArray) (w1 : wf64 h) (w2 : wf64 l) :
    Calls Try.prog 6 #[.agg #[.int .u64 h, .int .u64 l], .string s] W fun e w' => e = .returned (.bool true) ∧ Ext W w' := by
  refine calls_sl (avs := [.fl (.agg ⟨[.int .u64 h, .int .u64 l]⟩), .fl (.string s)]) (vs := [.agg ⟨[.int .u64 h, .int .u64 l]⟩, .string s]) (ps := [none, none]) ⟨⟨rfl, fun σ => rfl, rfl⟩, ⟨rfl, fun σ => rfl, rfl⟩, trivial⟩ ⟨(fun ad c e => by cases e), (fun ad c e => by cases e), trivial⟩ (fun σ => rfl) fun cs hcs => ?_
  obtain ⟨c, d, rfl⟩ := caps2 hcs
  exact texts_run s w1 w2
theorem wfU64 {z : Int} (h : (Lit.int .u64 z).wf = true) : wf64 z := by
  simp [Lit.wf, IntKind.min, IntKind.max, IntKind.signed, IntKind.bits] at h
  unfold wf64; omega
end Go.Proofs.Ytpiapipmhlpmjaa
