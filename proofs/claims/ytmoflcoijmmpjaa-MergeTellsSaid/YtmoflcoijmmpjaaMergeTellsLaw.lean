/-
  The statement MergeTells: Merge and Find of the program and of the document tell the same; what they hand out is no memory of the lists handed in. No condition.
-/
import Derived.Test.YtmoflcoijmmpjaaRows
import Derived.Test.YtmoflcoijmmpjaaGrBE
import Derived.Test.YtmoflcoijmmpjaaGrBE
namespace Go.Proofs.Ytmoflcoijmmpjaa.lawMergeTells
set_option linter.unusedSimpArgs false
set_option linter.unusedVariables false
open Go.ChangeShapes Go.WideShapes Go.ChangeAt Go.RowKit
theorem opened {H : Type} {enc : TypeId × Value → H} (W : World) (base : Nat) (args : Array Value) (ds : List (DataW H)) (p : List MemPlace)
    (hval : ∀ (j : Nat) t v, (#[22, 4, 23] : Array TypeId)[j]? = some t → args[j]? = some v → Value.okWide Try.prog W .any base t v)
    (hA : DataW.TrodAll enc Try.prog W 0 (fun _ => true) true [22, 4, 23] args.toList ds p) :
    Calls Try.prog 3 args W fun e W' => e = .returned (.bool true) ∧ Ext W W' := by
  obtain ⟨v0, vs0, d0, ds0, p0, q0, hargs, rfl, rfl, h0, r0⟩ := trodAll_cons hA
  obtain ⟨v1, vs1, d1, ds1, p1, q1, rfl, rfl, rfl, h1, r1⟩ := trodAll_cons r0
  obtain ⟨v2, vs2, d2, ds2, p2, q2, rfl, rfl, rfl, h2, r2⟩ := trodAll_cons r1
  obtain ⟨rfl, rfl, rfl⟩ := trodAll_nil r2
  obtain rfl : args = #[v0, v1, v2] := by cases args; simp_all
  obtain ⟨y, rfl⟩ := okWide_bool Try.underlying4 (hval 1 4 v1 rfl rfl)
  have hsh : shK Try.prog 9 22 = some [.sl [.sl [.sl [.i .u8], .sl [.i .u8], .b]]] := by kernel_rfl
  have hsb : shK Try.prog 9 23 = some [.sl [.i .u8]] := by kernel_rfl
  obtain ⟨rows, cap, hA0, g1, g2, g3⟩ := open_dp hsh Try.underlying22 (hval 0 22 v0 rfl rfl) h0
  obtain ⟨ra, ca, hA1, a1, a2, a3⟩ := open_dp hsb Try.underlying23 (hval 2 23 v2 rfl rfl) h2
  obtain ⟨l1, x1, x2, x3⟩ := open_by hA1 a3
  exact tells_any hA0 g3 x1 x3
theorem own : ownKnob Try.prog.godebug = none := by kernel_rfl
theorem contract (H : Type) (enc : TypeId × Value → H) (W : World) (base : Nat) (args : Array Value) (ds gs : List (DataW H)) (before : List MemPlace)
    (hval : ∀ (j : Nat) t v, Try.f3.params[j]? = some t → args[j]? = some v → Value.okWide Try.prog W .any base t v)
    (hW : DataW.Whole enc Try.prog Try.f3.params.toList Rows.mergeTellsSpec.vars false W args.toList ds gs before) :
    Calls Try.prog 3 args W fun e W' => ∃ v, e = .returned v ∧ Rows.mergeTellsSpec.post enc Try.prog Try.f3 false true false false W args v W' := by
  have hW0 := hW
  obtain ⟨p, q, hA, hV, hpq, hfz, hnd⟩ := hW
  have hlen := trodAll_len hA
  obtain rfl : gs = [] := (trodVars_none (enc := enc) (w := W) hV).1
  have hspec : Rows.mergeTellsSpec.fn H (ds ++ []) = { results := [.lit (.bool true)], args := ds } := by
    rw [Try.params3] at hlen
    match ds, hlen with
    | [_, _, _], _ => rfl
  rw [Try.params3] at hA hval
  refine (opened W base args ds p hval hA).mono fun e W' ⟨he, hb⟩ => ?_
  exact ⟨_, he, law_post (tb := 4) (by kernel_rfl) rfl Try.underlying4 rfl hspec hW0 hb⟩
set_option maxRecDepth 100000 in
theorem lifted (os : Os) (started : os.Started) (H : Type) (enc : TypeId × Value → H) :
    ReturnsInHanded {} Try.checked os 3 .any (Rows.mergeTellsSpec.pre6 enc Try.prog Try.f3 Rows.mergeTellsRow.domain false) (Rows.mergeTellsSpec.post enc Try.prog Try.f3 false true false false) := by
  refine returnsInHanded_of_change (C := Try.checked) own started (by kernel_rfl) Try.func3
    (ChangeSpec.witness6 (enc := enc) (C := Try.checked) false ⟨#[], #[.slice none 0 0, .bool false, .slice none 0 0], []⟩ 8 (by kernel_rfl) (by kernel_rfl) (by kernel_rfl) (by kernel_rfl)) ?_
  intro W base args ds gs before hval hW _ _
  exact contract H enc W base args ds gs before hval hW
theorem over : Rows.mergeTellsRow.holds Try.pinned (OpenSpec.ofChange Rows.mergeTellsSpec) :=
  OpenClaim.holds_of_wide 3 Try.f3 rfl rfl rfl rfl rfl rfl rfl ⟨rfl, rfl, rfl, rfl, rfl⟩ rfl rfl rfl rfl rfl (by kernel_rfl) Try.func3 (by kernel_rfl)
    (of_decide_eq_true (by kernel_rfl)) (by unfold Func.isWrapper; first | (rw [if_pos (by decide +kernel)]; kernel_rfl) | (rw [if_neg (by decide +kernel)]; exact ⟨rfl, rfl⟩))
    (fun os started H enc _ => lifted os started H enc)
theorem proved : Rows.MergeTellsSaid := over
#print axioms proved
end Go.Proofs.Ytmoflcoijmmpjaa.lawMergeTells
