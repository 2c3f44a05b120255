/-
  The statement SessionFull: a full table drops the client whose last request is oldest, and takes the new one. No condition.
-/
import Derived.Test.YtdcakhahagbedaaRows
import Derived.Test.YtdcakhahagbedaaFulH
import Derived.Test.YtdcakhahagbedaaGenq
namespace Go.Proofs.Ytdcakhahagbedaa.lawSessionFull
set_option linter.unusedSimpArgs false
set_option linter.unusedVariables false
open Go.ChangeShapes Go.WideShapes Go.ChangeAt Go.RowKit
theorem opened {H : Type} {enc : TypeId × Value → H} (W : World) (base : Nat) (args : Array Value) (ds : List (DataW H)) (p : List MemPlace)
    (hval : ∀ (j : Nat) t v, (#[24, 24, 24, 24, 24, 25] : Array TypeId)[j]? = some t → args[j]? = some v → Value.okWide Try.prog W .any base t v)
    (hA : DataW.TrodAll enc Try.prog W 0 (fun _ => true) true [24, 24, 24, 24, 24, 25] args.toList ds p) :
    Calls Try.prog 5 args W fun e W' => e = .returned (.bool true) ∧ Ext W W' := by
  obtain ⟨v0, vs0, d0, ds0, p0, q0, hargs, rfl, rfl, h0, r0⟩ := trodAll_cons hA
  obtain ⟨v1, vs1, d1, ds1, p1, q1, rfl, rfl, rfl, h1, r1⟩ := trodAll_cons r0
  obtain ⟨v2, vs2, d2, ds2, p2, q2, rfl, rfl, rfl, h2, r2⟩ := trodAll_cons r1
  obtain ⟨v3, vs3, d3, ds3, p3, q3, rfl, rfl, rfl, h3, r3⟩ := trodAll_cons r2
  obtain ⟨v4, vs4, d4, ds4, p4, q4, rfl, rfl, rfl, h4, r4⟩ := trodAll_cons r3
  obtain ⟨v5, vs5, d5, ds5, p5, q5, rfl, rfl, rfl, h5, r5⟩ := trodAll_cons r4
  obtain ⟨rfl, rfl, rfl⟩ := trodAll_nil r5
  obtain rfl : args = #[v0, v1, v2, v3, v4, v5] := by cases args; simp_all
  obtain ⟨c0, cc0, y0, z0, m0, rfl, rfl, rfl, hy0, hz0⟩ := Go.Joins.open_agg2 Try.underlying24 (by kernel_rfl) (by kernel_rfl) (hval 0 24 v0 rfl rfl) h0
  obtain ⟨a0, e0, rfl, w0⟩ := DataW.trod_int Try.underlying22 hy0
  simp at e0; subst e0
  obtain ⟨b0, f0, rfl, x0⟩ := DataW.trod_int Try.underlying22 hz0
  simp at f0; subst f0
  obtain ⟨c1, cc1, y1, z1, m1, rfl, rfl, rfl, hy1, hz1⟩ := Go.Joins.open_agg2 Try.underlying24 (by kernel_rfl) (by kernel_rfl) (hval 1 24 v1 rfl rfl) h1
  obtain ⟨a1, e1, rfl, w1⟩ := DataW.trod_int Try.underlying22 hy1
  simp at e1; subst e1
  obtain ⟨b1, f1, rfl, x1⟩ := DataW.trod_int Try.underlying22 hz1
  simp at f1; subst f1
  obtain ⟨c2, cc2, y2, z2, m2, rfl, rfl, rfl, hy2, hz2⟩ := Go.Joins.open_agg2 Try.underlying24 (by kernel_rfl) (by kernel_rfl) (hval 2 24 v2 rfl rfl) h2
  obtain ⟨a2, e2, rfl, w2⟩ := DataW.trod_int Try.underlying22 hy2
  simp at e2; subst e2
  obtain ⟨b2, f2, rfl, x2⟩ := DataW.trod_int Try.underlying22 hz2
  simp at f2; subst f2
  obtain ⟨c3, cc3, y3, z3, m3, rfl, rfl, rfl, hy3, hz3⟩ := Go.Joins.open_agg2 Try.underlying24 (by kernel_rfl) (by kernel_rfl) (hval 3 24 v3 rfl rfl) h3
  obtain ⟨a3, e3, rfl, w3⟩ := DataW.trod_int Try.underlying22 hy3
  simp at e3; subst e3
  obtain ⟨b3, f3, rfl, x3⟩ := DataW.trod_int Try.underlying22 hz3
  simp at f3; subst f3
  obtain ⟨c4, cc4, y4, z4, m4, rfl, rfl, rfl, hy4, hz4⟩ := Go.Joins.open_agg2 Try.underlying24 (by kernel_rfl) (by kernel_rfl) (hval 4 24 v4 rfl rfl) h4
  obtain ⟨a4, e4, rfl, w4⟩ := DataW.trod_int Try.underlying22 hy4
  simp at e4; subst e4
  obtain ⟨b4, f4, rfl, x4⟩ := DataW.trod_int Try.underlying22 hz4
  simp at f4; subst f4
  have wd : ∀ z : Int, (Lit.int .u64 z).wf = true → w6 z := fun z h => by
    have : 0 ≤ z ∧ z ≤ 18446744073709551615 := by simpa [Lit.wf, IntKind.min, IntKind.max, IntKind.signed, IntKind.bits] using h
    unfold w6; omega
  obtain ⟨k, k1, z1, g1, A1, L1, wz⟩ := open_sl (ks := [.i64]) Try.underlying25 (by kernel_rfl) (by kernel_rfl) (by decide) (hval 5 25 v5 rfl rfl) h5
  exact full_any (wd _ w0) (wd _ x0) (wd _ w1) (wd _ x1) (wd _ w2) (wd _ x2) (wd _ w3) (wd _ x3) (wd _ w4) (wd _ x4) g1 A1 L1 wz
theorem own : ownKnob Try.prog.godebug = none := by kernel_rfl
theorem contract (H : Type) (enc : TypeId × Value → H) (W : World) (base : Nat) (args : Array Value) (ds gs : List (DataW H)) (before : List MemPlace)
    (hval : ∀ (j : Nat) t v, Try.f5.params[j]? = some t → args[j]? = some v → Value.okWide Try.prog W .any base t v)
    (hW : DataW.Whole enc Try.prog Try.f5.params.toList Rows.sessionFullSpec.vars false W args.toList ds gs before) :
    Calls Try.prog 5 args W fun e W' => ∃ v, e = .returned v ∧ Rows.sessionFullSpec.post enc Try.prog Try.f5 false true false false W args v W' := by
  have hW0 := hW
  obtain ⟨p, q, hA, hV, hpq, hfz, hnd⟩ := hW
  have hlen := trodAll_len hA
  obtain rfl : gs = [] := (trodVars_none (enc := enc) (w := W) hV).1
  have hspec : Rows.sessionFullSpec.fn H (ds ++ []) = { results := [.lit (.bool true)], args := ds } := by
    rw [Try.params5] at hlen
    match ds, hlen with
    | [_, _, _, _, _, _], _ => rfl
  rw [Try.params5] at hA hval
  refine (opened W base args ds p hval hA).mono fun e W' ⟨he, hb⟩ => ?_
  exact ⟨_, he, law_post (tb := 4) (by kernel_rfl) rfl Try.underlying4 rfl hspec hW0 hb⟩
set_option maxRecDepth 100000 in
theorem lifted (os : Os) (started : os.Started) (H : Type) (enc : TypeId × Value → H) :
    ReturnsInHanded {} Try.checked os 5 .any (Rows.sessionFullSpec.pre6 enc Try.prog Try.f5 Rows.sessionFullRow.domain false) (Rows.sessionFullSpec.post enc Try.prog Try.f5 false true false false) := by
  refine returnsInHanded_of_change (C := Try.checked) own started (by kernel_rfl) Try.func5
    (ChangeSpec.witness6 (enc := enc) (C := Try.checked) false ⟨#[], #[.agg #[.int .u64 0, .int .u64 0], .agg #[.int .u64 0, .int .u64 0], .agg #[.int .u64 0, .int .u64 0], .agg #[.int .u64 0, .int .u64 0], .agg #[.int .u64 0, .int .u64 0], .slice none 0 0], []⟩ 8 (by kernel_rfl) (by kernel_rfl) (by kernel_rfl) (by kernel_rfl)) ?_
  intro W base args ds gs before hval hW _ _
  exact contract H enc W base args ds gs before hval hW
theorem over : Rows.sessionFullRow.holds Try.pinned (OpenSpec.ofChange Rows.sessionFullSpec) :=
  OpenClaim.holds_of_wide 5 Try.f5 rfl rfl rfl rfl rfl rfl rfl ⟨rfl, rfl, rfl, rfl, rfl⟩ rfl rfl rfl rfl rfl (by kernel_rfl) Try.func5 (by kernel_rfl)
    (of_decide_eq_true (by kernel_rfl)) (by unfold Func.isWrapper; first | (rw [if_pos (by decide +kernel)]; kernel_rfl) | (rw [if_neg (by decide +kernel)]; exact ⟨rfl, rfl⟩))
    (fun os started H enc _ => lifted os started H enc)
theorem proved : Rows.SessionFullSaid := over
#print axioms proved
end Go.Proofs.Ytdcakhahagbedaa.lawSessionFull
