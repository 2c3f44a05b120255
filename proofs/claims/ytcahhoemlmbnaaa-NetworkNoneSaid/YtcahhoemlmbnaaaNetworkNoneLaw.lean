/-
  The statement NetworkNone: a network that is nil, or that nobody made, tells nothing. No condition.
-/
import Derived.Test.YtcahhoemlmbnaaaRows
import Derived.Test.YtcahhoemlmbnaaaNetworkNoneV
import Derived.Test.YtcahhoemlmbnaaaOpenHB
import Derived.Test.YtcahhoemlmbnaaaFrame
namespace Go.Proofs.Ytcahhoemlmbnaaa
theorem AllWf.one {k : IntKind} {ks : List IntKind} {zs : List Int} (h : AllWf (k :: ks) zs) : ∃ z zs', zs = z :: zs' ∧ (Lit.int k z).wf = true ∧ AllWf ks zs' := by
  cases zs with
  | nil => exact h.elim
  | cons z zs => exact ⟨z, zs, rfl, h.1, h.2⟩
theorem AllWf.none {zs : List Int} (h : AllWf [] zs) : zs = [] := by
  cases zs with
  | nil => rfl
  | cons z zs => exact h.elim
end Go.Proofs.Ytcahhoemlmbnaaa
namespace Go.Proofs.Ytcahhoemlmbnaaa.lawNetworkNone
set_option linter.unusedSimpArgs false
set_option linter.unusedVariables false
open Go.ChangeShapes Go.WideShapes Go.ChangeAt Go.RowKit
theorem opened {H : Type} {enc : TypeId × Value → H} (W : World) (base : Nat) (args : Array Value) (ds : List (DataW H)) (p : List MemPlace)
    (hval : ∀ (j : Nat) t v, (#[36] : Array TypeId)[j]? = some t → args[j]? = some v → Value.okWide Try.prog W .any base t v)
    (hA : DataW.TrodAll enc Try.prog W 0 (fun _ => true) true [36] args.toList ds p) :
    Calls Try.prog 7 args W fun e W' => e = .returned (.bool true) ∧ Ext W W' := by
  obtain ⟨v0, vs0, d0, ds0, p0, q0, hargs, rfl, rfl, h0, r0⟩ := trodAll_cons hA
  obtain ⟨rfl, rfl, rfl⟩ := trodAll_nil r0
  obtain rfl : args = #[v0] := by cases args; simp_all
  obtain ⟨zs, A, n, cp, hz, rfl⟩ := open_hb (ks := [.i64, .i64, .i64, .i64, .i64, .i64, .i64, .i64, .i64, .u64, .u64, .i64, .i64, .u64, .i64, .i64]) Try.underlying36 rfl (by kernel_rfl) (by kernel_rfl) Try.underlying34 rfl (by kernel_rfl) (by kernel_rfl) (hval 0 36 v0 rfl rfl) h0
  obtain ⟨a, z1, rfl, b1, hz⟩ := hz.one
  obtain ⟨b, z2, rfl, b2, hz⟩ := hz.one
  obtain ⟨c, z3, rfl, b3, hz⟩ := hz.one
  obtain ⟨d, z4, rfl, b4, hz⟩ := hz.one
  obtain ⟨e, z5, rfl, b5, hz⟩ := hz.one
  obtain ⟨f, z6, rfl, b6, hz⟩ := hz.one
  obtain ⟨g, z7, rfl, b7, hz⟩ := hz.one
  obtain ⟨h, z8, rfl, b8, hz⟩ := hz.one
  obtain ⟨i, z9, rfl, b9, hz⟩ := hz.one
  obtain ⟨k, z10, rfl, b10, hz⟩ := hz.one
  obtain ⟨l, z11, rfl, b11, hz⟩ := hz.one
  obtain ⟨m, z12, rfl, b12, hz⟩ := hz.one
  obtain ⟨o, z13, rfl, b13, hz⟩ := hz.one
  obtain ⟨p, z14, rfl, b14, hz⟩ := hz.one
  obtain ⟨q, z15, rfl, b15, hz⟩ := hz.one
  obtain ⟨r, z16, rfl, b16, hz⟩ := hz.one
  obtain rfl := hz.none
  cases A with
  | none => exact none_any0 a b c d e f g h i k l m o p q r n cp W
  | some A => obtain ⟨B, off, s⟩ := A; exact none_any1 a b c d e f g h i k l m o p q r B off n cp s W
theorem own : ownKnob Try.prog.godebug = none := by kernel_rfl
theorem contract (H : Type) (enc : TypeId × Value → H) (W : World) (base : Nat) (args : Array Value) (ds gs : List (DataW H)) (before : List MemPlace)
    (hval : ∀ (j : Nat) t v, Try.f7.params[j]? = some t → args[j]? = some v → Value.okWide Try.prog W .any base t v)
    (hW : DataW.Whole enc Try.prog Try.f7.params.toList Rows.networkNoneSpec.vars false W args.toList ds gs before) :
    Calls Try.prog 7 args W fun e W' => ∃ v, e = .returned v ∧ Rows.networkNoneSpec.post enc Try.prog Try.f7 false true false false W args v W' := by
  have hW0 := hW
  obtain ⟨p, q, hA, hV, hpq, hfz, hnd⟩ := hW
  have hlen := trodAll_len hA
  obtain rfl : gs = [] := (trodVars_none (enc := enc) (w := W) hV).1
  have hspec : Rows.networkNoneSpec.fn H (ds ++ []) = { results := [.lit (.bool true)], args := ds } := by
    rw [Try.params7] at hlen
    match ds, hlen with
    | [_], _ => rfl
  rw [Try.params7] at hA hval
  refine (opened W base args ds p hval hA).mono fun e W' ⟨he, hb⟩ => ?_
  exact ⟨_, he, law_post (tb := 4) (by kernel_rfl) rfl Try.underlying4 rfl hspec hW0 hb⟩
set_option maxRecDepth 100000 in
theorem lifted (os : Os) (started : os.Started) (H : Type) (enc : TypeId × Value → H) :
    ReturnsInHanded {} Try.checked os 7 .any (Rows.networkNoneSpec.pre6 enc Try.prog Try.f7 Rows.networkNoneRow.domain false) (Rows.networkNoneSpec.post enc Try.prog Try.f7 false true false false) := by
  refine returnsInHanded_of_change (C := Try.checked) own started (by kernel_rfl) Try.func7
    (ChangeSpec.witness6 (enc := enc) (C := Try.checked) false ⟨#[], #[.agg #[.int .i64 0, .int .i64 0, .int .i64 0, .int .i64 0, .int .i64 0, .int .i64 0, .int .i64 0, .int .i64 0, .int .i64 0, .int .u64 0, .int .u64 0, .int .i64 0, .int .i64 0, .int .u64 0, .int .i64 0, .int .i64 0, .slice none 0 0]], []⟩ 8 (by kernel_rfl) (by kernel_rfl) (by kernel_rfl) (by kernel_rfl)) ?_
  intro W base args ds gs before hval hW _ _
  exact contract H enc W base args ds gs before hval hW
theorem over : Rows.networkNoneRow.holds Try.pinned (OpenSpec.ofChange Rows.networkNoneSpec) :=
  OpenClaim.holds_of_wide 7 Try.f7 rfl rfl rfl rfl rfl rfl rfl ⟨rfl, rfl, rfl, rfl, rfl⟩ rfl rfl rfl rfl rfl (by kernel_rfl) Try.func7 (by kernel_rfl)
    (of_decide_eq_true (by kernel_rfl)) (by unfold Func.isWrapper; first | (rw [if_pos (by decide +kernel)]; kernel_rfl) | (rw [if_neg (by decide +kernel)]; exact ⟨rfl, rfl⟩))
    (fun os started H enc _ => lifted os started H enc)
theorem proved : Rows.NetworkNoneSaid := over
#print axioms proved
end Go.Proofs.Ytcahhoemlmbnaaa.lawNetworkNone
