/-
  The statement MessageSize's own call.
-/
import Derived.Test.YtcmcelilollchaaMszG
namespace Go.Proofs.Ytcmcelilollchaa
set_option linter.unusedSimpArgs false
set_option linter.unusedVariables false
set_option linter.unusedSectionVars false
open Go Go.RowKit
def hdKs : List IntKind := [.i64, .i64, .i64, .i64, .i64, .i64, .i64, .i64, .i64, .u64, .u64, .i64, .i64, .u64, .i64, .i64]
theorem AllWf.one {k : IntKind} {ks : List IntKind} {zs : List Int} (h : AllWf (k :: ks) zs) : ∃ z zs', zs = z :: zs' ∧ AllWf ks zs' := by
  cases zs with
  | nil => exact h.elim
  | cons z zs => exact ⟨z, zs, rfl, h.2⟩
theorem hd_open {zs : List Int} (hz : AllWf hdKs zs) : ∃ f : Nat → Int, cellsK hdKs zs = hdF f := by
  unfold hdKs at hz
  obtain ⟨a0, z0, rfl, hy0⟩ := hz.one
  obtain ⟨a1, z1, rfl, hy1⟩ := hy0.one
  obtain ⟨a2, z2, rfl, hy2⟩ := hy1.one
  obtain ⟨a3, z3, rfl, hy3⟩ := hy2.one
  obtain ⟨a4, z4, rfl, hy4⟩ := hy3.one
  obtain ⟨a5, z5, rfl, hy5⟩ := hy4.one
  obtain ⟨a6, z6, rfl, hy6⟩ := hy5.one
  obtain ⟨a7, z7, rfl, hy7⟩ := hy6.one
  obtain ⟨a8, z8, rfl, hy8⟩ := hy7.one
  obtain ⟨a9, z9, rfl, hy9⟩ := hy8.one
  obtain ⟨a10, z10, rfl, hy10⟩ := hy9.one
  obtain ⟨a11, z11, rfl, hy11⟩ := hy10.one
  obtain ⟨a12, z12, rfl, hy12⟩ := hy11.one
  obtain ⟨a13, z13, rfl, hy13⟩ := hy12.one
  obtain ⟨a14, z14, rfl, hy14⟩ := hy13.one
  obtain ⟨a15, z15, rfl, hy15⟩ := hy14.one
  cases z15 with
  | cons z zs => exact hy15.elim
  | nil =>
    refine ⟨fun i => [a0, a1, a2, a3, a4, a5, a6, a7, a8, a9, a10, a11, a12, a13, a14, a15].getD i 0, rfl⟩
theorem size_any {W : World} {v : Value} {s : Int} {zs ys : List Int} {a : Av} {q : Option (Addr × Nat)} (hz : AllWf hdKs zs) (hy : ∀ y ∈ ys, (Lit.int .u8 y).wf = true) (hq : (a = .fl (.agg (cellsK hdKs zs ++ [Value.slice none 0 0]).toArray) ∧ ys = []) ∨ a = .ag (cellsK hdKs zs) (ys.map (Value.int .u8)) ys.length)
    (A0 : AvAt a v q) (L0 : Lies W a q) : Calls Try.prog 4 #[v, .int .i64 s] W fun e w' => e = .returned (.bool true) ∧ Ext W w' := by
  obtain ⟨f, hf⟩ := hd_open hz
  rw [hf] at hq
  have hb : Byts (ys.map (Value.int .u8)) := Byts.of fun n hn => by
    have := hy n hn
    simp [Lit.wf, IntKind.min, IntKind.max, IntKind.signed, IntKind.bits] at this
    omega
  refine calls_sl (avs := [a, .fl (.int .i64 s)]) (vs := [v, .int .i64 s]) (ps := [q, none]) ⟨A0, ⟨rfl, fun σ => rfl, rfl⟩, trivial⟩ ⟨L0, (fun ad c e => by cases e), trivial⟩ (fun σ => rfl) fun cs hcs => ?_
  obtain ⟨c, d, rfl⟩ := caps2 hcs
  rcases hq with ⟨rfl, rfl⟩ | rfl
  · exact size_nil
  · exact size_sl hb (by simp) hcs.1
end Go.Proofs.Ytcmcelilollchaa
