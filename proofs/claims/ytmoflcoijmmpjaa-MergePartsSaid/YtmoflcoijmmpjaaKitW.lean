/-
  Further tools: runs as far as their value goes; contracts with a new slice inside a value.
-/
import Derived.Test.YtmoflcoijmmpjaaKitX
namespace Go.Proofs.Ytmoflcoijmmpjaa
set_option linter.unusedSimpArgs false
set_option linter.unusedVariables false
set_option linter.unusedSectionVars false
open Go Go.RowKit

def prjV : Res (Out × Tape × List Prop) → Res (Value × Tape × List Prop)
  | .ok ((v, _, _, _), tp, ob) => .ok (v, tp, ob)
  | .ask b => .ask b
  | .no => .no
theorem run_val {V : Tv} (hX : XOkZ V Try.prog) (hT : TOkZ V Try.prog) (hL : LOkZ V Try.prog) {k : Nat} {f : FuncId} {args : List Value} {h : Hp} {nx : Nat} {tp tp' : Tape} {v : Value} {ob : List Prop} (e : prjV (runZ V Try.prog k f args h nx tp) = .ok (v, tp', ob)) (ho : Alls ob) (hf : Nat.blt f yBig = true) : ∃ h' nx' d, Tri Try.prog f args h nx (v, h', nx', d) := by
  unfold prjV at e
  split at e
  · rename_i v0 h0 nx0 d0 tp0 ob0 hr
    simp only [Res.ok.injEq, Prod.mk.injEq] at e
    obtain ⟨rfl, rfl, rfl⟩ := e
    exact ⟨_, _, _, run_tri hX hT hL hr ho hf⟩
  · cases e
  · cases e
/-- A new slice of a row of its own, in a value. -/
theorem GrIs.oneV {V : Value → Value} (hV : ∀ σ v v', renV σ v = some v' → renV σ (V v) = some (V v')) {n c : Nat} {kd : Kd} {cs : List Value} {h0' : Hp} {m : Nat} (hl : lk h0' m = some ⟨kd, cs⟩) (hf : Fl cs) (hk : plainKd kd = true) (ho : kd ≠ .old) (hc : c ≤ 9223372036854775807) :
    GrIs ⟨fun nx => V (.slice (some ⟨nx, 0, none⟩) n c), [⟨kd, cs⟩]⟩ (V (.slice (some ⟨m, 0, none⟩) n c)) h0' (fun _ => m) := by
  refine ⟨fun nx => hV _ _ _ ?_, fun j r hj => ?_, fun i j hi hj _ => ?_⟩
  · have hb : (f2s nx 1 fun _ => m).b nx = some (m, 0) := by simp [f2s]
    have := renV_slice_mk (l := n) (c := c) (c' := c) (o := 0) hb (by unfold cpR; rw [if_pos (by unfold capBig; omega)]) (by simp [f2s])
    simpa using this
  · match j, hj with
    | 0, hj => cases hj; exact ⟨hf, hk, ho, hl⟩
  · simp at hi hj; omega
/-- One that has grown. -/
theorem GrIs.bigV {V : Value → Value} (hV : ∀ σ v v', renV σ v = some v' → renV σ (V v) = some (V v')) {n size : Nat} {z cs : List Value} {h0' : Hp} {m : Nat} (hl : lk h0' m = some ⟨.room size z, cs⟩) (hf : Fl cs) :
    GrIs ⟨fun nx => V (.slice (some ⟨nx, 0, none⟩) n (capBig + nx)), [⟨.room size z, cs⟩]⟩ (V (.slice (some ⟨m, 0, none⟩) n (capBig + m))) h0' (fun _ => m) := by
  refine ⟨fun nx => hV _ _ _ (f2s_slice0 (g := fun _ => m) (by simp) n), fun j r hj => ?_, fun i j hi hj _ => ?_⟩
  · match j, hj with
    | 0, hj => cases hj; exact ⟨hf, rfl, (fun e => by cases e), hl⟩
  · simp at hi hj; omega
def tup0 (v : Value) : Value := .tuple ⟨[v, .int .i64 0]⟩
theorem tup0_ren : ∀ σ v v', renV σ v = some v' → renV σ (tup0 v) = some (tup0 v') := fun σ v v' h => renV_tuple_mk (renL_mk h (renL_mk (by simp only [renV]) rfl))
/-- No list, and an error. -/
def tupE (e : Int) : Value := .tuple ⟨[.slice none 0 0, .int .i64 e]⟩
theorem ran_tupE {P : Program} {f : FuncId} {args : List Value} {h : Hp} {nx : Nat} {e : Int} (H : ∃ h' nx' d, Tri P f args h nx (tupE e, h', nx', d)) : Ran P f args h nx ⟨fun _ => tupE e, []⟩ := by
  obtain ⟨h', nx', d, T⟩ := H
  exact ⟨_, _, _, _, fun n => n, T, GrIs.flat fun σ => (by simp [tupE, renV, renA, renL])⟩
theorem ran_tup {P : Program} {f : FuncId} {args : List Value} {h : Hp} {nx n c m : Nat} {cs ds : List Value} (H : ∃ h' nx' d, Tri P f args h nx (tup0 (.slice (some ⟨m, 0, none⟩) n c), h', nx', d) ∧ lk h' m = some ⟨.shut, ds⟩) (he : ds = cs) (hf : Fl cs) (hc : c ≤ 9223372036854775807) :
    Ran P f args h nx ⟨fun nx => tup0 (.slice (some ⟨nx, 0, none⟩) n c), [⟨.shut, cs⟩]⟩ := by
  obtain ⟨h', nx', d, T, hl⟩ := H
  subst he
  exact ⟨_, _, _, _, fun _ => m, T, GrIs.oneV tup0_ren hl hf rfl (fun e => by cases e) hc⟩
theorem ran_tupB {P : Program} {f : FuncId} {args : List Value} {h : Hp} {nx n m size : Nat} {z cs ds : List Value} (H : ∃ h' nx' d, Tri P f args h nx (tup0 (.slice (some ⟨m, 0, none⟩) n (capBig + m)), h', nx', d) ∧ lk h' m = some ⟨.room size z, ds⟩) (he : ds = cs) (hf : Fl cs) :
    Ran P f args h nx ⟨fun nx => tup0 (.slice (some ⟨nx, 0, none⟩) n (capBig + nx)), [⟨.room size z, cs⟩]⟩ := by
  obtain ⟨h', nx', d, T, hl⟩ := H
  subst he
  exact ⟨_, _, _, _, fun _ => m, T, GrIs.bigV tup0_ren hl hf⟩
end Go.Proofs.Ytmoflcoijmmpjaa
