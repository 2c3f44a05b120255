/-
  Further tools: a run's answer row, contracts with a new slice, of closed calls, of copies; OverBytes writes over a list whose contents are told.
-/
import Derived.Test.YtmoflcoijmmpjaaKitS
import Derived.Test.YtmoflcoijmmpjaaOpenSl
namespace Go.Proofs.Ytmoflcoijmmpjaa
set_option linter.unusedSimpArgs false
set_option linter.unusedVariables false
set_option linter.unusedSectionVars false
open Go Go.RowKit

theorem GrIs.one {n c : Nat} {kd : Kd} {cs : List Value} {h0' : Hp} {m : Nat} (hl : lk h0' m = some ⟨kd, cs⟩) (hf : Fl cs) (hk : plainKd kd = true) (ho : kd ≠ .old) (hc : c ≤ 9223372036854775807) :
    GrIs ⟨fun nx => .slice (some ⟨nx, 0, none⟩) n c, [⟨kd, cs⟩]⟩ (.slice (some ⟨m, 0, none⟩) n c) h0' (fun _ => m) := by
  refine ⟨fun nx => ?_, fun j r hj => ?_, fun i j hi hj _ => ?_⟩
  · have hb : (f2s nx 1 fun _ => m).b nx = some (m, 0) := by simp [f2s]
    have := renV_slice_mk (l := n) (c := c) (c' := c) (o := 0) hb (by unfold cpR; rw [if_pos (by unfold capBig; omega)]) (by simp [f2s]) (.inl rfl)
    simpa using this
  · match j, hj with
    | 0, hj => cases hj; exact ⟨hf, hk, ho, hl⟩
  · simp at hi hj; omega
theorem GrIs.big {n size : Nat} {z cs : List Value} {h0' : Hp} {m : Nat} (hl : lk h0' m = some ⟨.room size z, cs⟩) (hf : Fl cs) :
    GrIs ⟨fun nx => .slice (some ⟨nx, 0, none⟩) n (capBig + nx), [⟨.room size z, cs⟩]⟩ (.slice (some ⟨m, 0, none⟩) n (capBig + m)) h0' (fun _ => m) := by
  refine ⟨fun nx => ?_, fun j r hj => ?_, fun i j hi hj _ => ?_⟩
  · exact f2s_slice0 (g := fun _ => m) (by simp) n
  · match j, hj with
    | 0, hj => cases hj; exact ⟨hf, rfl, (fun e => by cases e), hl⟩
  · simp at hi hj; omega
def gTrueY : GSpec := fun av tp => match av with
  | [] => some (⟨fun _ => .bool true, []⟩, tp, [])
  | _ => none
theorem gTrueY_tri {f : FuncId} (H : ∃ h' nx' d, Tri Try.prog f [] [] 0 (.bool true, h', nx', d)) : GOk Try.prog f [] gTrueY := by
  intro av tp gr tp' ob hG ho hP caps hcap
  unfold gTrueY at hG
  split at hG
  case h_2 => cases hG
  simp only [Option.some.injEq, Prod.mk.injEq] at hG
  obtain ⟨rfl, rfl, rfl⟩ := hG
  obtain ⟨h', nx', d, T⟩ := H
  exact ⟨_, _, _, _, fun n => n, T, GrIs.flat fun σ => rfl⟩
theorem gTrueY_ok {f : FuncId} (H : ∀ W : World, Calls Try.prog f #[] W fun e w' => e = .returned (.bool true) ∧ Ext W w') : GOk Try.prog f [] gTrueY := by
  refine gTrueY_tri ⟨_, _, _, tri_quiet (v := .bool true) (fun σ args' ha => ?_) (fun σ => rfl) fun w => H w⟩
  simp only [renL, Option.some.injEq] at ha
  exact ha.symm
theorem all1_map {k : IntKind} : ∀ l : List Int, all1 (l.map (Value.int k)) = true
  | [] => rfl
  | x :: l => by simp only [List.map_cons, all1, all1_map l]; rfl
theorem Ints.all1 {k : IntKind} {xs : List Value} (h : Ints k xs) : all1 xs = true := by rw [h]; exact all1_map _
end Go.Proofs.Ytmoflcoijmmpjaa
/-
  Further tools: runs as far as their value goes; contracts with a new slice inside a value.
-/
namespace Go.Proofs.Ytmoflcoijmmpjaa
set_option linter.unusedSimpArgs false
set_option linter.unusedVariables false
set_option linter.unusedSectionVars false
open Go Go.RowKit

def prjV : Res (Out × Tape × List Prop) → Res (Value × Tape × List Prop)
  | .ok ((v, _, _, _), tp, ob) => .ok (v, tp, ob)
  | .ask b => .ask b
  | .no => .no
theorem run_val {V : Tv} (hX : XOkZ V Try.prog) (hT : TOkZ V Try.prog) (hL : LOkZ V Try.prog) {k : Nat} {f : FuncId} {args : List Value} {h : Hp} {nx : Nat} {tp tp' : Tape} {v : Value} {ob : List Prop} (e : prjV (runZ V Try.prog k f args h nx tp) = .ok (v, tp', ob)) (ho : Alls ob) (hf : Nat.blt f yBig = true) : ∃ h' nx' d, Tri Try.prog f args h nx (v, h', nx', d) := by
  unfold prjV at e
  split at e
  · rename_i v0 h0 nx0 d0 tp0 ob0 hr
    simp only [Res.ok.injEq, Prod.mk.injEq] at e
    obtain ⟨rfl, rfl, rfl⟩ := e
    exact ⟨_, _, _, run_tri hX hT hL hr ho hf⟩
  · cases e
  · cases e
end Go.Proofs.Ytmoflcoijmmpjaa
