/-
  Chapter 02: the statement RecordBatches: contracts of what it calls, in few words.
-/
import Derived.Test.YtgpgdkpfeoaidaaRecI
import Derived.Test.YtgpgdkpfeoaidaaRecG
import Derived.Test.YtgpgdkpfeoaidaaRecF
namespace Go.Proofs.Ytgpgdkpfeoaidaa
set_option linter.unusedSimpArgs false
set_option linter.unusedVariables false
set_option linter.unusedSectionVars false
open Go Go.RowKit

theorem GOk.of {P : Program} {f : FuncId} {ps : List Pt} {G G' : GSpec} (H : GOk P f ps G) (h : ∀ av tp gr tp' ob, G' av tp = some (gr, tp', ob) → Alls ob → ∃ tp0 ob0, G av tp = some (gr, tp0, ob0) ∧ Alls ob0) : GOk P f ps G' := by
  intro av tp gr tp' ob hG ho
  obtain ⟨tp0, ob0, h1, h2⟩ := h av tp gr tp' ob hG ho
  exact H av tp gr tp0 ob0 h1 h2
/-- A batch: its records, their number, its bytes, their number. -/
structure BatOk (xs : List Value) (n : Nat) (B : List Value) (N : Nat) : Prop where
  b : B = recL rcdB xs 0 n
  r : RecsOk xs n
  m : n ≤ 8
  e : N = n * 128
def sAbO (B : List Value) (N : Nat) : Spec1 := fun xs n tp => match tp with
  | true :: tp => some (⟨fun _ => tupE 3, []⟩, tp, [8 < n])
  | false :: tp => some (⟨fun nx => tup0 (.slice (some ⟨nx, 0, none⟩) N N), [⟨.shut, B⟩]⟩, tp, [BatOk xs n B N])
  | [] => none
theorem gS_of {S S' : Spec1} (h : ∀ xs n tp gr tp' ob, S' xs n tp = some (gr, tp', ob) → Alls ob → ∃ tp0 ob0, S xs n tp = some (gr, tp0, ob0) ∧ Alls ob0) : ∀ av tp gr tp' ob, gS S' av tp = some (gr, tp', ob) → Alls ob → ∃ tp0 ob0, gS S av tp = some (gr, tp0, ob0) ∧ Alls ob0 := by
  intro av tp gr tp' ob hG ho
  unfold gS at hG ⊢
  split at hG
  · rename_i a
    split at hG
    · rename_i xs hx
      obtain ⟨tp0, ob0, h1, h2⟩ := h _ _ _ _ _ _ hG ho
      exact ⟨tp0, ob0, (by first | exact h1 | (rw [hx]; exact h1)), h2⟩
    · cases hG
  · cases hG
theorem sAbO_of (B : List Value) (N : Nat) : ∀ xs n tp gr tp' ob, sAbO B N xs n tp = some (gr, tp', ob) → Alls ob → ∃ tp0 ob0, sAb B xs n tp = some (gr, tp0, ob0) ∧ Alls ob0 := by
  intro xs n tp gr tp' ob hG ho
  unfold sAbO at hG
  split at hG
  · simp only [Option.some.injEq, Prod.mk.injEq] at hG
    obtain ⟨rfl, rfl, rfl⟩ := hG
    exact ⟨_, _, rfl, ho⟩
  · simp only [Option.some.injEq, Prod.mk.injEq] at hG
    obtain ⟨rfl, rfl, rfl⟩ := hG
    obtain ⟨⟨h1, h2, h3, h4⟩, _⟩ := ho
    subst h4
    exact ⟨_, _, rfl, h1, h2, h3, trivial⟩
  · cases hG
/-- Bytes that are the same. -/
structure SamOk (xs ys : List Value) : Prop where
  x : Byts xs
  y : Byts ys
  e : xs = ys
def gSameO : GSpec := fun av tp => match av with
  | [a, b] => match bytsA a, bytsA b with
    | some xs, some ys => some (⟨fun _ => .bool true, []⟩, tp, [SamOk xs ys])
    | _, _ => none
  | _ => none
theorem gSameO_of : ∀ av tp gr tp' ob, gSameO av tp = some (gr, tp', ob) → Alls ob → ∃ tp0 ob0, gSame av tp = some (gr, tp0, ob0) ∧ Alls ob0 := by
  intro av tp gr tp' ob hG ho
  unfold gSameO at hG
  unfold gSame
  split at hG
  · rename_i a b
    split at hG
    · rename_i xs ys hx hy
      simp only [Option.some.injEq, Prod.mk.injEq] at hG
      obtain ⟨rfl, rfl, rfl⟩ := hG
      obtain ⟨⟨h1, h2, h3⟩, _⟩ := ho
      simp only [hx, hy]
      subst h3
      exact ⟨tp, [Byts xs, Byts xs], by simp, h1, h1, trivial⟩
    · cases hG
  · cases hG
/-- What batches bytes say. -/
structure RdNone (n : Nat) (e : Int) : Prop where
  e : e = rdE n
  n : rdNo n
structure RdSome (xs : List Value) (n k : Nat) (O : List Value) : Prop where
  o : O = rhL rcF xs 0 k
  n : n = k * 128
  p : 0 < k
  m : k ≤ 8
  b : Byts xs
def sRdO (e : Int) (k : Nat) (O : List Value) : Spec1 := fun xs n tp => match tp with
  | true :: tp => some (⟨fun _ => tupE e, []⟩, tp, [RdNone n e])
  | false :: tp => some (⟨fun nx => tup0 (.slice (some ⟨nx, 0, none⟩) k (capBig + nx)), [⟨.room 19 z19, O⟩]⟩, tp, [RdSome xs n k O])
  | [] => none
theorem sRdO_of (e : Int) (k : Nat) (O : List Value) : ∀ xs n tp gr tp' ob, sRdO e k O xs n tp = some (gr, tp', ob) → Alls ob → ∃ tp0 ob0, sRdx e k O xs n tp = some (gr, tp0, ob0) ∧ Alls ob0 := by
  intro xs n tp gr tp' ob hG ho
  unfold sRdO at hG
  split at hG
  · simp only [Option.some.injEq, Prod.mk.injEq] at hG
    obtain ⟨rfl, rfl, rfl⟩ := hG
    obtain ⟨⟨h1, h2⟩, _⟩ := ho
    exact ⟨_, _, rfl, h1, h2, trivial⟩
  · simp only [Option.some.injEq, Prod.mk.injEq] at hG
    obtain ⟨rfl, rfl, rfl⟩ := hG
    obtain ⟨⟨h1, h2, h3, h4, h5⟩, _⟩ := ho
    exact ⟨_, _, rfl, h1, h2, h3, h4, h5, trivial⟩
  · cases hG
end Go.Proofs.Ytgpgdkpfeoaidaa
