/-
  Chapter 02: the statement RecordBatches: contracts of what it calls, in few words.
-/
import Derived.Test.YtgpgdkpfeoaidaaRecI
import Derived.Test.YtgpgdkpfeoaidaaRecG
import Derived.Test.YtgpgdkpfeoaidaaRecF
namespace Go.Proofs.Ytgpgdkpfeoaidaa
set_option linter.unusedSimpArgs false
set_option linter.unusedVariables false
set_option linter.unusedSectionVars false
open Go Go.RowKit

theorem GOk.of {P : Program} {f : FuncId} {ps : List Pt} {G G' : GSpec} (H : GOk P f ps G) (h : ∀ av tp gr tp' ob, G' av tp = some (gr, tp', ob) → Alls ob → ∃ tp0 ob0, G av tp = some (gr, tp0, ob0) ∧ Alls ob0) : GOk P f ps G' := by
  intro av tp gr tp' ob hG ho
  obtain ⟨tp0, ob0, h1, h2⟩ := h av tp gr tp' ob hG ho
  exact H av tp gr tp0 ob0 h1 h2
/-- A batch: its records, their number, its bytes, their number. -/
structure BatOk (xs : List Value) (n : Nat) (B : List Value) (N : Nat) : Prop where
  b : B = recL rcdB xs 0 n
  r : RecsOk xs n
  m : n ≤ 8
  e : N = n * 128
def sAbO (B : List Value) (N : Nat) : Spec1 := fun xs n tp => match tp with
  | true :: tp => some (⟨fun _ => tupE 3, []⟩, tp, [8 < n])
  | false :: tp => some (⟨fun nx => tup0 (.slice (some ⟨nx, 0, none⟩) N N), [⟨.shut, B⟩]⟩, tp, [BatOk xs n B N])
  | [] => none
def sRbO (B : List Value) (N : Nat) : Spec1 := fun xs n tp => match tp with
  | true :: tp => some (⟨fun _ => tupE 3, []⟩, tp, [8 < n])
  | false :: true :: tp => some (⟨fun _ => tupE 0, []⟩, tp, [n = 0])
  | false :: false :: tp => some (⟨fun nx => tup0 (.slice (some ⟨nx, 0, none⟩) N (capBig + nx)), [byRow B]⟩, tp, [BatOk xs n B N, 0 < n])
  | _ => none
theorem gS_of {S S' : Spec1} (h : ∀ xs n tp gr tp' ob, S' xs n tp = some (gr, tp', ob) → Alls ob → ∃ tp0 ob0, S xs n tp = some (gr, tp0, ob0) ∧ Alls ob0) : ∀ av tp gr tp' ob, gS S' av tp = some (gr, tp', ob) → Alls ob → ∃ tp0 ob0, gS S av tp = some (gr, tp0, ob0) ∧ Alls ob0 := by
  intro av tp gr tp' ob hG ho
  unfold gS at hG ⊢
  split at hG
  · rename_i a
    split at hG
    · rename_i xs hx
      obtain ⟨tp0, ob0, h1, h2⟩ := h _ _ _ _ _ _ hG ho
      exact ⟨tp0, ob0, (by first | exact h1 | (rw [hx]; exact h1)), h2⟩
    · cases hG
  · cases hG
theorem sAbO_of (B : List Value) (N : Nat) : ∀ xs n tp gr tp' ob, sAbO B N xs n tp = some (gr, tp', ob) → Alls ob → ∃ tp0 ob0, sAb B xs n tp = some (gr, tp0, ob0) ∧ Alls ob0 := by
  intro xs n tp gr tp' ob hG ho
  unfold sAbO at hG
  split at hG
  · simp only [Option.some.injEq, Prod.mk.injEq] at hG
    obtain ⟨rfl, rfl, rfl⟩ := hG
    exact ⟨_, _, rfl, ho⟩
  · simp only [Option.some.injEq, Prod.mk.injEq] at hG
    obtain ⟨rfl, rfl, rfl⟩ := hG
    obtain ⟨⟨h1, h2, h3, h4⟩, _⟩ := ho
    subst h4
    exact ⟨_, _, rfl, h1, h2, h3, trivial⟩
  · cases hG
theorem sRbO_of (B : List Value) (N : Nat) : ∀ xs n tp gr tp' ob, sRbO B N xs n tp = some (gr, tp', ob) → Alls ob → ∃ tp0 ob0, sRb B xs n tp = some (gr, tp0, ob0) ∧ Alls ob0 := by
  intro xs n tp gr tp' ob hG ho
  unfold sRbO at hG
  split at hG
  · simp only [Option.some.injEq, Prod.mk.injEq] at hG
    obtain ⟨rfl, rfl, rfl⟩ := hG
    exact ⟨_, _, rfl, ho⟩
  · simp only [Option.some.injEq, Prod.mk.injEq] at hG
    obtain ⟨rfl, rfl, rfl⟩ := hG
    exact ⟨_, _, rfl, ho⟩
  · simp only [Option.some.injEq, Prod.mk.injEq] at hG
    obtain ⟨rfl, rfl, rfl⟩ := hG
    obtain ⟨⟨h1, h2, h3, h4⟩, h5, _⟩ := ho
    subst h4
    exact ⟨_, _, rfl, h1, h2, h5, h3, trivial⟩
  · cases hG
/-- A list that is lent: the list, its length; what is lent, its length and its capacity. -/
structure LentIs (xs : List Value) (n : Nat) (I : List Value) (J K : Nat) : Prop where
  i : I = xs ++ mk3 n
  j : J = n
  k : K = n + 3
  b : Byts xs
  m : n ≤ 1099511627776
  l : xs.length = n
def gLentO (I : List Value) (J K : Nat) : GSpec := fun av tp => match av with
  | [a] => match bytsA a with
    | some xs => some (⟨fun nx => .slice (some ⟨nx, 0, none⟩) J K, [⟨.shut, I⟩]⟩, tp, [LentIs xs (avLen a) I J K])
    | none => none
  | _ => none
theorem gLentO_of (I : List Value) (J K : Nat) : ∀ av tp gr tp' ob, gLentO I J K av tp = some (gr, tp', ob) → Alls ob → ∃ tp0 ob0, gLent av tp = some (gr, tp0, ob0) ∧ Alls ob0 := by
  intro av tp gr tp' ob hG ho
  unfold gLentO at hG
  unfold gLent
  split at hG
  · rename_i a
    split at hG
    · rename_i xs hx
      simp only [Option.some.injEq, Prod.mk.injEq] at hG
      obtain ⟨rfl, rfl, rfl⟩ := hG
      obtain ⟨⟨h1, h2, h3, h4, h5, h6⟩, _⟩ := ho
      simp only [hx]
      subst h1 h2 h3
      exact ⟨_, _, rfl, h4, h5, trivial⟩
    · cases hG
  · cases hG
def gKeptO : GSpec := fun av tp => match av with
  | [.sc ls l c, b] => match bytsA b with
    | some xs => some (⟨fun _ => .bool true, []⟩, tp, [LentIs xs (avLen b) ls l c])
    | none => none
  | _ => none
theorem gKeptO_of : ∀ av tp gr tp' ob, gKeptO av tp = some (gr, tp', ob) → Alls ob → ∃ tp0 ob0, gKept av tp = some (gr, tp0, ob0) ∧ Alls ob0 := by
  intro av tp gr tp' ob hG ho
  unfold gKeptO at hG
  unfold gKept
  split at hG
  · rename_i ls l c b
    split at hG
    · rename_i xs hx
      simp only [Option.some.injEq, Prod.mk.injEq] at hG
      obtain ⟨rfl, rfl, rfl⟩ := hG
      obtain ⟨⟨h1, h2, h3, h4, h5, h6⟩, _⟩ := ho
      simp only [hx]
      subst h1
      refine ⟨tp, [Byts (xs ++ mk3 (avLen b)), Byts xs, l = avLen b, c = avLen b + 3, avLen b ≤ 1099511627776], ?_, h4.app (mk3_byts _), h4, h2, h3, h5, trivial⟩
      simp
    · cases hG
  · cases hG
/-- Bytes that are the same. -/
structure SamOk (xs ys : List Value) : Prop where
  x : Byts xs
  y : Byts ys
  e : xs = ys
def gSameO : GSpec := fun av tp => match av with
  | [a, b] => match bytsA a, bytsA b with
    | some xs, some ys => some (⟨fun _ => .bool true, []⟩, tp, [SamOk xs ys])
    | _, _ => none
  | _ => none
theorem gSameO_of : ∀ av tp gr tp' ob, gSameO av tp = some (gr, tp', ob) → Alls ob → ∃ tp0 ob0, gSame av tp = some (gr, tp0, ob0) ∧ Alls ob0 := by
  intro av tp gr tp' ob hG ho
  unfold gSameO at hG
  unfold gSame
  split at hG
  · rename_i a b
    split at hG
    · rename_i xs ys hx hy
      simp only [Option.some.injEq, Prod.mk.injEq] at hG
      obtain ⟨rfl, rfl, rfl⟩ := hG
      obtain ⟨⟨h1, h2, h3⟩, _⟩ := ho
      simp only [hx, hy]
      subst h3
      exact ⟨tp, [Byts xs, Byts xs], by simp, h1, h1, trivial⟩
    · cases hG
  · cases hG
structure CopOk (xs : List Value) (n : Nat) : Prop where
  b : Byts xs
  p : 0 < n
  m : n ≤ 1099511627776
def sCpO : Spec1 := fun xs n tp => match tp with
  | true :: tp => some (⟨fun nx => .slice (some ⟨nx, 0, none⟩) 0 0, [⟨.shut, []⟩]⟩, tp, [n = 0])
  | false :: tp => some (⟨fun nx => .slice (some ⟨nx, 0, none⟩) n (capBig + nx), [⟨.room 1 [.int .u8 0], xs⟩]⟩, tp, [CopOk xs n])
  | [] => none
theorem sCpO_of : ∀ xs n tp gr tp' ob, sCpO xs n tp = some (gr, tp', ob) → Alls ob → ∃ tp0 ob0, sCp xs n tp = some (gr, tp0, ob0) ∧ Alls ob0 := by
  intro xs n tp gr tp' ob hG ho
  unfold sCpO at hG
  split at hG
  · simp only [Option.some.injEq, Prod.mk.injEq] at hG
    obtain ⟨rfl, rfl, rfl⟩ := hG
    exact ⟨_, _, rfl, ho⟩
  · simp only [Option.some.injEq, Prod.mk.injEq] at hG
    obtain ⟨rfl, rfl, rfl⟩ := hG
    obtain ⟨⟨h1, h2, h3⟩, _⟩ := ho
    exact ⟨_, _, rfl, h1, h2, h3, trivial⟩
  · cases hG
/-- What batches bytes say. -/
structure RdNone (n : Nat) (e : Int) : Prop where
  e : e = rdE n
  n : rdNo n
structure RdSome (xs : List Value) (n k : Nat) (O : List Value) : Prop where
  o : O = rhL rcF xs 0 k
  n : n = k * 128
  p : 0 < k
  m : k ≤ 8
  b : Byts xs
def sRdO (e : Int) (k : Nat) (O : List Value) : Spec1 := fun xs n tp => match tp with
  | true :: tp => some (⟨fun _ => tupE e, []⟩, tp, [RdNone n e])
  | false :: tp => some (⟨fun nx => tup0 (.slice (some ⟨nx, 0, none⟩) k (capBig + nx)), [⟨.room 19 z19, O⟩]⟩, tp, [RdSome xs n k O])
  | [] => none
theorem sRdO_of (e : Int) (k : Nat) (O : List Value) : ∀ xs n tp gr tp' ob, sRdO e k O xs n tp = some (gr, tp', ob) → Alls ob → ∃ tp0 ob0, sRdx e k O xs n tp = some (gr, tp0, ob0) ∧ Alls ob0 := by
  intro xs n tp gr tp' ob hG ho
  unfold sRdO at hG
  split at hG
  · simp only [Option.some.injEq, Prod.mk.injEq] at hG
    obtain ⟨rfl, rfl, rfl⟩ := hG
    obtain ⟨⟨h1, h2⟩, _⟩ := ho
    exact ⟨_, _, rfl, h1, h2, trivial⟩
  · simp only [Option.some.injEq, Prod.mk.injEq] at hG
    obtain ⟨rfl, rfl, rfl⟩ := hG
    obtain ⟨⟨h1, h2, h3, h4, h5⟩, _⟩ := ho
    exact ⟨_, _, rfl, h1, h2, h3, h4, h5, trivial⟩
  · cases hG
/-- All that the statement calls. -/
structure Bt where
  B : List Value
  N : Nat
  C : List Value
  M : Nat
  I : List Value
  J : Nat
  K : Nat
  O : List Value
  e : Int
  k : Nat
def btT (t : Bt) : TFun := orTz (mkT 23 [.s 19] (gS (sAbO t.B t.N))) (orTz (mkT 24 [.s 19] (gS (sRbO t.B t.N))) (orTz (mkT 25 [.s 19] (gS (sAbO t.C t.M))) (orTz (mkT 26 [.s 19] (gS (sRbO t.C t.M))) (orTz (mkT 27 [.s 19, .s 19] (gSS (sEqO RecsOk))) (orTz (mkT 28 [.s 19, .s 19] (gSS (sEqO RecsOk)))
  (orTz (mkT 21 [.s 1] (gS (sRdO t.e t.k t.O))) (orTz (mkT 29 [.s 1] (gS (sRdO t.e t.k t.O))) (orTz (mkT 22 [.s 1] (gS (sRdO t.e t.k t.O))) (orTz (mkT 30 [.s 1] (gS (sRdO t.e t.k t.O)))
  (orTz (mkT 14 [] gTrueY) (orTz (mkT 35 [.s 1] (gS sCpO)) (orTz (mkT 20 [.c 1, .s 1] gKeptO) (orTz ovxT (orTz (mkT 10 [.s 1, .s 1] gSameO) (mkT 15 [.s 1] (gLentO t.I t.J t.K))))))))))))))))
theorem btT_one (t : Bt) : TOneZ Try.prog (btT t) := orTz_ok (mkT_one ((ab_gok t.B).of (gS_of (sAbO_of _ _)))) (orTz_ok (mkT_one ((rab_gok t.B).of (gS_of (sRbO_of _ _)))) (orTz_ok (mkT_one ((tb_gok t.C).of (gS_of (sAbO_of _ _)))) (orTz_ok (mkT_one ((rtb_gok t.C).of (gS_of (sRbO_of _ _)))) (orTz_ok (mkT_one wa_gok) (orTz_ok (mkT_one wt_gok)
  (orTz_ok (mkT_one ((rda_gok _ _ _).of (gS_of (sRdO_of _ _ _)))) (orTz_ok (mkT_one ((rra_gok _ _ _).of (gS_of (sRdO_of _ _ _)))) (orTz_ok (mkT_one ((rdt_gok _ _ _).of (gS_of (sRdO_of _ _ _)))) (orTz_ok (mkT_one ((rrt_gok _ _ _).of (gS_of (sRdO_of _ _ _))))
  (orTz_ok (mkT_one aw_gok) (orTz_ok (mkT_one (cp_gok.of (gS_of sCpO_of))) (orTz_ok (mkT_one (kept_ok.of gKeptO_of)) (orTz_ok ovx_one (orTz_ok (mkT_one (same_ok.of gSameO_of)) (mkT_one (lent_ok.of (gLentO_of _ _ _)))))))))))))))))
def btV (t : Bt) (m1 m2 : Nat) : Tv := ⟨btT t, noXz, noL, fun f => bif Nat.beq f 6 then [28, 32, 37, 125, 135] else [], orSy (allSy 6 [(43, m1), (46, m2)]) (lsSy 13 [(32, 0), (33, 0), (59, 0), (60, 0)]), fun _ => [], fun _ => 0⟩
end Go.Proofs.Ytgpgdkpfeoaidaa
