/-
  Chapter 12: slices.overlaps of two rows of their own; bytes compared, told.
-/
import Derived.Test.YtojakfnljopjbaaVmZd
import Derived.Test.YtojakfnljopjbaaProg
import Derived.Lib.Overlaps
namespace Go.Proofs.Ytojakfnljopjbaa
set_option linter.unusedSimpArgs false
set_option linter.unusedVariables false
set_option linter.unusedSectionVars false
open Go Go.RowKit

abbrev XFun := FuncId → List Value → Hp → Option (Value × List Prop)
def XOneZ (P : Program) (X : XFun) : Prop := ∀ f args h v ob, X f args h = some (v, ob) → Alls ob → ∀ W σ w args', Rl W σ h w → renL σ args = some args' → renV σ v = some v ∧ (callFunc f args'.toArray).run P w = .ok (.value v) w
def orXz (g k : XFun) : XFun := fun f args h => match g f args h with | some v => some v | none => k f args h
theorem orXz_ok {P : Program} {g k : XFun} (hg : XOneZ P g) (hk : XOneZ P k) : XOneZ P (orXz g k) := fun f args h v ob e => by
  unfold orXz at e
  split at e
  · rename_i r hr; cases e; exact hg _ _ _ _ _ hr
  · exact hk _ _ _ _ _ e
theorem XOneZ.ok {V : Tv} {P : Program} {X : XFun} (H : XOneZ P X) (h : V.X = X) : XOkZ V P := fun f args hp v ob e ho => by rw [h] at e; exact H f args hp v ob e ho
def liftX (g : FuncId → List Value → Hp → Option Value) : XFun := fun f args h => match g f args h with | some v => some (v, []) | none => none
theorem liftX_ok {P : Program} {g : FuncId → List Value → Hp → Option Value} (H : XOne P g) : XOneZ P (liftX g) := fun f args h v ob e ho => by
  unfold liftX at e
  split at e
  · rename_i r hr; cases e; exact H _ _ _ _ hr
  · cases e
def cmpZ : XFun := liftX (cmpX 45)
theorem cmpZ_ok : XOneZ Try.prog cmpZ := liftX_ok (cmp_one fun args w => run_callFunc_extern Try.func45 (by kernel_rfl) (by kernel_rfl) (by kernel_rfl) (e := Extern.BytealgCompare.compare) (by kernel_rfl) args w)
theorem info_size {P : Program} {t : TypeId} {n : Nat} (h0 : szB P t n = true) : ∃ i, P.info? t = some i ∧ i.size = n := by
  have h1 := szB_of h0
  cases hi : P.info? t with
  | none => rw [hi] at h1; cases h1
  | some i => rw [hi] at h1; exact ⟨i, rfl, Option.some.inj h1⟩
/-- Two rows do not overlap. -/
def ovlX : XFun := fun f args h => bif Nat.beq f 55 then (match args with
  | [.slice (some ⟨a, _, none⟩) _ _, .slice (some ⟨b, _, none⟩) _ _] => match lk h a, lk h b with
    | some ⟨.shut, _⟩, some ⟨.shut, _ :: _⟩ => bif Nat.beq a b then none else some (.bool false, [])
    | _, _ => none
  | _ => none) else none
theorem ovlX_ok : XOneZ Try.prog ovlX := by
  intro f args h v ob e ho W σ w args' hR ha
  unfold ovlX at e
  obtain ⟨hf, e1⟩ := bif_of e
  clear e
  obtain rfl := Nat.eq_of_beq_eq_true hf
  clear hf
  have e := e1
  clear e1
  split at e
  case h_2 => cases e
  rename_i a oa la ca b ob' lb cb
  split at e
  case h_2 => cases e
  rename_i csa cb0 csb hla hlb
  cases hab : Nat.beq a b with
  | true => rw [hab] at e; cases e
  | false =>
    rw [hab] at e
    cases e
    refine ⟨rfl, ?_⟩
    obtain ⟨x1, l1, e1, el1, rfl⟩ := renL_cons ha
    obtain ⟨x2, l2, e2, el2, rfl⟩ := renL_cons el1
    simp only [renL, Option.some.injEq] at el2
    subst el2
    have na := hR.shr.1 a _ hla fun e => by cases e
    have nb := hR.shr.1 b _ hlb fun e => by cases e
    obtain ⟨p, c1, hbp, _, rfl, _⟩ : ∃ p c1, σ.b a = some p ∧ cpR σ ca = some c1 ∧ x1 = .slice (some ⟨p.1, p.2 + oa, none⟩) la c1 ∧ σ.f a ≠ none := by
      rcases renV_slice e1 with h | h
      · exact h
      · exact absurd h.1 na
    obtain ⟨q, c2, hbq, _, rfl, _⟩ : ∃ q c2, σ.b b = some q ∧ cpR σ cb = some c2 ∧ x2 = .slice (some ⟨q.1, q.2 + ob', none⟩) lb c2 ∧ σ.f b ≠ none := by
      rcases renV_slice e2 with h | h
      · exact h
      · exact absurd h.1 nb
    have hne : p.1 ≠ q.1 := fun e => by
      have := hR.inj a b _ _ p q hla hlb (fun e => by cases e) (fun e => by cases e) hbp hbq e
      subst this
      rw [nbeq_rfl] at hab; cases hab
    obtain ⟨ba, sa, va, hba, hva, hs1, hs2, ta, hta⟩ := hR.row _ _ hla
    rw [hbp] at hba
    cases hba
    obtain ⟨bb, sb, vb, hbb, hvb, hs3, hs4, tb, htb⟩ := hR.row _ _ hlb
    rw [hbq] at hbb
    cases hbb
    have hvl := renL_len hvb
    rw [run_callFunc_extern Try.func55 (by kernel_rfl) (by kernel_rfl) (by kernel_rfl) (e := Extern.SlicesOverlaps.overlaps #[22, 22] #[4]) (by kernel_rfl),
      Lib.run_overlaps_apart w 22 4 29 (by kernel_rfl) 3 ?_ ⟨_, _, none⟩ ⟨_, _, none⟩ la c1 lb c2 hne ta tb va.toArray.size vb.toArray.size ?_ ?_ ?_ ?_ ?_]
    · rfl
    · intro w'
      have hz := info_size (P := Try.prog) (t := 29) (n := 3) (by kernel_rfl)
      obtain ⟨i, hi, h3⟩ := hz
      simp [sizeOf, typeInfo, hi, h3]
    · simp [World.shape?, hta]
    · simp [World.shape?, htb]
    · have : vb.length = csb.length + 1 := by simpa using hvl
      simp [this]
    · exact frozen_of_row w _ _ _ ta hta
    · exact frozen_of_row w _ _ _ ta hta
def mtX : XFun := orXz cmpZ ovlX
theorem mtX_ok : XOneZ Try.prog mtX := orXz_ok cmpZ_ok ovlX_ok
end Go.Proofs.Ytojakfnljopjbaa
