/-
  Chapter 12: the statement MemtableParts: the rounds of its loop.
-/
import Derived.Test.YtojakfnljopjbaaTbS
import Derived.Test.YtojakfnljopjbaaInsD
import Derived.Test.YtojakfnljopjbaaMtK
namespace Go.Proofs.Ytojakfnljopjbaa
set_option linter.unusedSimpArgs false
set_option linter.unusedVariables false
set_option linter.unusedSectionVars false
open Go Go.RowKit
theorem kn_gok : GOk Try.prog 4 [] gTrueY :=
  gTrueY_tri (run_val (inX rfl) (T_okV rfl mkTT_one) (noL_okV rfl) mt_known ⟨⟨rfl, rfl, rfl⟩, trivial⟩ rfl)
/-- Insert into a list of pairs. -/
def insT9 : TFun := fun f args h nx tp => bif Nat.beq f 49 then (match args with
  | [.slice (some ⟨m, 0, none⟩) n c, .int .i64 i, .slice (some ⟨v, 0, none⟩) 1 1] => frc h fun h => match lk h m, lk h v with
    | some ⟨.dp 3 z ds, _⟩, some ⟨.shut, xs⟩ => frc xs fun xs => (match elD h xs with
      | some (es, ob) => some (.ok ((.slice (some ⟨nx, 0, none⟩) (n + 1) (capBig + nx), (nx, ⟨.dp 3 zPr (insD ds i.toNat es), []⟩) :: delH (delH h m) v, nx + 1, [m, v]), tp, (c = capBig + m ∧ z = zPr ∧ 0 ≤ i ∧ i ≤ (n : Int) ∧ n ≤ 1000 ∧ ds.length = n * 3 ∧ xs.length = 3 ∧ DVones ds ∧ DVones es) :: ob))
      | none => none)
    | _, _ => none
  | _ => none) else none
theorem insT9_one : TOneZ Try.prog insT9 := by
  intro f args h nx tp out tp' ob e ho
  unfold insT9 at e
  rcases bif_or e with ⟨hf, e1⟩ | ⟨_, e1⟩
  case inr => cases e1
  clear e
  obtain rfl := Nat.eq_of_beq_eq_true hf
  split at e1
  case h_2 => cases e1
  rename_i m n c i v
  rw [frc_eq] at e1
  split at e1
  case h_2 => cases e1
  rename_i z ds cs0 xs hlm hlv
  rw [frc_eq] at e1
  split at e1
  case h_2 => cases e1
  rename_i es ob1 hel
  simp only [Option.some.injEq, Res.ok.injEq, Prod.mk.injEq] at e1
  obtain ⟨rfl, rfl, rfl⟩ := e1
  obtain ⟨⟨rfl, rfl, g1, g2, g3, g4, g5, g6, g7⟩, g8⟩ := ho
  refine ⟨⟨by simp only; omega, fun j hj hd => ?_, fun hb j hj => ?_⟩, fun hB W σ w args' hR hfr ha => ?_⟩
  · simp only at hj hd ⊢
    rw [lk_cons, if_neg (by omega), lk_delH, if_neg (fun e => hd (by simp [e])), lk_delH, if_neg (fun e => hd (by simp [e]))]
  · simp only at hj ⊢
    rw [lk_cons, if_neg (by omega), lk_delH]
    split
    · rfl
    · rw [lk_delH]
      split
      · rfl
      · exact hb j (by omega)
  · have hcs0 : cs0 = [] := by
      obtain ⟨b, s, vs, hb, hv, hk⟩ := hR.row m _ hlm
      obtain ⟨_, _, rfl, _⟩ := hk
      have := renL_len hv
      exact List.eq_nil_of_length_eq_zero this.symm
    subst hcs0
    refine (insD_step hR hfr hlm hlv hel g8 g1 g2 g3 g4 g5 g6 g7 ha).mono ?_
    rintro e w' ⟨σ', v', S, hv, rfl⟩
    exact ⟨σ', v', S, hv, rfl⟩
def ptT0 : TFun := orTz bsT insT9
end Go.Proofs.Ytojakfnljopjbaa
