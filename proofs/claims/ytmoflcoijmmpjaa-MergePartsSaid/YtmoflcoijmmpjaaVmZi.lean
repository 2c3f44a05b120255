/-
  The told machine, part Zi: append of nothing to a row of slices (mode 49).
-/
import Derived.Test.YtmoflcoijmmpjaaVmZh
namespace Go.Proofs.Ytmoflcoijmmpjaa
set_option linter.unusedSimpArgs false
set_option linter.unusedVariables false
set_option linter.unusedSectionVars false
open Go Go.RowKit

section
variable {P : Program} {W : World} {lo hi : Nat} {σ σ' : Sg} {h h' : Hp} {w w' : World}
def daN (P : Program) (ev : Operand → Option Value) (h : Hp) (nx : Nat) : Op → Option (Out × List Prop)
  | .call ⟨.builtin .append, args, ts⟩ => match ts.toList, evL ev args.toList with
    | [t, tx], some [.slice (some ⟨m, 0, none⟩) len cap, .slice none 0 0] => match P.underlying t, P.underlying tx, lk h m with
      | some (.slice e), some (.slice e2), some ⟨.dp sz zz ds, _⟩ => match P.info? e with
        | some i => bif Nat.beq sz i.size && Nat.ble 1 i.size then some ((.slice (some ⟨m, 0, none⟩) len cap, h, nx, []), [cap = capBig + m ∧ ds.length = len * i.size]) else none
        | none => none
      | _, _, _ => none
    | _, _ => none
  | _ => none
theorem daN_call {ev : Operand → Option Value} {nx : Nat} {op : Op} {x : Out × List Prop} (hs : daN P ev h nx op = some x) : ∃ args ts, op = .call ⟨.builtin .append, args, ts⟩ := by
  unfold daN at hs
  split at hs
  · exact ⟨_, _, rfl⟩
  · cases hs
theorem daN_tidy {ev : Operand → Option Value} {nx : Nat} {op : Op} {v : Value} {h' : Hp} {nx' : Nat} {d : List Nat} {ob : List Prop} (hs : daN P ev h nx op = some ((v, h', nx', d), ob)) : Tidy h nx h' nx' d := by
  unfold daN at hs
  split at hs
  case h_2 => cases hs
  split at hs
  case h_2 => cases hs
  split at hs
  case h_2 => cases hs
  split at hs
  case h_2 => cases hs
  obtain ⟨_, hs⟩ := bif_of hs
  simp only [Option.some.injEq, Prod.mk.injEq] at hs
  obtain ⟨⟨rfl, rfl, rfl, rfl⟩, _⟩ := hs
  exact ⟨Nat.le_refl _, fun n hn _ => rfl, fun hB n hn => hB n hn⟩
theorem daN_ok {a : Act} (hR : Rl W σ h w) {ev : Operand → Option Value} {nx nx' : Nat} (hf : Fresh σ nx nx') (H : Evs σ ev a) {o : Oper} {v : Value} {h' : Hp} {d : List Nat} {ob : List Prop} (hs : daN P ev h nx o.op = some ((v, h', nx', d), ob)) (ho : Alls ob) :
    ∃ σ' w' v', Stp W nx nx' σ h w σ' h' w' ∧ renV σ' v = some v' ∧ Ends P a o w v' w' := by
  obtain ⟨args, ts, hop⟩ := daN_call hs
  rw [hop] at hs
  simp only [daN] at hs
  split at hs
  case h_2 => cases hs
  rename_i t tx m len cap hte hev
  split at hs
  case h_2 => cases hs
  rename_i e e2 sz zz ds cs0 hu hu2 hlm
  split at hs
  case h_2 => cases hs
  rename_i i hi
  obtain ⟨hg, hs⟩ := bif_of hs
  simp only [Option.some.injEq, Prod.mk.injEq] at hs
  obtain ⟨⟨rfl, rfl, rfl, rfl⟩, rfl⟩ := hs
  obtain ⟨⟨rfl, k0⟩, _⟩ := ho
  simp only [Bool.and_eq_true] at hg
  obtain ⟨g1, g2⟩ := hg
  obtain rfl := Nat.eq_of_beq_eq_true g1
  have hpos : 0 < i.size := Nat.le_of_ble_eq_true g2
  obtain ⟨s', l, hs', hl, e1⟩ := renL_cons (evL_ok H hev)
  obtain ⟨x', l', hx', hl', rfl⟩ := renL_cons hl
  simp only [renL, Option.some.injEq] at hl'
  subst hl'
  simp only [renV, Option.some.injEq] at hx'
  subst hx'
  have hargs : args.map a.eval = #[s', .slice none 0 0] := by apply Array.toList_inj.1; rw [Array.toList_map, e1]
  have hts' : ts = #[t, tx] := by apply Array.toList_inj.1; simpa using hte
  obtain ⟨b, s0, vs0, hb, hv0, q1, q2, q3, us, tt, rest, c, hcm, hblk, hrl, hcl, hrz, hds⟩ := hR.row m _ hlm
  subst q1
  have hul := hds.len2
  rcases renV_slice hs' with ⟨p, c', hb', hcp, rfl, hnn⟩ | ⟨hnn, _, _, _⟩
  case inr => exact (hR.shr.1 m _ hlm (fun e => by cases e) hnn).elim
  rw [hb] at hb'
  cases hb'
  rw [cpR_big, hcm] at hcp
  cases hcp
  have hlc : len ≤ c := by
    rw [List.length_append, hul, k0] at hrl
    exact Nat.le_of_mul_le_mul_right (by omega) hpos
  have hrun := run_append_room_src (P := P) (ty := o.type) w t tx e i hu hi b (0 + 0) len c (.slice none 0 0) 0 [] (Src.ofNil w hu2 0) (by omega) (fun j hj => by simp at hj) (fun j hj => by simp at hj)
  refine ⟨σ, w, _, Stp.refl hR nx, hs', .inl ?_⟩
  unfold execOp
  simp only [hop, resolve, Sem.run_bind, Sem.run_pure, Result.andThen_ok, invoke, builtin, hargs, hts', hrun]
  simp [World.setCells]
def odS (P : Program) (md : Nat) (ev : Operand → Option Value) (h : Hp) (nx : Nat) (op : Op) : Option (Out × List Prop) := bif Nat.beq md 49 then daN P ev h nx op else odU P md ev h nx op
theorem odS_tidy {md : Nat} {ev : Operand → Option Value} {nx : Nat} {op : Op} {v : Value} {h' : Hp} {nx' : Nat} {d : List Nat} {ob : List Prop} (hs : odS P md ev h nx op = some ((v, h', nx', d), ob)) : Tidy h nx h' nx' d := by
  unfold odS at hs
  rcases bif_or hs with ⟨_, hs⟩ | ⟨_, hs⟩
  · exact daN_tidy hs
  · exact odU_tidy hs
theorem odS_ok {a : Act} (hR : Rl W σ h w) {md : Nat} {ev : Operand → Option Value} {nx nx' : Nat} (hf : Fresh σ nx nx') (H : Evs σ ev a) {o : Oper} {v : Value} {h' : Hp} {d : List Nat} {ob : List Prop} (hs : odS P md ev h nx o.op = some ((v, h', nx', d), ob)) (ho : Alls ob) :
    ∃ σ' w' v', Stp W nx nx' σ h w σ' h' w' ∧ renV σ' v = some v' ∧ Ends P a o w v' w' := by
  unfold odS at hs
  rcases bif_or hs with ⟨_, hs⟩ | ⟨_, hs⟩
  · exact daN_ok hR hf H hs ho
  · exact odU_ok hR hf H hs ho
end
end Go.Proofs.Ytmoflcoijmmpjaa
