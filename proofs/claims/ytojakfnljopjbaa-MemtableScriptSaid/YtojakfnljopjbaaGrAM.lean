/-
  The told machine, part Zl: lists that are a row's alone: bytes appended to nothing (mode 56), append of an element (modes 57, 58).
-/
import Derived.Test.YtojakfnljopjbaaGrAL
namespace Go.Proofs.Ytojakfnljopjbaa
set_option linter.unusedSimpArgs false
set_option linter.unusedVariables false
set_option linter.unusedSectionVars false
open Go Go.RowKit

def Sg.vwx (σ : Sg) (n : Nat) (p : Nat × Nat) (c : Nat) (X : List Nat) : Sg := ⟨fun m => if m = n then some p else σ.b m, fun m => if m = n then some c else σ.c m, fun m => if m = n then some ([], X) else σ.f m, fun m => if m = n then none else σ.e m, σ.w⟩
def Dg (h : Hp) : List Nat → Hp
 | [] => h
 | n :: D => delH (Dg h D) n
theorem Ck {h : Hp} {n : Nat} : ∀ {D : List Nat}, lk (Dg h D) n = if n ∈ D then none else lk h n
 | [] => by simp [Dg]
 | m :: D => by
   simp only [Dg]
   rw [Bf, Ck]
   by_cases e : m = n
   ·subst e; rw [if_pos rfl, if_pos (List.mem_cons_self ..)]
   ·rw [if_neg e]
    by_cases e2 : n ∈ D
    ·rw [if_pos e2, if_pos (List.mem_cons_of_mem _ e2)]
    ·rw [if_neg e2, if_neg (by simp only [List.mem_cons, not_or]; exact ⟨Ne.symm e, e2⟩)]
section
variable {P : Program} {W : World} {lo hi : Nat} {σ σ' : Sg} {h h' : Hp} {w w' : World}
theorem Stp.exch (S : Stp W lo hi σ h w σ' h' w') {NX : Nat} (h1 : lo ≤ NX) (h2 : hi ≤ NX) (hf : Fresh σ lo (NX + 1)) {b c : Nat} {r' : Rw} {X D : List Nat} (hkd : ShKd r'.kd)
  (hX : ∀ q, q ∈ X → ∃ m s, lk h' m = some s ∧ m ∈ D ∧ ((s.own ∧ ∃ p, σ'.b m = some p ∧ p.1 = q) ∨ q ∈ ex σ' m)) (hr : RowOk W (σ'.vwx NX (b, 0) c X) w' NX r') :
  Stp W lo (NX + 1) σ h w (σ'.vwx NX (b, 0) c X) ((NX, r') :: Dg h' D) w' := by
 have hN : σ'.b NX = none ∧ σ'.c NX = none := by
  obtain ⟨e1, e2⟩ := S.only NX (.inr h2)
  obtain ⟨e3, e4⟩ := hf NX h1 (by omega)
  exact ⟨e1.trans e3, e2.trans e4⟩
 obtain ⟨τ, hτ⟩ : ∃ τ, σ'.vwx NX (b, 0) c X = τ := ⟨_, rfl⟩
 have hbs : ∀ m, m ≠ NX → τ.b m = σ'.b m ∧ τ.c m = σ'.c m ∧ τ.f m = σ'.f m ∧ τ.e m = σ'.e m ∧ τ.w = σ'.w := fun m hm => by subst hτ; simp only [Sg.vwx]; rw [if_neg hm, if_neg hm, if_neg hm, if_neg hm]; exact ⟨rfl, rfl, rfl, rfl, trivial⟩
 have hexN : ex τ NX = X := by subst hτ; simp [ex, Sg.vwx]
 have hshN : sh τ NX = [] := by subst hτ; simp [sh, Sg.vwx]
 have tw : τ.w = true := by subst hτ; exact S.rl.wf
 rw [hτ] at hr ⊢
 have hle : σ'.le τ := by
  refine ⟨fun m q e => ?_, fun m k e => ?_, fun m q e => ?_⟩
  ·have hm : m ≠ NX := fun e2 => by subst e2; rw [hN.1] at e; cases e
   rw [(hbs m hm).1]; exact e
  ·have hm : m ≠ NX := fun e2 => by subst e2; rw [hN.2] at e; cases e
   rw [(hbs m hm).2.1]; exact e
  ·have hm : m ≠ NX := fun e2 => by subst e2; rw [hN.1] at e; cases e
   exact (hbs m hm).2
 have noO : ¬ r'.own := fun e => e hkd
 have cls : ∀ n s, lk ((NX, r') :: Dg h' D) n = some s → (n = NX ∧ s = r') ∨ (n ≠ NX ∧ n ∉ D ∧ lk h' n = some s) := fun n s e => by
  rw [B3] at e
  split at e
  ·rename_i e1; cases e; exact .inl ⟨e1.symm, rfl⟩
  ·rename_i e1
   rw [Ck] at e
   split at e
   ·cases e
   ·rename_i e2; exact .inr ⟨Ne.symm e1, e2, e⟩
 have own_ : ∀ m s q, lk ((NX, r') :: Dg h' D) m = some s → s.own → τ.b m = some q → m ≠ NX ∧ m ∉ D ∧ lk h' m = some s ∧ σ'.b m = some q := fun m s q hm hs hq => by
  rcases cls m s hm with ⟨rfl, rfl⟩ | ⟨e1, e2, e3⟩
  ·exact absurd hs noO
  ·rw [(hbs m e1).1] at hq; exact ⟨e1, e2, e3, hq⟩
 have sh_ : ∀ n s k, lk ((NX, r') :: Dg h' D) n = some s → k ∈ sh τ n → lk h' n = some s ∧ k ∈ sh σ' n := fun n s k hn hk => by
  rcases cls n s hn with ⟨rfl, rfl⟩ | ⟨e1, e2, e3⟩
  ·rw [hshN] at hk; cases hk
  ·exact ⟨e3, by unfold sh at hk ⊢; rw [(hbs n e1).2.2.1] at hk; exact hk⟩
 have ex_ : ∀ n s k, lk ((NX, r') :: Dg h' D) n = some s → n ≠ NX → k ∈ ex τ n → n ∉ D ∧ lk h' n = some s ∧ k ∈ ex σ' n := fun n s k hn hne hk => by
  rcases cls n s hn with ⟨rfl, rfl⟩ | ⟨e1, e2, e3⟩
  ·exact absurd rfl hne
  ·exact ⟨e2, e3, by unfold ex at hk ⊢; rw [(hbs n e1).2.2.1] at hk; exact hk⟩
 have newX : ∀ k, k ∈ X → k < w'.heap.size ∧ (∀ m s q, lk h' m = some s → s.own → σ'.b m = some q → m ∉ D → q.1 ≠ k) ∧ (∀ m s, lk h' m = some s → k ∉ sh σ' m) ∧ ∀ m s, lk h' m = some s → m ∉ D → k ∉ ex σ' m := fun k hk => by
  obtain ⟨m0, s0, g1, g2, g3⟩ := hX k hk
  rcases g3 with ⟨g3, p, g4, rfl⟩ | g3
  ·refine ⟨S.rl.lt g1 g3 g4, fun m s q hm hs hq hD e => hD ?_, fun m s hm hk2 => (S.rl.shr.2.1 m s _ hm hk2).2 m0 s0 p g1 g3 g4 rfl, fun m s hm hD hk2 => (S.rl.shr.2.2 m s _ hm hk2).2.1 m0 s0 p g1 g3 g4 rfl⟩
   rw [S.rl.inj m m0 s s0 q p hm g1 hs g3 hq g4 e]; exact g2
  ·obtain ⟨x1, x2, x3⟩ := S.rl.shr.2.2 m0 s0 k g1 g3
   refine ⟨x1, fun m s q hm hs hq _ => x2 m s q hm hs hq, fun m s hm => (x3 m s hm).1, fun m s hm hD hk2 => hD ?_⟩
   rw [(x3 m s hm).2 hk2]; exact g2
 refine ⟨S.le.trans hle, fun n hn => ?_, ⟨⟨S.rl.ext, fun n s hn => ?_, fun n m r1 r2 p q hn hm hr1 hs hp hq e => ?_⟩, tw, fun n s hn hs => ?_, fun n s k hn hk => ?_, fun n s k hn hk => ?_⟩, S.size, S.fr, fun n s p hn hs hp => ?_, fun n s k hn hk => ?_, fun n s k hn hk => ?_⟩
 ·have e0 : n ≠ NX := by omega
  obtain ⟨a1, a2⟩ := S.only n (by omega)
  exact ⟨(hbs n e0).1.trans a1, (hbs n e0).2.1.trans a2⟩
 ·rcases cls n s hn with ⟨rfl, rfl⟩ | ⟨e1, e2, e3⟩
  ·exact hr
  ·exact S.rl.keepA e3 hle fun _ _ => rfl
 ·obtain ⟨_, _, a1, a2⟩ := own_ n r1 p hn hr1 hp
  obtain ⟨_, _, b1, b2⟩ := own_ m r2 q hm hs hq
  exact S.rl.inj n m r1 r2 p q a1 b1 hr1 hs a2 b2 e
 ·rcases cls n s hn with ⟨rfl, rfl⟩ | ⟨e1, e2, e3⟩
  ·exact absurd hs noO
  ·rw [(hbs n e1).2.2.1]; exact S.rl.shr.1 n s e3 hs
 ·obtain ⟨a1, a2⟩ := sh_ n s k hn hk
  obtain ⟨g1, g2⟩ := S.rl.shr.2.1 n s k a1 a2
  refine ⟨g1, fun m s q hm hs hq => ?_⟩
  obtain ⟨_, _, b1, b2⟩ := own_ m s q hm hs hq
  exact g2 m s q b1 hs b2
 ·by_cases hne : n = NX
  ·subst hne
   rw [hexN] at hk
   obtain ⟨x1, x2, x3, x4⟩ := newX k hk
   refine ⟨x1, fun m s q hm hs hq => ?_, fun m s hm => ⟨fun hk2 => ?_, fun hk2 => ?_⟩⟩
   ·obtain ⟨_, b0, b1, b2⟩ := own_ m s q hm hs hq
    exact x2 m s q b1 hs b2 b0
   ·obtain ⟨b1, b2⟩ := sh_ m s k hm hk2
    exact x3 m s b1 b2
   ·by_cases hm2 : m = n
    ·exact hm2
    ·obtain ⟨b0, b1, b2⟩ := ex_ m s k hm hm2 hk2
     exact absurd b2 (x4 m s b1 b0)
  ·obtain ⟨a0, a1, a2⟩ := ex_ n s k hn hne hk
   obtain ⟨x1, x2, x3⟩ := S.rl.shr.2.2 n s k a1 a2
   refine ⟨x1, fun m s q hm hs hq => ?_, fun m s' hm => ⟨fun hk2 => ?_, fun hk2 => ?_⟩⟩
   ·obtain ⟨_, _, b1, b2⟩ := own_ m s q hm hs hq
    exact x2 m s q b1 hs b2
   ·obtain ⟨b1, b2⟩ := sh_ m s' k hm hk2
    exact (x3 m s' b1).1 b2
   ·by_cases hm2 : m = NX
    ·subst hm2
     rw [hexN] at hk2
     exact absurd a2 ((newX k hk2).2.2.2 n s a1 a0)
    ·obtain ⟨b0, b1, b2⟩ := ex_ m s' k hm hm2 hk2
     exact (x3 m s' b1).2 b2
 ·obtain ⟨_, _, a1, a2⟩ := own_ n s p hn hs hp
  exact S.src n s p a1 hs a2
 ·obtain ⟨a1, a2⟩ := sh_ n s k hn hk
  exact S.ssrc n s k a1 a2
 ·by_cases hne : n = NX
  ·subst hne
   rw [hexN] at hk
   obtain ⟨m0, s0, g1, g2, g3⟩ := hX k hk
   rcases g3 with ⟨g3, p, g4, rfl⟩ | g3
   ·rcases S.src m0 s0 p g1 g3 g4 with a1 | ⟨m, s, q, a1, a2, a3, a4⟩
    ·exact .inl a1
    ·exact .inr (.inl ⟨m, s, q, a1, a2, a3, a4⟩)
   ·exact S.xsrc m0 s0 k g1 g3
  ·obtain ⟨_, a1, a2⟩ := ex_ n s k hn hne hk
   exact S.xsrc n s k a1 a2
theorem Stp.exw (hR : Rl W σ h w) {n b : Nat} {r : Rw} (hl : lk h n = some r) (hb : b ∈ ex σ n) (hW : W.heap.size ≤ b) {vs : List Value} (j lo : Nat) : Stp W lo lo σ h w σ (setH h n ⟨.old, []⟩) (w.setCells b j vs) := by
 obtain ⟨x1, x2, x3⟩ := hR.shr.2.2 n r b hl hb
 have hoth : ∀ k, k ≠ b → (w.setCells b j vs).heap[k]? = w.heap[k]? := fun k hk => Bu vs w b j k hk
 have hd : ∀ m s, lk (setH h n ⟨.old, []⟩) m = some s → (m = n ∧ s = ⟨.old, []⟩) ∨ (lk h m = some s ∧ m ≠ n) := fun m s e => by
  rw [Bo] at e
  split at e
  ·rename_i hm; cases e; exact .inl ⟨hm.symm, rfl⟩
  ·rename_i hne; exact .inr ⟨e, Ne.symm hne⟩
 have own_ : ∀ m s, lk (setH h n ⟨.old, []⟩) m = some s → s.own → lk h m = some s ∧ m ≠ n := fun m s e ho => by
  rcases hd m s e with ⟨rfl, rfl⟩ | e
  ·exact absurd .old ho
  ·exact e
 refine Stp0.up ⟨Sg.le.refl σ, fun _ _ => ⟨rfl, rfl⟩, ⟨Cl vs hR.ext hW j, fun m s e => ?_, fun m k s t p q a b hs ht c d e => ?_⟩, by rw [Cc]; exact Nat.le_refl _, fun k hk _ hnx => hoth k fun e => hnx n r hl (by rw [e]; exact hb), fun m s q e hs hq => ?_⟩ hR.shr hR.wf fun m s e => ?_
 ·rcases hd m s e with ⟨rfl, rfl⟩ | ⟨e, hne⟩
  ·obtain ⟨b', s', vs', g1, g2, _⟩ := hR.row _ _ hl
   exact ⟨b', s', [], g1, rfl, .inl rfl⟩
  ·refine (hR.row m s e).keep (Sg.le.refl σ) (fun ho p hp => hoth _ fun e2 => x2 m s p e ho hp e2) (fun k hk => hoth _ fun e2 => ?_) fun k hk => hoth _ fun e2 => ?_
   ·subst e2; exact (x3 m s e).1 hk
   ·subst e2; exact hne ((x3 m s e).2 hk)
 ·obtain ⟨a1, _⟩ := own_ m s a hs
  obtain ⟨b1, _⟩ := own_ k t b ht
  exact hR.inj m k s t p q a1 b1 hs ht c d e
 ·obtain ⟨a1, _⟩ := own_ m s e hs
  exact .inr ⟨m, s, q, a1, hs, hq, rfl⟩
 ·rcases hd m s e with ⟨rfl, rfl⟩ | ⟨e, hne⟩
  ·exact ⟨fun ho => absurd .old ho, fun k hk => ⟨m, r, hl, hk⟩, fun k hk => ⟨r, hl, hk⟩⟩
  ·exact ⟨fun ho => hR.shr.1 m s e ho, fun k hk => ⟨m, s, e, hk⟩, fun k hk => ⟨s, e, hk⟩⟩
def U8s (l : List Value) : Prop := ∀ x ∈ l, isU8 x
def frX (P : Program) (ev : Operand → Option Value) (h : Hp) (nx : Nat) : Op → Option (Out × List Prop)
 | .call ⟨.builtin .append, args, ts⟩ => match ts.toList, evL ev args.toList with
  | [t, tx], some [.slice A 0 0, x] => match P.underlying t with
   | some (.slice e) => match P.info? e with
    | some i => match srcZ P h i.size tx x, i.zero with
     | some (n, news, ob), some z => bif Nat.beq z.cells.toList.length i.size && Nat.ble 1 i.size && Iv z.cells.toList [.int .u8 0] && (match A with | none => true | some ⟨m, 0, none⟩ => (match lk h m with | some ⟨.shut, []⟩ => true | _ => false) | _ => false) then
       some ((.slice (some ⟨nx + 1, 0, none⟩) n (B0 + (nx + 1)), (nx + 1, ⟨.ox, news⟩) :: h, nx + 2, []), (n * i.bytes ≤ 140737488355328 ∧ n ≤ 9223372036854775807) :: (news.length = n * i.size) :: (∀ τ, renL τ news = some news) :: (U8s news) :: ob) else none
     | _, _ => none
    | none => none
   | _ => none
  | _, _ => none
 | _ => none
theorem frX_call {ev : Operand → Option Value} {nx : Nat} {op : Op} {x : Out × List Prop} (hs : frX P ev h nx op = some x) : ∃ args ts, op = .call ⟨.builtin .append, args, ts⟩ := by
 unfold frX at hs
 split at hs
 ·exact ⟨_, _, rfl⟩
 ·cases hs
theorem frX_tidy {ev : Operand → Option Value} {nx : Nat} {op : Op} {v : Value} {h' : Hp} {nx' : Nat} {d : List Nat} {ob : List Prop} (hs : frX P ev h nx op = some ((v, h', nx', d), ob)) : Tidy h nx h' nx' d := by
 unfold frX at hs
 split at hs
 case h_2 => cases hs
 split at hs
 case h_2 => cases hs
 split at hs
 case h_2 => cases hs
 split at hs
 case h_2 => cases hs
 split at hs
 case h_2 => cases hs
 obtain ⟨_, hs⟩ := Ba hs
 simp only [oI, pI] at hs
 obtain ⟨⟨rfl, rfl, rfl, rfl⟩, _⟩ := hs
 exact ⟨by omega, fun n hn _ => by rw [B3, if_neg (by omega)], fun hB n hn => by rw [B3, if_neg (by omega)]; exact hB n (by omega)⟩
theorem Stp.nilOx (S : Stp W lo hi σ h w σ' h' w') {NX : Nat} (h1 : lo ≤ NX) (h2 : hi ≤ NX) (hf : Fresh σ lo (NX + 1)) (E : Option Addr) : Stp W lo (NX + 1) σ h w (σ'.vwc NX (0, 0) 0 none E) ((NX, ⟨.ox, []⟩) :: h') w' := by
 have hN : Fresh σ' NX (NX + 1) := fun n a b => by
  obtain ⟨e1, e2⟩ := S.only n (.inr (by omega))
  obtain ⟨e3, e4⟩ := hf n (by omega) b
  exact ⟨e1.trans e3, e2.trans e4⟩
 have T := Stp.viewc S.rl hN (r := ⟨.ox, []⟩) (0, 0) 0 none E (fun k hk => by cases hk) .ox ⟨0, 0, [], by simp [Sg.vwc], rfl, .inl ⟨by simp [Sg.vwc], rfl⟩⟩
 refine ⟨S.le.trans T.le, fun n hn => ?_, T.rl, Nat.le_trans S.size T.size, fun b hb hno hnx => ?_, fun n r p hl ho hp => ?_, fun n r k hl hk => ?_, fun n r k hl hk => ?_⟩
 ·obtain ⟨a1, a2⟩ := T.only n (by omega)
  obtain ⟨b1, b2⟩ := S.only n (by omega)
  exact ⟨a1.trans b1, a2.trans b2⟩
 ·exact S.fr b hb hno hnx
 ·rw [B3] at hl
  split at hl
  ·cases hl; exact absurd .ox ho
  ·rename_i e
   simp only [Sg.vwc] at hp
   rw [if_neg (Ne.symm e)] at hp
   exact S.src n r p hl ho hp
 ·rw [B3] at hl
  split at hl
  ·rename_i e
   subst e
   simp [sh, Sg.vwc] at hk
  ·rename_i e
   refine S.ssrc n r k hl ?_
   unfold sh at hk ⊢
   simp only [Sg.vwc] at hk
   rwa [if_neg (Ne.symm e)] at hk
 ·rw [B3] at hl
  split at hl
  ·rename_i e
   subst e
   rw [L8] at hk
   cases hk
  ·rename_i e
   refine S.xsrc n r k hl ?_
   unfold ex at hk ⊢
   simp only [Sg.vwc] at hk
   rwa [if_neg (Ne.symm e)] at hk
theorem frX_ok {a : Act} (hR : Rl W σ h w) {ev : Operand → Option Value} {nx nx' : Nat} (hf : Fresh σ nx nx') (H : Evs σ ev a) {o : Oper} {v : Value} {h' : Hp} {d : List Nat} {ob : List Prop} (hs : frX P ev h nx o.op = some ((v, h', nx', d), ob)) (ho : Alls ob) :
  ∃ σ' w' v', Stp W nx nx' σ h w σ' h' w' ∧ renV σ' v = some v' ∧ Ends P a o w v' w' := by
 obtain ⟨args, ts, hop⟩ := frX_call hs
 rw [hop] at hs
 simp only [frX] at hs
 split at hs
 case h_2 => cases hs
 rename_i t tx A x hte hev
 split at hs
 case h_2 => cases hs
 rename_i e hu
 split at hs
 case h_2 => cases hs
 rename_i i hi
 split at hs
 case h_2 => cases hs
 rename_i n news ob' z hsrc hz
 obtain ⟨hg, hs⟩ := Ba hs
 simp only [oI, pI] at hs
 obtain ⟨⟨rfl, rfl, rfl, rfl⟩, rfl⟩ := hs
 obtain ⟨⟨k1, k2⟩, k3, k4, k4u, k5⟩ := ho
 simp only [Bool.and_eq_true] at hg
 obtain ⟨⟨⟨g1, g2⟩, gz⟩, g3⟩ := hg
 have gz := Er gz
 have hs1 : i.size = 1 := by
  have := Nat.eq_of_beq_eq_true g1
  rw [gz] at this
  simpa using this.symm
 have hsV := Cw hsrc k5
 obtain ⟨s', l, hs', hl, e1⟩ := B9 (Dq H hev)
 obtain ⟨x', l', hx', hl', rfl⟩ := B9 hl
 simp only [renL, oI] at hl'
 subst hl'
 have hargs : args.map a.eval = #[s', x'] := by apply Array.toList_inj.1; rw [Array.toList_map, e1]
 have hts' : ts = #[t, tx] := by apply Array.toList_inj.1; simpa using hte
 have fin : ∀ {v' w'}, (Builtin.append_ #[t, tx] o.type #[s', x']).run P w = .ok v' w' → Ends P a o w v' w' := fun h3 => by
  refine .inl ?_
  unfold execOp
  simp only [hop, resolve, Sem.run_bind, Sem.run_pure, Result.andThen_ok, invoke, builtin, hargs, hts', h3]
 have grown : ∀ {hh : Hp}, (∀ n r, lk hh n = some r → lk h n = some r) → (∀ n r, lk h n = some r → lk hh n = some r) → appV P h nx t tx (.slice A 0 0) x = some (.slice (some ⟨nx, 0, none⟩) n (B0 + nx), (nx, ⟨.room i.size z.cells.toList, news⟩) :: hh, nx + 1, []) →
   ∃ σ' w' v', Stp W nx (nx + 2) σ h w σ' ((nx + 1, ⟨.ox, news⟩) :: h) w' ∧ renV σ' (.slice (some ⟨nx + 1, 0, none⟩) n (B0 + (nx + 1))) = some v' ∧ Ends P a o w v' w' := by
  intro hh q1 q2 hc
  obtain ⟨σ', w', v', S, h2, h3⟩ := Ky (P := P) (ty := o.type) hR hc (hf.low (by omega)) hs' hx'
  have hl0 : lk ((nx, (⟨.room i.size z.cells.toList, news⟩ : Rw)) :: hh) nx = some ⟨.room i.size z.cells.toList, news⟩ := by rw [B3, if_pos rfl]
  obtain ⟨b, s, vs, hb, hv, hk1, hk2, tt, rest, c, hc1, hc2, hc3, hc4, hc5⟩ := S.rl.row nx _ hl0
  subst hk1
  have hvs : vs = news := by
   have := k4 σ'
   simp only at hv
   rw [this] at hv
   exact (Option.some.inj hv).symm
  subst hvs
  have hcell := fun j v hj => (S.rl.cell hl0).elim fun p hp => by
   obtain ⟨us, a1, a2, a3⟩ := hp
   rw [hb] at a1
   cases a1
   simp only at a2
   rw [k4 σ'] at a2
   cases a2
   exact a3 j v hj
  have hxX : ex (σ'.vwx (nx + 1) (b, 0) c [b]) (nx + 1) = [b] := by simp [ex, Sg.vwx]
  have T := S.exch (NX := nx + 1) (b := b) (c := c) (r' := ⟨.ox, vs⟩) (X := [b]) (D := [nx]) (by omega) (Nat.le_refl _) (hf.low (by omega)) .ox (fun q hq => by
   obtain rfl := List.mem_singleton.1 hq
   exact ⟨nx, _, hl0, List.mem_singleton.2 rfl, .inl ⟨(fun e => by cases e), _, hb, rfl⟩⟩) ⟨b, 0, vs, by simp [Sg.vwx], k4 _, .inr ⟨rfl, hk2, hxX, tt, rest, c, by simp [Sg.vwx], hc2, by rw [hc3, hs1, Nat.mul_one], hc4, fun x hx => by
    rcases List.mem_append.1 hx with hx | hx
    ·exact k4u x hx
    ·have := hc5 x hx
     rw [gz] at this
     obtain rfl := List.mem_singleton.1 this
     exact ⟨0, rfl, by omega, by omega⟩⟩⟩
  simp only [Dg] at T
  refine ⟨_, w', v', T.less fun m r hm => ?_, ?_, fin h3⟩
  ·rw [B3] at hm ⊢
   split
   ·rename_i e; rw [if_pos e] at hm; exact hm
   ·rename_i e
    rw [if_neg e] at hm
    have hne : m ≠ nx := fun e2 => by
     subst e2
     obtain ⟨b', s', vs', hb', _⟩ := hR.row _ _ hm
     rw [(hf m (Nat.le_refl _) (by omega)).1] at hb'
     cases hb'
    rw [Bf, if_neg (Ne.symm hne), B3, if_neg (Ne.symm hne)]
    exact q2 m r hm
  ·have e1 : cpR σ' (B0 + nx) = some c := by unfold cpR; rw [if_neg (by omega), Nat.add_sub_cancel_left]; exact hc1
   have hnc : n ≤ c := by
    rcases B7 h2 with ⟨p, c', hb2, hcp, hse, _⟩ | ⟨h0, _⟩
    ·rw [hse] at h2
     have := Bx S.rl.wf h2
     rw [e1] at hcp
     cases hcp
     exact this
    ·exact (S.rl.shr.1 nx _ hl0 (fun e => by cases e) h0).elim
   rw [B5 (o := 0) hb e1 (S.rl.shr.1 nx _ hl0 fun e => by cases e) (.inr hnc)] at h2
   rw [← h2]
   exact B5 (o := 0) (p := (b, 0)) (by simp [Sg.vwx]) (by unfold cpR; rw [if_neg (by omega), Nat.add_sub_cancel_left]; simp [Sg.vwx]) (by simp [Sg.vwx]) (.inr hnc)
 have empty : ∀ {vv : Value} {hh : Hp} {dd : List Nat}, n = 0 → (∀ m r, lk h m = some r → lk hh m = some r) → appV P h nx t tx (.slice A 0 0) x = some (vv, hh, nx, dd) → (∀ σ' v', σ.le σ' → renV σ' vv = some v' → ∃ E, v' = .slice E 0 0) →
   ∃ σ' w' v', Stp W nx (nx + 2) σ h w σ' ((nx + 1, ⟨.ox, news⟩) :: h) w' ∧ renV σ' (.slice (some ⟨nx + 1, 0, none⟩) n (B0 + (nx + 1))) = some v' ∧ Ends P a o w v' w' := by
  intro vv hh dd hn q1 hc hE
  subst hn
  obtain rfl : news = [] := List.eq_nil_of_length_eq_zero (by rw [k3, Nat.zero_mul])
  obtain ⟨σ', w', v', S, h2, h3⟩ := Ky (P := P) (ty := o.type) hR hc (hf.low (by omega)) hs' hx'
  obtain ⟨E, rfl⟩ := hE σ' v' S.le h2
  have T := S.nilOx (NX := nx + 1) (by omega) (by omega) (hf.low (by omega)) E
  refine ⟨_, w', _, T.less fun m r hm => ?_, Lt σ' (nx + 1) E, fin h3⟩
  rw [B3] at hm ⊢
  split
  ·rename_i e; rw [if_pos e] at hm; exact hm
  ·rename_i e; rw [if_neg e] at hm; exact q1 m r hm
 rcases Nat.eq_zero_or_pos n with hn0 | hn0
 ·have hnews : news = [] := List.eq_nil_of_length_eq_zero (by rw [k3, hn0, Nat.zero_mul])
  cases A with
  | none =>
   refine empty hn0 (fun m r hm => hm) (vv := .slice none 0 0) (dd := []) ?_ fun σ' v' _ hv => ⟨none, by simpa only [renV, oI] using hv.symm⟩
   unfold appV
   simp only [hu, hi, hsV, hz, g1, g2, hn0, Bool.and_self, cond_true, Dc]
  | some ad =>
   obtain ⟨m, off, sp⟩ := ad
   split at g3
   ·rename_i e1; cases e1
   ·rename_i m' e1
    cases e1
    split at g3
    case h_2 => cases g3
    rename_i hlm
    refine empty hn0 (hh := setH h m ⟨.shut, []⟩) (vv := .slice (some ⟨m, 0, none⟩) 0 0) (dd := [m]) (fun k r hk => ?_) ?_ fun σ' v' _ hv => ?_
    ·rw [Bo]
     split
     ·rename_i e; subst e; rw [hlm] at hk; exact hk
     ·exact hk
    ·unfold appV
     simp only [hu, hi, hsV, hz, g1, g2, hn0, hnews, hlm, Bool.and_self, cond_true, Dd (show 0 < B0 by unfold B0; omega), Nat.add_zero, Nat.zero_mul, List.length_nil, I1, Bg]
     rfl
    ·rcases B7 hv with ⟨p, c', _, hcp, rfl, _⟩ | ⟨_, _, _, rfl⟩
     ·rw [E8 (show 0 < B0 by unfold B0; omega) (Nat.le_refl _)] at hcp
      cases hcp
      exact ⟨_, rfl⟩
     ·exact ⟨_, rfl⟩
   ·cases g3
 ·have hnb : Nat.beq n 0 = false := Ca (by omega)
  cases A with
  | none =>
   refine grown (fun k r hk => hk) (fun k r hk => hk) ?_
   unfold appV
   simp only [hu, hi, hsV, hz, g1, g2, hnb, Bool.and_self, cond_true, cond_false, Dc, Nat.ble_eq_true_of_le k1, Nat.ble_eq_true_of_le k2]
  | some ad =>
   obtain ⟨m, off, sp⟩ := ad
   split at g3
   ·rename_i e1; cases e1
   ·rename_i m' e1
    cases e1
    split at g3
    case h_2 => cases g3
    rename_i hlm
    refine grown (hh := h) (fun k r hk => hk) (fun k r hk => hk) ?_
    have hcl : Ej h m 0 0 = some [] := by
     have := Ea (o := 0) (len := 0) hlm (by simp)
     simpa using this
    unfold appV
    simp only [hu, hi, hsV, hz, g1, g2, Bool.and_self, cond_true, cond_false, Dd (show 0 < B0 by unfold B0; omega), Nat.zero_add, Nat.zero_mul, Dp hn0, hcl, List.nil_append, Nat.ble_eq_true_of_le k1, Nat.ble_eq_true_of_le k2]
   ·cases g3
def elX (h : Hp) (d : Nat) : List Value → Option (List DV × List Nat × List Prop)
 | [] => some ([], [], [])
 | v :: vs => match elX h d vs with
  | some (ds, D, ob) => (match v with
   | .slice (some ⟨k, 0, none⟩) n c => (match lk h k with
    | some ⟨.ox, cs⟩ => bif Nat.beq d 1 && Nat.beq c (B0 + k) then some (.sl n none (cs.map DV.fl) :: ds, k :: D, ((∀ τ, renL τ cs = some cs) ∧ (n = 0 → cs = [])) :: ob) else none
    | some ⟨.dx d2 sz z es, _⟩ => bif Nat.beq d (d2 + 1) && Nat.blt 0 d2 && Nat.beq c (B0 + k) && D5 z then some (.sl n none es :: ds, k :: D, ob) else none
    | _ => none)
   | .slice none 0 0 => some (.sl 0 none [] :: ds, D, ob)
   | .slice _ _ _ => none
   | v => bif noAd v then some (.fl v :: ds, D, ob) else none)
  | none => none
theorem Sep.app {R : Value → List Nat → Prop} : ∀ {us vs : List Value} {E F : List Nat}, Sep R us E → Sep R vs F → Sep R (us ++ vs) (E ++ F)
 | [], vs, E, F, h1, h2 => by simp only [Sep] at h1; subst h1; exact h2
 | u :: us, vs, E, F, h1, h2 => by
   obtain ⟨E1, E2, rfl, h3, h4⟩ := h1
   exact ⟨E1, E2 ++ F, by rw [List.append_assoc], h3, h4.app h2⟩
theorem Sep.flat {R : Value → List Nat → Prop} : ∀ {us : List Value}, (∀ u ∈ us, R u []) → Sep R us []
 | [], _ => rfl
 | u :: us, h => ⟨[], [], rfl, h u (List.mem_cons_self ..), Sep.flat fun v hv => h v (List.mem_cons_of_mem _ hv)⟩
def notD (d : Nat) : Kd → Bool
 | .dx d2 _ _ _ => !Nat.beq d d2
 | _ => true
def ndX : List Nat → Bool
 | [] => true
 | x :: l => bif memN x l then false else ndX l
structure ElX (W : World) (h : Hp) (σ : Sg) (w : World) (d : Nat) (D : List Nat) (ds : List DV) (us : List Value) (E : List Nat) : Prop where
 sep : Sep (CX w d) us E
 dr : ∀ V, DRv V w E ds us
 src : ∀ q, q ∈ E → ∃ m s, lk h m = some s ∧ m ∈ D ∧ q ∈ ex σ m
 wd : ∀ q, q ∈ E → W.heap.size ≤ q
 kd : ∀ m, m ∈ D → ∃ s, lk h m = some s ∧ notD d s.kd = true
 nd : ndX D = true → E.Nodup
theorem ElX.flat {d : Nat} (hd : 0 < d) {D : List Nat} {ds : List DV} {us E : List Value} {F : List Nat} {v : Value} {dv : DV} (hf : CX w d v []) (hdr : ∀ V, DR V w F dv v) (H : ElX W h σ w d D ds us F) : ElX W h σ w d D (dv :: ds) (v :: us) F :=
 ⟨⟨[], F, rfl, hf, H.sep⟩, fun V => ⟨v, us, rfl, hdr V, H.dr V⟩, H.src, H.wd, H.kd, H.nd⟩
theorem ElX.slice (hR : Rl W σ h w) {d k : Nat} {s : Rw} (hl : lk h k = some s) (hkd : notD d s.kd = true) {D : List Nat} {ds : List DV} {us : List Value} {F G : List Nat} {v : Value} {dv : DV} (hG : ∀ q, q ∈ G → q ∈ ex σ k) (hGW : ∀ q, q ∈ G → W.heap.size ≤ q) (hGn : G.Nodup) (hf : CX w d v G) (hdr : ∀ V, DR V w G dv v) (H : ElX W h σ w d D ds us F) : ElX W h σ w d (k :: D) (dv :: ds) (v :: us) (G ++ F) := by
 refine ⟨⟨G, F, rfl, hf, H.sep⟩, fun V => ⟨v, us, rfl, (hdr V).more fun q hq => List.mem_append_left _ hq, (H.dr V).more fun q hq => List.mem_append_right _ hq⟩, fun q hq => ?_, fun q hq => (List.mem_append.1 hq).elim (hGW q) (H.wd q), fun m hm => ?_, fun hn => ?_⟩
 ·rcases List.mem_append.1 hq with hq | hq
  ·exact ⟨k, s, hl, List.mem_cons_self .., hG q hq⟩
  ·obtain ⟨m, s', a1, a2, a3⟩ := H.src q hq
   exact ⟨m, s', a1, List.mem_cons_of_mem _ a2, a3⟩
 ·rcases List.mem_cons.1 hm with rfl | hm
  ·exact ⟨s, hl, hkd⟩
  ·exact H.kd m hm
 ·simp only [ndX] at hn
  rcases Be hn with ⟨_, e⟩ | ⟨e1, e2⟩
  ·cases e
  ·refine List.nodup_append.2 ⟨hGn, H.nd e2, fun q h1 q' h2 e => ?_⟩
   subst e
   obtain ⟨m, s', a1, a2, a3⟩ := H.src q h2
   have := ((hR.shr.2.2 k s q hl (hG q h1)).2.2 m s' a1).2 a3
   subst this
   exact En e1 a2
theorem Jc (hR : Rl W σ h w) {d : Nat} (hd : 0 < d) : ∀ {cells : List Value} {ds : List DV} {D : List Nat} {ob : List Prop} {us : List Value}, elX h d cells = some (ds, D, ob) → Alls ob → renL σ cells = some us → ∃ E, ElX W h σ w d D ds us E
 | [], ds, D, ob, us, h1, _, h3 => by
   simp only [elX, oI, pI] at h1
   obtain ⟨rfl, rfl, _⟩ := h1
   simp only [renL, oI] at h3
   subst h3
   exact ⟨[], rfl, fun V => rfl, fun q hq => (by cases hq), fun q hq => (by cases hq), fun m hm => (by cases hm), fun _ => List.nodup_nil⟩
 | v :: vs, ds, D, ob, us, h1, h2, h3 => by
   obtain ⟨u, us', hu, hus, rfl⟩ := B9 h3
   simp only [elX] at h1
   split at h1
   case h_2 => cases h1
   rename_i ds' D' ob' hrec
   obtain ⟨d', rfl⟩ : ∃ d', d = d' + 1 := ⟨d - 1, by omega⟩
   split at h1
   ·rename_i k n c
    split at h1
    ·rename_i cs hl
     obtain ⟨hg, h1⟩ := Ba h1
     simp only [Bool.and_eq_true] at hg
     have e1 := Nat.eq_of_beq_eq_true hg.1
     have e2 := Nat.eq_of_beq_eq_true hg.2
     simp only [oI, pI] at h1
     obtain ⟨rfl, rfl, rfl⟩ := h1
     obtain ⟨⟨hf, hz⟩, ho⟩ := h2
     obtain ⟨F, hF⟩ := Jc hR hd hrec ho hus
     obtain rfl : d' = 0 := by omega
     obtain ⟨b, s, vs', hb, hv, hk⟩ := hR.row k _ hl
     simp only at hv
     rw [hf σ] at hv
     cases hv
     rcases B7 hu with ⟨p, c', hb', hcp, rfl, hnn⟩ | ⟨hn, rfl, _, rfl⟩
     ·rw [hb] at hb'
      cases hb'
      rcases hk with ⟨hk, _⟩ | ⟨rfl, k1, k2, t, rest, c2, k3, k4, k5, k6, k7⟩
      ·exact absurd hk hnn
      rw [e2, Bq, k3] at hcp
      cases hcp
      have hlen := Bx hR.wf hu
      refine ⟨[b] ++ F, hF.slice hR hl rfl (fun q hq => by rw [k2]; exact hq) (fun q hq => by obtain rfl := List.mem_singleton.1 hq; exact k1) (List.nodup_cons.2 ⟨by simp, List.nodup_nil⟩) (.inr (.inr ⟨b, n, c', 1, t, cs ++ rest, [], rfl, hlen, k6, k4, by rw [k5, Nat.mul_one], fun _ => rfl, rfl, Sep.flat fun x hx => ⟨rfl, k7 x hx⟩⟩)) fun V => ?_⟩
      rw [DR]
      refine .inr ⟨b, 0 + 0, c', rfl, ⟨hlen, fun k e => by cases e⟩, .inr (Jd hf (.inr ⟨List.mem_singleton.2 rfl, fun j v hj => ?_⟩))⟩
      rw [cell_of_row w b (0 + 0 + j) _ t _ k4]
      have hj2 : (cs ++ rest)[j]? = some v := by rw [List.getElem?_append_left (List.getElem?_eq_some_iff.1 hj).1]; exact hj
      simpa using hj2
     ·obtain rfl := hz rfl
      refine ⟨[] ++ F, hF.slice hR hl rfl (fun q hq => by cases hq) (fun q hq => by cases hq) List.nodup_nil (.inr (.inl ⟨rfl, _, rfl⟩)) fun V => ?_⟩
      rw [DR]
      exact .inl ⟨rfl, rfl, .inl rfl, _, rfl⟩
    ·rename_i d2 sz z es cs0 hl
     obtain ⟨hg, h1⟩ := Ba h1
     simp only [Bool.and_eq_true] at hg
     have e1 := Nat.eq_of_beq_eq_true hg.1.1.1
     have e0 := Nat.le_of_ble_eq_true hg.1.1.2
     have e2 := Nat.eq_of_beq_eq_true hg.1.2
     simp only [oI, pI] at h1
     obtain ⟨rfl, rfl, rfl⟩ := h1
     obtain ⟨F, hF⟩ := Jc hR hd hrec h2 hus
     obtain rfl : d' = d2 := by omega
     obtain ⟨b, s, vs', hb, hv, rfl, k1, k2, k2n, us0, t, rest, c2, E0, k3, k4, k5, k6, k7, k8, k9, k10⟩ := hR.row k _ hl
     rcases B7 hu with ⟨p, c', hb', hcp, rfl, hnn⟩ | ⟨hn, rfl, _, rfl⟩
     ·rw [hb] at hb'
      cases hb'
      rw [e2, Bq, k3] at hcp
      cases hcp
      have hlen := Bx hR.wf hu
      have hkn : notD (d' + 1) (Kd.dx d' sz z es) = true := by
       simp only [notD, Bool.not_eq_true']
       exact Ca (by omega)
      refine ⟨(b :: E0) ++ F, hF.slice hR hl hkn (fun q hq => by rw [k8]; exact hq) (fun q hq => k2 q (by rw [k8]; exact hq)) (by rw [← k8]; exact k2n) (.inr (.inr ⟨b, n, c2, sz, t, us0 ++ rest, E0, rfl, hlen, k6, k4, k5, fun e => by omega, rfl, ?_⟩)) fun V => ?_⟩
      ·have := k9.app (Sep.flat (R := CX w d') (us := rest) fun x hx => ?_)
       ·rwa [List.append_nil] at this
       ·obtain ⟨d3, rfl⟩ : ∃ d3, d' = d3 + 1 := ⟨d' - 1, by omega⟩
        refine .inl ⟨rfl, fun τ => ?_⟩
        obtain ⟨j, hj⟩ := List.getElem?_of_mem (k7 x hx)
        obtain ⟨x', hx1, hx2⟩ := Hw (Cj τ hg.2) j x hj
        rw [hj] at hx1
        cases hx1
        exact hx2
      ·rw [DR]
       refine .inr ⟨b, 0 + 0, c2, rfl, ⟨hlen, fun k e => by cases e⟩, .inr (drs_cells (List.mem_cons_self ..) ((k10 V).more fun q hq => List.mem_cons_of_mem _ hq) fun j u hj => ?_)⟩
       rw [cell_of_row w b (0 + 0 + j) _ t _ k4]
       have hj2 : (us0 ++ rest)[j]? = some u := by rw [List.getElem?_append_left (List.getElem?_eq_some_iff.1 hj).1]; exact hj
       simpa using hj2
     ·exfalso
      unfold ex at k8
      rw [hn] at k8
      cases k8
    ·cases h1
   ·simp only [oI, pI] at h1
    obtain ⟨rfl, rfl, rfl⟩ := h1
    obtain ⟨F, hF⟩ := Jc hR hd hrec h2 hus
    simp only [renV, oI] at hu
    subst hu
    refine ⟨F, hF.flat (E := []) hd (.inr (.inl ⟨rfl, none, rfl⟩)) fun V => ?_⟩
    rw [DR]
    exact .inl ⟨rfl, rfl, .inl rfl, none, rfl⟩
   ·cases h1
   ·obtain ⟨hna, h1⟩ := Ba h1
    simp only [oI, pI] at h1
    obtain ⟨rfl, rfl, rfl⟩ := h1
    obtain ⟨F, hF⟩ := Jc hR hd hrec h2 hus
    rw [Cs σ hna] at hu
    cases hu
    refine ⟨F, hF.flat (E := []) hd (.inl ⟨rfl, fun τ => Cs τ hna⟩) fun V => ?_⟩
    rw [DR]
    exact ⟨rfl, fun τ => Cs τ hna⟩
theorem ElX.app (hR : Rl W σ h w) {d : Nat} {D1 D2 : List Nat} {ds es : List DV} {us vs : List Value} {E F : List Nat} (sep : Sep (CX w d) us E) (dr : ∀ V, DRv V w E ds us) (src : ∀ q, q ∈ E → ∃ m s, lk h m = some s ∧ m ∈ D1 ∧ q ∈ ex σ m) (nd : E.Nodup) (H : ElX W h σ w d D2 es vs F) (hF : F.Nodup) (hD : ∀ m, m ∈ D1 → m ∉ D2) :
  Sep (CX w d) (us ++ vs) (E ++ F) ∧ (∀ V, DRv V w (E ++ F) (ds ++ es) (us ++ vs)) ∧ (∀ q, q ∈ E ++ F → ∃ m s, lk h m = some s ∧ m ∈ D1 ++ D2 ∧ q ∈ ex σ m) ∧ (E ++ F).Nodup := by
 refine ⟨sep.app H.sep, fun V => ((dr V).more fun q hq => List.mem_append_left _ hq).app2 ((H.dr V).more fun q hq => List.mem_append_right _ hq), fun q hq => ?_, List.nodup_append.2 ⟨nd, hF, fun q h1 q' h2 e => ?_⟩⟩
 ·rcases List.mem_append.1 hq with hq | hq
  ·obtain ⟨m, s, a1, a2, a3⟩ := src q hq
   exact ⟨m, s, a1, List.mem_append_left _ a2, a3⟩
  ·obtain ⟨m, s, a1, a2, a3⟩ := H.src q hq
   exact ⟨m, s, a1, List.mem_append_right _ a2, a3⟩
 ·subst e
  obtain ⟨m, s, a1, a2, a3⟩ := src q h1
  obtain ⟨m', s', b1, b2, b3⟩ := H.src q h2
  have := ((hR.shr.2.2 m s q a1 a3).2.2 m' s' b1).2 b3
  subst this
  exact hD m' a2 b2
theorem Stp.dxNew (hR : Rl W σ h w) {nx : Nat} (hf : Fresh σ nx (nx + 2)) {d : Nat} {D : List Nat} {es : List DV} {vs zs : List Value} {E : List Nat} {t : TypeId} {size c : Nat} {z : List Value} (sep : Sep (CX w d) vs E) (dr : ∀ V, DRv V w E es vs) (src : ∀ q, q ∈ E → ∃ m s, lk h m = some s ∧ m ∈ D ∧ q ∈ ex σ m) (nd : E.Nodup) (wd : ∀ q, q ∈ E → W.heap.size ≤ q)
  (hl : (vs ++ zs).length = c * size) (hc : c ≤ maxLen) (hz : ∀ x ∈ zs, x ∈ z) :
  ∃ τ, Stp W nx (nx + 2) σ h w τ ((nx + 1, ⟨.dx d size z es, []⟩) :: Dg h D) (w.alloc (.cells (vs ++ zs).toArray t)) ∧ τ.b (nx + 1) = some (w.heap.size, 0) ∧ τ.c (nx + 1) = some c ∧ τ.f (nx + 1) ≠ none := by
 have S := Stp.grow hR (hf.low (by omega)) (cs := []) (vs := []) rfl t (size := size) (c := c) (rest := vs ++ zs) (by simpa using hl) hc (z := vs ++ zs) (fun x hx => hx)
 simp only [List.nil_append] at S
 have hl0 : lk ((nx, (⟨.room size (vs ++ zs), []⟩ : Rw)) :: h) nx = some ⟨.room size (vs ++ zs), []⟩ := by rw [B3, if_pos rfl]
 have hne : ∀ m r, lk h m = some r → m ≠ nx := fun m r hm e => by
  subst e
  obtain ⟨b', s', vs', hb', _⟩ := hR.row _ _ hm
  rw [(hf m (Nat.le_refl _) (by omega)).1] at hb'
  cases hb'
 have hS : ∀ q, q ∈ E → q < w.heap.size := fun q hq => by
  obtain ⟨m, s, h1, _, h2⟩ := src q hq
  exact (hR.shr.2.2 m s q h1 h2).1
 have hw : ∀ k, k ∈ E → (w.alloc (.cells (vs ++ zs).toArray t)).heap[k]? = w.heap[k]? := fun k hk => Below.block ((Ext.refl w).alloc _) k (hS k hk)
 have hxX : ex ((σ.bindc nx (w.heap.size, 0) c).vwx (nx + 1) (w.heap.size, 0) c (w.heap.size :: E)) (nx + 1) = w.heap.size :: E := by simp [ex, Sg.vwx]
 have T := S.exch (NX := nx + 1) (c := c) (X := w.heap.size :: E) (D := nx :: D) (r' := ⟨.dx d size z es, []⟩) (b := w.heap.size) (by omega) (by omega) (hf.low (by omega)) (.dx _ _ _ _) (fun q hq => by
  rcases List.mem_cons.1 hq with rfl | hq
  ·exact ⟨nx, _, hl0, List.mem_cons_self .., .inl ⟨(fun e => by cases e), (w.heap.size, 0), by simp [Sg.bindc], rfl⟩⟩
  ·obtain ⟨m, s, h1, h2, h3⟩ := src q hq
   have := hne m s h1
   refine ⟨m, s, by rw [B3, if_neg (Ne.symm this)]; exact h1, List.mem_cons_of_mem _ h2, .inr ?_⟩
   unfold ex at h3 ⊢
   simp only [Sg.bindc]
   rwa [if_neg this]) ⟨w.heap.size, 0, [], by simp [Sg.vwx], rfl, rfl, rfl, fun k hk => (by
    rw [hxX] at hk
    rcases List.mem_cons.1 hk with rfl | hk
    ·exact hR.ext.size
    ·exact wd k hk), (by
    rw [hxX]
    exact List.nodup_cons.2 ⟨fun hk => Nat.lt_irrefl _ (hS _ hk), nd⟩), vs, t, zs, c, E, by simp [Sg.vwx], heap_alloc_new w _, hl, hc, hz, hxX, sep.keep fun u E' hE' hr => CX.keep hr fun k hk => hw k (hE' k hk), fun V => DRv.keep hw _ _ (dr V)⟩
 refine ⟨_, T.less fun m r hm => ?_, by simp [Sg.vwx], by simp [Sg.vwx], by simp [Sg.vwx]⟩
 rw [B3] at hm ⊢
 split
 ·rename_i e; rw [if_pos e] at hm; exact hm
 ·rename_i e
  rw [if_neg e, Ck] at hm
  split at hm
  ·cases hm
  ·rename_i e2
   have := hne m r hm
   rw [Ck, if_neg (by simp only [List.mem_cons, not_or]; exact ⟨this, e2⟩), B3, if_neg (Ne.symm this)]
   exact hm
theorem Stp.dxIn (hR : Rl W σ h w) {nx : Nat} (hf : Fresh σ nx (nx + 2)) {m b c d size : Nat} {ds es : List DV} {D : List Nat} {vs z : List Value} {F : List Nat} (hl : lk h m = some ⟨.dx d size z ds, []⟩) (hb : σ.b m = some (b, 0)) (hc : σ.c m = some c) (H : ElX W h σ w d D es vs F) (hD : ndX D = true) (hle : ds.length + vs.length ≤ c * size) :
  ∃ τ, Stp W nx (nx + 2) σ h w τ ((nx + 1, ⟨.dx d size z (ds ++ es), []⟩) :: Dg h (m :: D)) (w.setCells b ds.length vs) ∧ τ.b (nx + 1) = some (b, 0) ∧ τ.c (nx + 1) = some c ∧ τ.f (nx + 1) ≠ none := by
 obtain ⟨b', s', vs', hb', _, rfl, h2, h3, h3n, us, t, rest, c', E, hc', hcell, hlen, hcm, hz, hxE, hsep, hds⟩ := hR.row m _ hl
 rw [hb] at hb'
 cases hb'
 rw [hc] at hc'
 cases hc'
 have hul := (hds W).len2
 have hbE : b ∈ ex σ m := by rw [hxE]; exact List.mem_cons_self ..
 have hmD : m ∉ D := fun hm => by
  obtain ⟨s, h5, h6⟩ := H.kd m hm
  rw [hl] at h5
  cases h5
  simp [notD] at h6
 rw [hxE] at h3n
 have hEm : ∀ q, q ∈ E → ∃ k s, lk h k = some s ∧ k ∈ [m] ∧ q ∈ ex σ k := fun q hq => ⟨m, _, hl, List.mem_singleton.2 rfl, by rw [hxE]; exact List.mem_cons_of_mem _ hq⟩
 obtain ⟨a1, a2, a3, a4⟩ := ElX.app hR hsep hds hEm (List.nodup_cons.1 h3n).2 H (H.nd hD) fun k hk hk2 => by
  obtain rfl := List.mem_singleton.1 hk
  exact hmD hk2
 have hneb : ∀ q, q ∈ E ++ F → q ≠ b := fun q hq e => by
  subst e
  rcases List.mem_append.1 hq with hq | hq
  ·exact (List.nodup_cons.1 h3n).1 hq
  ·obtain ⟨k, s, b1, b2, b3⟩ := H.src q hq
   have := ((hR.shr.2.2 m _ q hl hbE).2.2 k s b1).2 b3
   subst this
   exact hmD b2
 have hsp : Bg (us ++ rest) us.length vs = us ++ vs ++ rest.drop vs.length := D7 vs us rest (by
  simp only [List.length_append] at hlen
  omega)
 have hblk : (w.setCells b ds.length vs).heap[b]? = some (.cells (us ++ vs ++ rest.drop vs.length).toArray t (0, 0)) := by
  have := Cd vs w b ds.length _ t hcell
  simp only at this
  rw [← hul, hsp] at this
  rw [← hul]
  exact this
 have hoth : ∀ k, k ≠ b → (w.setCells b ds.length vs).heap[k]? = w.heap[k]? := fun k hk => Bu vs w b ds.length k hk
 have hw : ∀ k, k ∈ E ++ F → (w.setCells b ds.length vs).heap[k]? = w.heap[k]? := fun k hk => hoth k (hneb k hk)
 have S := Stp.exw hR hl hbE (h3 b hbE) (vs := vs) ds.length nx
 have hxX : ex (σ.vwx (nx + 1) (b, 0) c (b :: (E ++ F))) (nx + 1) = b :: (E ++ F) := by simp [ex, Sg.vwx]
 have T := S.exch (NX := nx + 1) (c := c) (X := b :: (E ++ F)) (D := m :: D) (r' := ⟨.dx d size z (ds ++ es), []⟩) (b := b) (by omega) (by omega) (hf.low (by omega)) (.dx _ _ _ _) (fun q hq => by
  rcases List.mem_cons.1 hq with rfl | hq
  ·exact ⟨m, _, by rw [Bo, if_pos rfl], List.mem_cons_self .., .inr hbE⟩
  ·obtain ⟨k, s, g1, g2, g3⟩ := a3 q hq
   by_cases e : k = m
   ·subst e; exact ⟨k, _, by rw [Bo, if_pos rfl], List.mem_cons_self .., .inr g3⟩
   ·exact ⟨k, s, by rw [Bo, if_neg (Ne.symm e)]; exact g1, by simpa using g2, .inr g3⟩) ⟨b, 0, [], by simp [Sg.vwx], rfl, rfl, rfl, fun k hk => (by
    rw [hxX] at hk
    rcases List.mem_cons.1 hk with rfl | hk
    ·exact h3 _ hbE
    ·rcases List.mem_append.1 hk with hk | hk
     ·exact h3 k (by rw [hxE]; exact List.mem_cons_of_mem _ hk)
     ·exact H.wd k hk), (by
    rw [hxX]
    exact List.nodup_cons.2 ⟨fun hk => hneb _ hk rfl, a4⟩), us ++ vs, t, rest.drop vs.length, c, E ++ F, by simp [Sg.vwx], hblk, (by
    simp only [List.length_append, List.length_drop] at hlen ⊢
    omega), hcm, (fun x hx => hz x (List.mem_of_mem_drop hx)), hxX, a1.keep fun u E' hE' hr => CX.keep hr fun k hk => hw k (hE' k hk), fun V => DRv.keep hw _ _ (a2 V)⟩
 refine ⟨_, T.less fun k r hm => ?_, by simp [Sg.vwx], by simp [Sg.vwx], by simp [Sg.vwx]⟩
 rw [B3] at hm ⊢
 split
 ·rename_i e; rw [if_pos e] at hm; exact hm
 ·rename_i e
  rw [if_neg e, Ck] at hm
  split at hm
  ·cases hm
  ·rename_i e2
   rw [Ck, if_neg e2, Bo, if_neg (fun e3 => e2 (by rw [e3]; exact List.mem_cons_self ..))]
   exact hm
def daX (P : Program) (d : Nat) (ev : Operand → Option Value) (h : Hp) (nx : Nat) : Op → Option (Out × List Prop)
 | .call ⟨.builtin .append, args, ts⟩ => match ts.toList, evL ev args.toList with
  | [t, tx], some [s, x] => match P.underlying t with
   | some (.slice e) => match P.info? e with
    | some i => match srcZ P h i.size tx x, i.zero with
     | some (n, news, ob2), some z => match elX h d news with
      | some (es, D, ob) => bif Nat.beq n 1 && (Nat.beq z.cells.toList.length i.size && Nat.ble 1 i.size && ndX D) then (match s with
       | .slice none 0 0 => some ((.slice (some ⟨nx + 1, 0, none⟩) 1 (B0 + (nx + 1)), (nx + 1, ⟨.dx d i.size z.cells.toList es, []⟩) :: Dg h D, nx + 2, D), (i.bytes ≤ 140737488355328) :: (ob ++ ob2))
       | .slice (some ⟨m, 0, none⟩) len cap => (match lk h m with
        | some ⟨.dx d2 sz zz ds, _⟩ => bif Nat.beq d2 d && (Nat.beq sz i.size && Iv zz z.cells.toList) then some ((.slice (some ⟨nx + 1, 0, none⟩) (len + 1) (B0 + (nx + 1)), (nx + 1, ⟨.dx d i.size z.cells.toList (ds ++ es), []⟩) :: Dg h (m :: D), nx + 2, m :: D), (cap = B0 + m ∧ ds.length = len * i.size) :: ((len + 1) * i.bytes ≤ 140737488355328 ∧ len + 1 ≤ 9223372036854775807) :: (ob ++ ob2)) else none
        | _ => none)
       | _ => none) else none
      | none => none
     | _, _ => none
    | none => none
   | _ => none
  | _, _ => none
 | _ => none
theorem daX_call {ev : Operand → Option Value} {nx : Nat} {op : Op} {d : Nat} {x : Out × List Prop} (hs : daX P d ev h nx op = some x) : ∃ args ts, op = .call ⟨.builtin .append, args, ts⟩ := by
 unfold daX at hs
 split at hs
 ·exact ⟨_, _, rfl⟩
 ·cases hs
theorem daX_tidy {dd : Nat} {ev : Operand → Option Value} {nx : Nat} {op : Op} {v : Value} {h' : Hp} {nx' : Nat} {d : List Nat} {ob : List Prop} (hs : daX P dd ev h nx op = some ((v, h', nx', d), ob)) : Tidy h nx h' nx' d := by
 have key : ∀ (r : Rw) (D : List Nat), Tidy h nx ((nx + 1, r) :: Dg h D) (nx + 2) D := fun r D => by
  refine ⟨by omega, fun n hn hd => ?_, fun hB n hn => ?_⟩
  ·rw [B3, if_neg (by omega), Ck, if_neg hd]
  ·rw [B3, if_neg (by omega), Ck]
   split
   ·rfl
   ·exact hB n (by omega)
 unfold daX at hs
 split at hs
 case h_2 => cases hs
 split at hs
 case h_2 => cases hs
 split at hs
 case h_2 => cases hs
 split at hs
 case h_2 => cases hs
 split at hs
 case h_2 => cases hs
 split at hs
 case h_2 => cases hs
 obtain ⟨_, hs⟩ := Ba hs
 split at hs
 ·simp only [oI, pI] at hs
  obtain ⟨⟨rfl, rfl, rfl, rfl⟩, _⟩ := hs
  exact key _ _
 ·split at hs
  ·obtain ⟨_, hs⟩ := Ba hs
   simp only [oI, pI] at hs
   obtain ⟨⟨rfl, rfl, rfl, rfl⟩, _⟩ := hs
   exact key _ _
  ·cases hs
 ·cases hs
theorem daX_ok {a : Act} {dd : Nat} (hdd : 0 < dd) (hR : Rl W σ h w) {ev : Operand → Option Value} {nx nx' : Nat} (hf : Fresh σ nx nx') (H : Evs σ ev a) {o : Oper} {v : Value} {h' : Hp} {d : List Nat} {ob : List Prop} (hs : daX P dd ev h nx o.op = some ((v, h', nx', d), ob)) (ho : Alls ob) :
  ∃ σ' w' v', Stp W nx nx' σ h w σ' h' w' ∧ renV σ' v = some v' ∧ Ends P a o w v' w' := by
 obtain ⟨args, ts, hop⟩ := daX_call hs
 rw [hop] at hs
 simp only [daX] at hs
 split at hs
 case h_2 => cases hs
 rename_i t tx s x hte hev
 split at hs
 case h_2 => cases hs
 rename_i e hu
 split at hs
 case h_2 => cases hs
 rename_i i hi
 split at hs
 case h_2 => cases hs
 rename_i n news ob2 z hsrc hz
 split at hs
 case h_2 => cases hs
 rename_i es D ob1 hel
 obtain ⟨hg, hs1⟩ := Ba hs
 clear hs
 simp only [Bool.and_eq_true] at hg
 obtain ⟨g0, ⟨g1, g2⟩, gD⟩ := hg
 obtain rfl := Nat.eq_of_beq_eq_true g0
 have hzs : z.cells.size = i.size := by have := Nat.eq_of_beq_eq_true g1; simpa using this
 obtain ⟨s', l, hs', hl, e1⟩ := B9 (Dq H hev)
 obtain ⟨x', l', hx', hl', rfl⟩ := B9 hl
 simp only [renL, oI] at hl'
 subst hl'
 have hargs : args.map a.eval = #[s', x'] := by apply Array.toList_inj.1; rw [Array.toList_map, e1]
 have hts' : ts = #[t, tx] := by apply Array.toList_inj.1; simpa using hte
 have fin : ∀ {v' w'}, (Builtin.append_ #[t, tx] o.type #[s', x']).run P w = .ok v' w' → Ends P a o w v' w' := fun h3 => by
  refine .inl ?_
  unfold execOp
  simp only [hop, resolve, Sem.run_bind, Sem.run_pure, Result.andThen_ok, invoke, builtin, hargs, hts', h3]
 have ren_ : ∀ {τ : Sg} {b c len : Nat}, τ.b (nx + 1) = some (b, 0) → τ.c (nx + 1) = some c → τ.f (nx + 1) ≠ none → len ≤ c → renV τ (.slice (some ⟨nx + 1, 0, none⟩) len (B0 + (nx + 1))) = some (.slice (some ⟨b, 0, none⟩) len c) := fun {τ b c len} hb hc hn hl =>
  B5 (o := 0) (p := (b, 0)) hb (by unfold cpR; rw [if_neg (by omega), Nat.add_sub_cancel_left]; exact hc) hn (.inr hl)
 have grow_ : ∀ {base : Option Addr} {sLen sCap : Nat} {olds : List Value} {ds : List DV} {E D1 : List Nat}, s' = .slice base sLen sCap → Alls ob1 → Alls ob2 → (Builtin.firstCells i.size sLen (.slice base sLen sCap)).run P w.drew = .ok olds.toArray w.drew → Sep (CX w dd) olds E → (∀ V, DRv V w E ds olds) → (∀ q, q ∈ E → ∃ m s, lk h m = some s ∧ m ∈ D1 ∧ q ∈ ex σ m) → E.Nodup → (∀ q, q ∈ E → W.heap.size ≤ q) → (∀ m, m ∈ D1 → m ∉ D) → olds.length = sLen * i.size → sCap < sLen + 1 → sLen + 1 ≤ 9223372036854775807 → (sLen + 1) * i.bytes ≤ 140737488355328 → Fresh σ nx (nx + 2) →
   ∃ σ' w' v', Stp W nx (nx + 2) σ h w σ' ((nx + 1, ⟨.dx dd i.size z.cells.toList (ds ++ es), []⟩) :: Dg h (D1 ++ D)) w' ∧ renV σ' (.slice (some ⟨nx + 1, 0, none⟩) (sLen + 1) (B0 + (nx + 1))) = some v' ∧ Ends P a o w v' w' := by
  intro base sLen sCap olds ds E D1 hse ho1 ho2 hold hsep hds hsrcE hnd hwd hDD hol hg h63 hb hf
  obtain ⟨vn, hn, hsr⟩ := Dz hR (Cw hsrc ho2) hx'
  obtain ⟨F, H⟩ := Jc hR hdd hel ho1 hn
  obtain ⟨a1, a2, a3, a4⟩ := ElX.app hR hsep hds hsrcE hnd H (H.nd gD) hDD
  have hrun := run_append_grow_src (P := P) (ty := o.type) w t tx e i z hu hi hz base sLen sCap olds hold x' 1 vn hsr hg (by omega) (growslice_fits hg hb)
  have hge := grownCap_ge w (sLen + 1) sCap e
  have hle := grownCap_le_maxLen w (sLen + 1) sCap e (by unfold maxLen; omega)
  have hd := Stp.drew hR nx
  have hlen : (olds ++ vn ++ (Builtin.zeroCells z.cells (grownCap w (sLen + 1) sCap e - (sLen + 1))).toList).length = grownCap w (sLen + 1) sCap e * i.size := by
   rw [List.length_append, List.length_append, hol, hsr.newsLen, Array.length_toList, size_zeroCells, hzs, ← Nat.add_mul, ← Nat.add_mul]
   congr 1
   omega
  obtain ⟨τ, S, t1, t2, t3⟩ := Stp.dxNew hd.rl hf (t := e) (a1.keep fun u E' _ hr => CX.keep (w1 := w.drew) hr fun _ _ => rfl) (fun V => DRv.keep (w := w) (w1 := w.drew) (F := E ++ F) (fun _ _ => rfl) (ds ++ es) (olds ++ vn) (a2 V)) a3 a4 (fun q hq => (List.mem_append.1 hq).elim (hwd q) (H.wd q)) hlen hle (z := z.cells.toList) Ht
  refine ⟨_, _, _, hd.trans S (Nat.le_refl _) (by omega), ren_ t1 t2 t3 (by omega), fin ?_⟩
  rw [hse, hrun]
  congr 2
  apply congrArg (fun q => Obj.cells q e (0, 0))
  apply Array.toList_inj.1
  simp
 split at hs1
 ·simp only [oI, pI] at hs1
  obtain ⟨⟨rfl, rfl, rfl, rfl⟩, rfl⟩ := hs1
  obtain ⟨k1, k23⟩ := ho
  obtain ⟨k2, k3⟩ := Bw.1 k23
  have := grow_ (base := none) (sLen := 0) (sCap := 0) (olds := []) (ds := []) (by simpa only [renV, oI] using hs'.symm) k2 k3 (run_firstCells_none w.drew i.size 0 0 0) (E := []) (D1 := []) rfl (fun V => rfl) (fun q hq => by cases hq) List.nodup_nil (fun q hq => by cases hq) (fun m hm => by cases hm) (by simp) (by omega) (by omega) (by omega) hf
  simpa using this
 ·rename_i m len cap
  split at hs1
  case h_2 => cases hs1
  rename_i d2 sz zz ds cs0 hlm
  obtain ⟨hg3, hs2⟩ := Ba hs1
  clear hs1
  simp only [oI, pI] at hs2
  obtain ⟨⟨rfl, rfl, rfl, rfl⟩, rfl⟩ := hs2
  obtain ⟨⟨rfl, k0⟩, ⟨k1, k2⟩, k34⟩ := ho
  obtain ⟨k3, k4⟩ := Bw.1 k34
  simp only [Bool.and_eq_true] at hg3
  obtain rfl := Nat.eq_of_beq_eq_true hg3.1
  obtain rfl := Nat.eq_of_beq_eq_true hg3.2.1
  have gz := Er hg3.2.2
  subst gz
  have hrow := hR.row m _ hlm
  obtain ⟨b, s0, vs0, hb, hv0, q1, q3, q2, q2n, us, tt, rest, c, E, hcm, hblk, hrl, hcl, hrz, hxE, hsep, hds⟩ := hrow
  subst q1
  subst q3
  have hcs0 : cs0 = [] := by
   have := Bn hv0
   exact List.eq_nil_of_length_eq_zero this.symm
  subst hcs0
  have hul := (hds W).len2
  rcases B7 hs' with ⟨p, c', hb', hcp, hse, hnn⟩ | ⟨hnn, _, _, _⟩
  case inr => exfalso; unfold ex at hxE; rw [hnn] at hxE; cases hxE
  rw [hb] at hb'
  cases hb'
  rw [Bq, hcm] at hcp
  cases hcp
  have hcell : ∀ j, j < (us ++ rest).length → w.cell? ⟨b, j, none⟩ = (us ++ rest)[j]? := fun j hj => by
   rw [cell_of_row w b j _ tt _ hblk]; simp
  have hmD : ∀ (H : ∀ k, k ∈ D → ∃ s, lk h k = some s ∧ notD d2 s.kd = true), m ∉ D := fun H hm => by
   obtain ⟨s, h5, h6⟩ := H m hm
   rw [hlm] at h5
   cases h5
   simp [notD] at h6
  by_cases hroom : len + 1 ≤ c
  ·obtain ⟨vn, hn, hsr⟩ := Dz hR (Cw hsrc k4) hx'
   obtain ⟨F, H⟩ := Jc hR hdd hel k3 hn
   have hvn := hsr.newsLen
   have hfit : ds.length + vn.length ≤ c * i.size := by
    rw [k0, hvn, ← Nat.add_mul]; exact Nat.mul_le_mul_right _ hroom
   have hrun := run_append_room_src (P := P) (ty := o.type) w t tx e i hu hi b (0 + 0) len c x' 1 vn hsr hroom (fun j hj => by
    have hlt2 : len * i.size + j < (us ++ rest).length := by omega
    rw [show 0 + 0 + len * i.size + j = len * i.size + j by omega, hcell _ hlt2, List.getElem?_eq_getElem hlt2]; rfl) (fun j hj => frozen_of_row w b _ _ tt hblk)
   obtain ⟨τ, S, t1, t2, t3⟩ := Stp.dxIn hR hf hlm hb hcm H gD hfit
   refine ⟨_, _, _, S, ren_ t1 t2 t3 (by omega), fin ?_⟩
   rw [hse, hrun, k0]
   simp
  ·have := grow_ (base := some ⟨b, 0 + 0, none⟩) (sLen := len) (sCap := c) (olds := us) (ds := ds) hse k3 k4 (run_firstCells_some (P := P) w.drew i.size len _ len c us (by omega) (fun j u hj => by
     rw [C3]
     show w.cell? ⟨b, 0 + 0 + j, none⟩ = some u
     rw [show 0 + 0 + j = j by omega]
     have hjl := (List.getElem?_eq_some_iff.1 hj).1
     rw [hcell j (by simp; omega), List.getElem?_append_left hjl]
     exact hj)) (E := E) (D1 := [m]) hsep hds (fun q hq => ⟨m, _, hlm, List.mem_singleton.2 rfl, by rw [hxE]; exact List.mem_cons_of_mem _ hq⟩) (by rw [hxE] at q2n; exact (List.nodup_cons.1 q2n).2) (fun q hq => q2 q (by rw [hxE]; exact List.mem_cons_of_mem _ hq)) (fun k hk hk2 => by
     obtain rfl := List.mem_singleton.1 hk
     obtain ⟨vn, hn, _⟩ := Dz hR (Cw hsrc k4) hx'
     obtain ⟨F, H⟩ := Jc hR hdd hel k3 hn
     exact hmD H.kd hk2) (by omega) (by omega) k2 k1 hf
   simpa using this
 ·cases hs1
def odEx (P : Program) (md : Nat) (ev : Operand → Option Value) (h : Hp) (nx : Nat) (op : Op) : Option (Out × List Prop) := bif Nat.beq md 56 then frX P ev h nx op else bif Nat.beq md 57 then daX P 1 ev h nx op else bif Nat.beq md 58 then daX P 2 ev h nx op else odS P md ev h nx op
theorem odEx_tidy {md : Nat} {ev : Operand → Option Value} {nx : Nat} {op : Op} {v : Value} {h' : Hp} {nx' : Nat} {d : List Nat} {ob : List Prop} (hs : odEx P md ev h nx op = some ((v, h', nx', d), ob)) : Tidy h nx h' nx' d := by
 unfold odEx at hs
 rcases Be hs with ⟨_, hs⟩ | ⟨_, hs⟩
 ·exact frX_tidy hs
 rcases Be hs with ⟨_, hs⟩ | ⟨_, hs⟩
 ·exact daX_tidy hs
 rcases Be hs with ⟨_, hs⟩ | ⟨_, hs⟩
 ·exact daX_tidy hs
 ·exact odS_tidy hs
theorem odEx_ok {a : Act} (hR : Rl W σ h w) {md : Nat} {ev : Operand → Option Value} {nx nx' : Nat} (hf : Fresh σ nx nx') (H : Evs σ ev a) {o : Oper} {v : Value} {h' : Hp} {d : List Nat} {ob : List Prop} (hs : odEx P md ev h nx o.op = some ((v, h', nx', d), ob)) (ho : Alls ob) :
  ∃ σ' w' v', Stp W nx nx' σ h w σ' h' w' ∧ renV σ' v = some v' ∧ Ends P a o w v' w' := by
 unfold odEx at hs
 rcases Be hs with ⟨_, hs⟩ | ⟨_, hs⟩
 ·exact frX_ok hR hf H hs ho
 rcases Be hs with ⟨_, hs⟩ | ⟨_, hs⟩
 ·exact daX_ok (by omega) hR hf H hs ho
 rcases Be hs with ⟨_, hs⟩ | ⟨_, hs⟩
 ·exact daX_ok (by omega) hR hf H hs ho
 ·exact odS_ok hR hf H hs ho
end
section
variable {P : Program} {W : World} {σ : Sg} {h : Hp} {w : World}
end
end Go.Proofs.Ytojakfnljopjbaa
