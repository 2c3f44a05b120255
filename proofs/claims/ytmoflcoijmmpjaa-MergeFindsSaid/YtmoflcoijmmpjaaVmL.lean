/-
  The machine that runs in the kernel, part L: one operation or call; regions in the order of the text.
-/
import Derived.Test.YtmoflcoijmmpjaaVmK
import Derived.Test.YtmoflcoijmmpjaaGenq
namespace Go.Proofs.Ytmoflcoijmmpjaa
set_option linter.unusedSimpArgs false
set_option linter.unusedVariables false
set_option linter.unusedSectionVars false
open Go Go.RowKit

structure Env where
  P : Program
  X : FuncId → List Value → Hp → Option Value
  T : FuncId → List Value → Hp → Nat → Option Out
def Tri (P : Program) (f : FuncId) (args : List Value) (h : Hp) (nx : Nat) (out : Out) : Prop :=
  Tidy h nx out.2.1 out.2.2.1 out.2.2.2 ∧ (Bd h nx → ∀ W σ w args', Rl W σ h w → Fresh σ nx out.2.2.1 → renL σ args = some args' →
    Calls P f args'.toArray w fun e w' => ∃ σ' v', Stp W nx out.2.2.1 σ h w σ' out.2.1 w' ∧ renV σ' out.1 = some v' ∧ e = .returned v')
def TriR (P : Program) (n : Nat) (args : List Value) (h : Hp) (nx : Nat) (out : Out) : Prop :=
  Tidy h nx out.2.1 out.2.2.1 out.2.2.2 ∧ (Bd h nx → ∀ W σ w args', Rl W σ h w → Fresh σ nx out.2.2.1 → renL σ args = some args' →
    ∀ p, σ.b n = some p → ∃ fn tmps as bd, (Instr.yield p.1 args'.toArray).run P w = .ok (.round p.1 fn tmps as bd) w ∧
      ∀ (F : Fence) (m : Nat), Wide F → RoundIn F m P p.1 fn tmps as bd w fun e w' => ∃ σ' v', Stp W nx out.2.2.1 σ h w σ' out.2.1 w' ∧ renV σ' out.1 = some v' ∧ e = .returned v')
def yBig : Nat := 1099511627776
def XOk (E : Env) : Prop := ∀ f args h v, E.X f args h = some v → ∀ W σ w args', Rl W σ h w → renL σ args = some args' → renV σ v = some v ∧ (callFunc f args'.toArray).run E.P w = .ok (.value v) w
structure COk (P : Program) (call : FuncId → List Value → Hp → Nat → Option Out) : Prop where
  fn : ∀ f args h nx out, call f args h nx = some out → f < yBig → Tri P f args h nx out
  yl : ∀ n args h nx out, call (yBig + n) args h nx = some out → TriR P n args h nx out
def yieldV (ev : Operand → Option Value) : Op → Option (Nat × List Value)
  | .call ⟨.value x, args, _⟩ => match ev x, evL ev args.toList with
    | some (.func (.yield n) f c), some vs => some (n, f.toList ++ vs)
    | _, _ => none
  | _ => none
def ndV : Op → Bool
  | .defer _ => false
  | _ => true

def calleeV (ev : Operand → Option Value) : Op → Option (FuncId × List Value)
  | .call ⟨.value x, args, _⟩ => match ev x, evL ev args.toList with
    | some (.func (.func g) f c), some vs => some (g, f.toList ++ vs ++ c.toList)
    | _, _ => none
  | _ => none
def stepV (E : Env) (call : FuncId → List Value → Hp → Nat → Option Out) (ev : Operand → Option Value) (h : Hp) (nx : Nat) (op : Op) : Option Out :=
  match calleeV ev op with
  | some (g, vs) => match E.X g vs h with
    | some v => some (v, h, nx, [])
    | none => bif Nat.blt g yBig && entB E.P g then call g vs h nx else none
  | none => match yieldV ev op with
    | some (n, vs) => call (yBig + n) vs h nx
    | none => bif ndV op then opV E.P ev h nx op else none
def Does (P : Program) (o : Oper) (ev : Operand → Option Value) (h : Hp) (nx : Nat) (out : Out) : Prop :=
  Tidy h nx out.2.1 out.2.2.1 out.2.2.2 ∧ (Bd h nx → ∀ W σ w a, Rl W σ h w → Fresh σ nx out.2.2.1 → Evs σ ev a → ∀ (F : Fence) (m : Nat), Wide F → ∀ (K : Act → World → Prop) (Q : Exit → Act → World → Prop),
    (∀ σ' w' v', Stp W nx out.2.2.1 σ h w σ' out.2.1 w' → renV σ' out.1 = some v' → K (a.put o.dst v') w') → o.wpIn F m P a w K Q)
section
variable {E : Env} {call : FuncId → List Value → Hp → Nat → Option Out}
theorem calleeV_ok {P : Program} {σ : Sg} {ev : Operand → Option Value} {a : Act} (H : Evs σ ev a) {o : Oper} {g : FuncId} {vs : List Value} (h : calleeV ev o.op = some (g, vs)) (w : World) :
    ∃ vs', renL σ vs = some vs' ∧ (execOp a.eval o).run P w = (callFunc g vs'.toArray).run P w := by
  obtain ⟨dst, op, type, pos, after, guard⟩ := o
  unfold calleeV at h
  split at h
  · rename_i x args ts ho
    split at h
    · rename_i g' f c us hx hu
      cases h
      simp only at ho
      subst ho
      obtain ⟨fn', f', c', e1, hf, hc, hfn⟩ := renV_func (H x _ hx)
      cases hfn
      have hargs := evL_ok H hu
      refine ⟨f'.toList ++ args.toList.map a.eval ++ c'.toList, renL_app (renL_app hf hargs) hc, ?_⟩
      have e2 : (f'.toList ++ args.toList.map a.eval ++ c'.toList).toArray = (f' ++ args.map a.eval) ++ c' := by
        apply Array.toList_inj.1; simp
      simp only [execOp, resolve, e1, Deferred.ofValue, Sem.run_bind, Sem.run_pure, Result.andThen_ok, invoke, e2]
    · cases h
  · cases h
theorem calleeV_nd {ev : Operand → Option Value} {o : Oper} {r : FuncId × List Value} (h : calleeV ev o.op = some r) : notDefer o = true := by
  unfold calleeV at h
  split at h
  · rename_i ho; unfold notDefer; rw [ho]
  · cases h
theorem yieldV_ok {P : Program} {σ : Sg} {ev : Operand → Option Value} {a : Act} (H : Evs σ ev a) {o : Oper} {n : Nat} {vs : List Value} (h : yieldV ev o.op = some (n, vs)) (w : World) :
    notDefer o = true ∧ ∃ p vs', σ.b n = some p ∧ renL σ vs = some vs' ∧ (execOp a.eval o).run P w = (Instr.yield p.1 vs'.toArray).run P w := by
  obtain ⟨dst, op, type, pos, after, guard⟩ := o
  unfold yieldV at h
  split at h
  · rename_i x args ts ho
    split at h
    · rename_i g' f c us hx hu
      cases h
      simp only at ho
      subst ho
      obtain ⟨fn', f', c', e1, hf, hc, hfn⟩ := renV_func (H x _ hx)
      simp only [fnR] at hfn
      split at hfn
      · rename_i p hp
        cases hfn
        have hargs := evL_ok H hu
        refine ⟨rfl, p, f'.toList ++ args.toList.map a.eval, hp, renL_app hf hargs, ?_⟩
        have e2 : (f'.toList ++ args.toList.map a.eval).toArray = f' ++ args.map a.eval := by
          apply Array.toList_inj.1; simp
        simp only [execOp, resolve, e1, Deferred.ofValue, Sem.run_bind, Sem.run_pure, Result.andThen_ok, invoke, e2]
      · cases hfn
    · cases h
  · cases h
theorem stepV_ok (hX : XOk E) (hC : COk E.P call) {o : Oper} {ev : Operand → Option Value} {h : Hp} {nx : Nat} {out : Out} (hs : stepV E call ev h nx o.op = some out) : Does E.P o ev h nx out := by
  unfold stepV at hs
  split at hs
  · rename_i g vs hc
    split at hs
    · rename_i v hx
      cases hs
      refine ⟨Tidy.refl _ _, fun _ W σ w a hR hf H F m hF K Q hK => opIn hF (calleeV_nd hc) ?_⟩
      obtain ⟨vs', h1, h2⟩ := calleeV_ok (P := E.P) H hc w
      obtain ⟨h3, h4⟩ := hX g vs h v hx W σ w vs' hR h1
      unfold Oper.wp
      rw [h2, h4]
      exact hK σ w v (Stp.refl hR nx) h3
    · obtain ⟨he0, hs⟩ := bif_of hs
      simp only [Bool.and_eq_true] at he0
      obtain ⟨hlt, he⟩ := he0
      obtain ⟨h1, h2⟩ := hC.fn g vs h nx out hs (Nat.le_of_ble_eq_true hlt)
      refine ⟨h1, fun hB W σ w a hR hf H F m hF K Q hK => opIn hF (calleeV_nd hc) ?_⟩
      obtain ⟨vs', h3, h4⟩ := calleeV_ok (P := E.P) H hc w
      unfold Oper.wp
      rw [h4, run_enter he]
      exact (h2 hB W σ w vs' hR hf h3).mono fun e w' ⟨σ', v', a1, a2, a3⟩ => by subst a3; exact hK σ' w' v' a1 a2
  · split at hs
    · rename_i n vs hy
      obtain ⟨h1, h2⟩ := hC.yl n vs h nx out hs
      refine ⟨h1, fun hB W σ w a hR hf H F m hF K Q hK => ?_⟩
      obtain ⟨hd, p, vs', hp, h3, h4⟩ := yieldV_ok (P := E.P) H hy w
      obtain ⟨fn, tmps, as, bd, h5, h6⟩ := h2 hB W σ w vs' hR hf h3 p hp
      refine ⟨fun f _ => by rw [hF.1]; trivial, ?_⟩
      rw [semAt_same hd, h4, h5, Oper.uponIn_round]
      refine ⟨fun h' => (by rw [hF.2.1] at h'; cases h'), (h6 F (m - 1) hF).mono ?_⟩
      rintro e w' ⟨σ', v', a1, a2, rfl⟩
      exact hK σ' w' v' a1 a2
    · obtain ⟨hnd, hs⟩ := bif_of hs
      obtain ⟨v, h', nx', d⟩ := out
      have hd : notDefer o = true := by
        unfold notDefer; unfold ndV at hnd
        split <;> simp_all
      refine ⟨opV_tidy hs, fun _ W σ w a hR hf H F m hF K Q hK => opIn hF hd ?_⟩
      obtain ⟨σ', w', v', h1, h2, h3⟩ := opV_ok hR hf H hs
      exact wp_ends h3 (hK σ' w' v' h1 h2)
end

def putV (ts : Tm) (dst : Option Tmp) (v : Value) : Tm :=
  match dst with
  | some d => tput ts d v
  | none => ts
theorem putV_ok {σ : Sg} {ts : Tm} {a : Act} {dst : Option Tmp} {v v' : Value} (h : RT σ ts a.tmps) (hv : renV σ v = some v') : RT σ (putV ts dst v) (a.put dst v').tmps := by
  cases dst with
  | none => exact h
  | some d => exact h.put d hv
def boolV (o : Option Value) : Option (Option Bool) :=
  match o with
  | some (.bool b) => some (some b)
  | some (.tuple _) => some none
  | some (.int _ _) => some none
  | _ => none
def wantV (ops : Array Oper) (ts : Tm) (o : Oper) : Option Bool :=
  match o.guard with
  | none => some true
  | some (j, want) => match ops[j]? with
    | some oj => match oj.dst with
      | some d => match boolV (tg ts d) with
        | some (some b) => some (b == want)
        | some none => some false
        | none => none
      | none => some false
    | none => some false
def yv : Option Value → Option Bool
  | some (.bool b) => some b
  | _ => none
theorem yv_getD (tmps : Array Value) (d : Nat) : yv tmps[d]? = yv (some (tmps.getD d undef)) := by
  rw [Array.getD_eq_getD_getElem?]
  cases tmps[d]? with
  | none => rfl
  | some x => rfl
theorem boolV_ok {σ : Sg} {o : Option Value} {x : Value} {r : Option Bool} (h : boolV o = some r) (ho : ∀ v, o = some v → renV σ v = some x) : yv (some x) = r := by
  unfold boolV at h
  split at h
  · rename_i b; cases h; have hr := ho _ rfl; simp only [renV, Option.some.injEq] at hr; subst hr; rfl
  · rename_i c; cases h; obtain ⟨c', rfl, _⟩ := renV_tuple (ho _ rfl); rfl
  · rename_i c; cases h; have hr := ho _ rfl; simp only [renV, Option.some.injEq] at hr; subst hr; rfl
  · cases h
theorem wantV_ok {σ : Sg} {ops : Array Oper} {ts : Tm} {o : Oper} {tmps : Array Value} {r : Bool} (h : wantV ops ts o = some r)
    (ht : ∀ j want oj d, o.guard = some (j, want) → ops[j]? = some oj → oj.dst = some d → ∀ v, tg ts d = some v → renV σ v = some (tmps.getD d undef)) : Region.wanted o (yielded ops tmps) = r := by
  unfold wantV at h
  unfold Region.wanted
  split at h
  · rename_i hg; cases h; rw [hg]
  · rename_i j want hg
    rw [hg]
    simp only
    unfold yielded
    split at h
    · rename_i oj hj
      split at h
      · rename_i d hd
        have t1 := ht j want oj d hg hj hd
        split at h
        · rename_i b hb
          cases h
          have := boolV_ok (σ := σ) hb t1
          rw [← yv_getD] at this
          simp only [hj, Option.bind_some, hd]
          change (yv (tmps[d]?) == some want) = _
          rw [this]; cases b <;> cases want <;> rfl
        · rename_i hb
          cases h
          have := boolV_ok (σ := σ) hb t1
          rw [← yv_getD] at this
          simp only [hj, Option.bind_some, hd]
          change (yv (tmps[d]?) == some want) = _
          rw [this]; rfl
        · cases h
      · rename_i hd; cases h; simp [hj, hd]
    · rename_i hj; cases h; simp [hj]
abbrev St4 := Tm × Hp × Nat × List Nat
def seqV (E : Env) (call : FuncId → List Value → Hp → Nat → Option Out) (ops : Array Oper) : List Oper → Tm → Hp → Nat → Option St4
  | [], ts, h, nx => some (ts, h, nx, [])
  | o :: rest, ts, h, nx => match wantV ops ts o with
    | some true => match stepV E call (evA ts) h nx o.op with
      | some (v, h', nx', d) => match seqV E call ops rest (putV ts o.dst v) h' nx' with
        | some (ts2, h2, nx2, d2) => some (ts2, h2, nx2, d2 ++ d)
        | none => none
      | none => none
    | some false => seqV E call ops rest (putV ts o.dst undef) h nx
    | none => none
section
variable {E : Env} {call : FuncId → List Value → Hp → Nat → Option Out}
theorem seqV_ok (hX : XOk E) (hC : COk E.P call) {ops : Array Oper} : ∀ (l : List Oper) (ts : Tm) (h : Hp) (nx : Nat) (ts' : Tm) (h' : Hp) (nx' : Nat) (d : List Nat), seqV E call ops l ts h nx = some (ts', h', nx', d) →
    Tidy h nx h' nx' d ∧ (Bd h nx → ∀ W σ w a, Rl W σ h w → Fresh σ nx nx' → RT σ ts a.tmps → ∀ ds, a.defers = ds → ∀ (F : Fence) (m : Nat), Wide F → ∀ Q : Exit → Act → World → Prop,
      (∀ σ' w' a', Stp W nx nx' σ h w σ' h' w' → RT σ' ts' a'.tmps → a'.defers = ds → Q .normal a' w') → wpListIn F m E.P ops Q l a w)
  | [], ts, h, nx, ts', h', nx', d, hs => by
      simp only [seqV, Option.some.injEq, Prod.mk.injEq] at hs
      obtain ⟨rfl, rfl, rfl, rfl⟩ := hs
      exact ⟨Tidy.refl _ _, fun _ W σ w a hR hf ht ds hd F m hF Q hQ => hQ σ w a (Stp.refl hR nx) ht hd⟩
  | o :: rest, ts, h, nx, ts', h', nx', d, hs => by
      simp only [seqV] at hs
      split at hs
      · rename_i hw
        split at hs
        · rename_i v h1 nx1 d1 hst
          split at hs
          · rename_i ts2 h2 nx2 d2 hr
            simp only [Option.some.injEq, Prod.mk.injEq] at hs
            obtain ⟨rfl, rfl, rfl, rfl⟩ := hs
            obtain ⟨t1, s1⟩ := stepV_ok hX hC hst
            obtain ⟨t2, s2⟩ := seqV_ok hX hC rest _ _ _ _ _ _ _ hr
            refine ⟨t1.trans t2, fun hB W σ w a hR hf ht ds hd F m hF Q hQ => ?_⟩
            have hwant := wantV_ok (σ := σ) (tmps := a.tmps) hw (fun j want oj dd _ _ _ => ht.s dd)
            unfold wpListIn
            rw [if_pos hwant]
            refine s1 hB W σ w a hR (hf.low t2.1) (evs_of ht) F m hF _ _ fun σ1 w1 v' a1 a2 => ?_
            refine s2 (t1.2.2 hB) W σ1 w1 _ a1.rl (hf.next a1 t1.1) (putV_ok (ht.le a1.le) a2) ds (by cases o.dst <;> exact hd) F m hF Q fun σ2 w2 a2 b1 b2 b3 => ?_
            exact hQ σ2 w2 a2 (a1.trans b1 t1.1 t2.1) b2 b3
          · cases hs
        · cases hs
      · rename_i hw
        obtain ⟨t2, s2⟩ := seqV_ok hX hC rest _ _ _ _ _ _ _ hs
        refine ⟨t2, fun hB W σ w a hR hf ht ds hd F m hF Q hQ => ?_⟩
        have hwant := wantV_ok (σ := σ) (tmps := a.tmps) hw (fun j want oj dd _ _ _ => ht.s dd)
        unfold wpListIn
        rw [if_neg (by rw [hwant]; exact Bool.false_ne_true)]
        exact ⟨fun f _ => by rw [hF.1]; trivial, s2 hB W σ w _ hR hf (putV_ok ht rfl) ds (by cases o.dst <;> exact hd) F m hF Q hQ⟩
      · cases hs
end
end Go.Proofs.Ytmoflcoijmmpjaa
