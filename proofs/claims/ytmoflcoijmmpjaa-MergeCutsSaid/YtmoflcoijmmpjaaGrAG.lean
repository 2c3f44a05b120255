/-
  The machine that runs in the kernel, part L: one operation or call; regions in the order of the text.
-/
import Derived.Test.YtmoflcoijmmpjaaGrAF
import Derived.Test.YtmoflcoijmmpjaaGrAE
import Derived.Orders
namespace Go.Proofs.Ytmoflcoijmmpjaa
set_option linter.unusedSimpArgs false
set_option linter.unusedVariables false
set_option linter.unusedSectionVars false
open Go Go.RowKit

structure Env where
 P : Program
 X : FuncId → List Value → Hp → Option Value
 T : FuncId → List Value → Hp → Nat → Option Out
def Tri (P : Program) (f : FuncId) (args : List Value) (h : Hp) (nx : Nat) (out : Out) : Prop :=
 Tidy h nx out.2.1 out.2.2.1 out.2.2.2 ∧ (Bd h nx → ∀ W σ w args', Rl W σ h w → Fresh σ nx out.2.2.1 → renL σ args = some args' →
  Calls P f args'.toArray w fun e w' => ∃ σ' v', Stp W nx out.2.2.1 σ h w σ' out.2.1 w' ∧ renV σ' out.1 = some v' ∧ e = .returned v')
def TriR (P : Program) (n : Nat) (args : List Value) (h : Hp) (nx : Nat) (out : Out) : Prop :=
 Tidy h nx out.2.1 out.2.2.1 out.2.2.2 ∧ (Bd h nx → ∀ W σ w args', Rl W σ h w → Fresh σ nx out.2.2.1 → renL σ args = some args' →
  ∀ p, σ.b n = some p → ∃ fn tmps as bd, (Instr.yield p.1 args'.toArray).run P w = .ok (.round p.1 fn tmps as bd) w ∧
   ∀ (F : Fence) (m : Nat), Wide F → RoundIn F m P p.1 fn tmps as bd w fun e w' => ∃ σ' v', Stp W nx out.2.2.1 σ h w σ' out.2.1 w' ∧ renV σ' out.1 = some v' ∧ e = .returned v')
def yBig : Nat := 1099511627776
def XOk (E : Env) : Prop := ∀ f args h v, E.X f args h = some v → ∀ W σ w args', Rl W σ h w → renL σ args = some args' → renV σ v = some v ∧ (callFunc f args'.toArray).run E.P w = .ok (.value v) w
structure COk (P : Program) (call : FuncId → List Value → Hp → Nat → Option Out) : Prop where
 fn : ∀ f args h nx out, call f args h nx = some out → f < yBig → Tri P f args h nx out
 yl : ∀ n args h nx out, call (yBig + n) args h nx = some out → TriR P n args h nx out
def yieldV (ev : Operand → Option Value) : Op → Option (Nat × List Value)
 | .call ⟨.value x, args, _⟩ => match ev x, evL ev args.toList with
  | some (.func (.yield n) f c), some vs => some (n, f.toList ++ vs)
  | _, _ => none
 | _ => none
def ndV : Op → Bool
 | .defer _ => false
 | _ => true

def calleeV (ev : Operand → Option Value) : Op → Option (FuncId × List Value)
 | .call ⟨.value x, args, _⟩ => match ev x, evL ev args.toList with
  | some (.func (.func g) f c), some vs => some (g, f.toList ++ vs ++ c.toList)
  | _, _ => none
 | _ => none
def stepV (E : Env) (call : FuncId → List Value → Hp → Nat → Option Out) (ev : Operand → Option Value) (h : Hp) (nx : Nat) (op : Op) : Option Out :=
 match calleeV ev op with
 | some (g, vs) => match E.X g vs h with
  | some v => some (v, h, nx, [])
  | none => bif Nat.blt g yBig && entB E.P g then call g vs h nx else none
 | none => match yieldV ev op with
  | some (n, vs) => call (yBig + n) vs h nx
  | none => bif ndV op then opV E.P ev h nx op else none
def Does (P : Program) (o : Oper) (ev : Operand → Option Value) (h : Hp) (nx : Nat) (out : Out) : Prop :=
 Tidy h nx out.2.1 out.2.2.1 out.2.2.2 ∧ (Bd h nx → ∀ W σ w a, Rl W σ h w → Fresh σ nx out.2.2.1 → Evs σ ev a → ∀ (F : Fence) (m : Nat), Wide F → ∀ (K : Act → World → Prop) (Q : Exit → Act → World → Prop),
  (∀ σ' w' v', Stp W nx out.2.2.1 σ h w σ' out.2.1 w' → renV σ' out.1 = some v' → K (a.put o.dst v') w') → o.wpIn F m P a w K Q)
section
variable {E : Env} {call : FuncId → List Value → Hp → Nat → Option Out}
theorem calleeV_ok {P : Program} {σ : Sg} {ev : Operand → Option Value} {a : Act} (H : Evs σ ev a) {o : Oper} {g : FuncId} {vs : List Value} (h : calleeV ev o.op = some (g, vs)) (w : World) :
  ∃ vs', renL σ vs = some vs' ∧ (execOp a.eval o).run P w = (callFunc g vs'.toArray).run P w := by
 obtain ⟨dst, op, type, pos, after, guard⟩ := o
 unfold calleeV at h
 split at h
 ·rename_i x args ts ho
  split at h
  ·rename_i g' f c us hx hu
   cases h
   simp only at ho
   subst ho
   obtain ⟨fn', f', c', e1, hf, hc, hfn⟩ := renV_func (H x _ hx)
   cases hfn
   have hargs := evL_ok H hu
   refine ⟨f'.toList ++ args.toList.map a.eval ++ c'.toList, renL_app (renL_app hf hargs) hc, ?_⟩
   have e2 : (f'.toList ++ args.toList.map a.eval ++ c'.toList).toArray = (f' ++ args.map a.eval) ++ c' := by
    apply Array.toList_inj.1; simp
   simp only [execOp, resolve, e1, Deferred.ofValue, Sem.run_bind, Sem.run_pure, Result.andThen_ok, invoke, e2]
  ·cases h
 ·cases h
theorem calleeV_nd {ev : Operand → Option Value} {o : Oper} {r : FuncId × List Value} (h : calleeV ev o.op = some r) : notDefer o = true := by
 unfold calleeV at h
 split at h
 ·rename_i ho; unfold notDefer; rw [ho]
 ·cases h
theorem yieldV_ok {P : Program} {σ : Sg} {ev : Operand → Option Value} {a : Act} (H : Evs σ ev a) {o : Oper} {n : Nat} {vs : List Value} (h : yieldV ev o.op = some (n, vs)) (w : World) :
  notDefer o = true ∧ ∃ p vs', σ.b n = some p ∧ renL σ vs = some vs' ∧ (execOp a.eval o).run P w = (Instr.yield p.1 vs'.toArray).run P w := by
 obtain ⟨dst, op, type, pos, after, guard⟩ := o
 unfold yieldV at h
 split at h
 ·rename_i x args ts ho
  split at h
  ·rename_i g' f c us hx hu
   cases h
   simp only at ho
   subst ho
   obtain ⟨fn', f', c', e1, hf, hc, hfn⟩ := renV_func (H x _ hx)
   simp only [fnR] at hfn
   split at hfn
   ·rename_i p hp
    cases hfn
    have hargs := evL_ok H hu
    refine ⟨rfl, p, f'.toList ++ args.toList.map a.eval, hp, renL_app hf hargs, ?_⟩
    have e2 : (f'.toList ++ args.toList.map a.eval).toArray = f' ++ args.map a.eval := by
     apply Array.toList_inj.1; simp
    simp only [execOp, resolve, e1, Deferred.ofValue, Sem.run_bind, Sem.run_pure, Result.andThen_ok, invoke, e2]
   ·cases hfn
  ·cases h
 ·cases h
theorem stepV_ok (hX : XOk E) (hC : COk E.P call) {o : Oper} {ev : Operand → Option Value} {h : Hp} {nx : Nat} {out : Out} (hs : stepV E call ev h nx o.op = some out) : Does E.P o ev h nx out := by
 unfold stepV at hs
 split at hs
 ·rename_i g vs hc
  split at hs
  ·rename_i v hx
   cases hs
   refine ⟨Tidy.refl _ _, fun _ W σ w a hR hf H F m hF K Q hK => opIn hF (calleeV_nd hc) ?_⟩
   obtain ⟨vs', h1, h2⟩ := calleeV_ok (P := E.P) H hc w
   obtain ⟨h3, h4⟩ := hX g vs h v hx W σ w vs' hR h1
   unfold Oper.wp
   rw [h2, h4]
   exact hK σ w v (Stp.refl hR nx) h3
  ·obtain ⟨he0, hs⟩ := bif_of hs
   simp only [Bool.and_eq_true] at he0
   obtain ⟨hlt, he⟩ := he0
   obtain ⟨h1, h2⟩ := hC.fn g vs h nx out hs (Nat.le_of_ble_eq_true hlt)
   refine ⟨h1, fun hB W σ w a hR hf H F m hF K Q hK => opIn hF (calleeV_nd hc) ?_⟩
   obtain ⟨vs', h3, h4⟩ := calleeV_ok (P := E.P) H hc w
   unfold Oper.wp
   rw [h4, run_enter he]
   exact (h2 hB W σ w vs' hR hf h3).mono fun e w' ⟨σ', v', a1, a2, a3⟩ => by subst a3; exact hK σ' w' v' a1 a2
 ·split at hs
  ·rename_i n vs hy
   obtain ⟨h1, h2⟩ := hC.yl n vs h nx out hs
   refine ⟨h1, fun hB W σ w a hR hf H F m hF K Q hK => ?_⟩
   obtain ⟨hd, p, vs', hp, h3, h4⟩ := yieldV_ok (P := E.P) H hy w
   obtain ⟨fn, tmps, as, bd, h5, h6⟩ := h2 hB W σ w vs' hR hf h3 p hp
   refine ⟨fun f _ => by rw [hF.1]; trivial, ?_⟩
   rw [semAt_same hd, h4, h5, Oper.uponIn_round]
   refine ⟨fun h' => (by rw [hF.2.1] at h'; cases h'), (h6 F (m - 1) hF).mono ?_⟩
   rintro e w' ⟨σ', v', a1, a2, rfl⟩
   exact hK σ' w' v' a1 a2
  ·obtain ⟨hnd, hs⟩ := bif_of hs
   obtain ⟨v, h', nx', d⟩ := out
   have hd : notDefer o = true := by
    unfold notDefer; unfold ndV at hnd
    split <;> simp_all
   refine ⟨opV_tidy hs, fun _ W σ w a hR hf H F m hF K Q hK => opIn hF hd ?_⟩
   obtain ⟨σ', w', v', h1, h2, h3⟩ := opV_ok hR hf H hs
   exact wp_ends h3 (hK σ' w' v' h1 h2)
end

def putV (ts : Tm) (dst : Option Tmp) (v : Value) : Tm :=
 match dst with
 | some d => tput ts d v
 | none => ts
theorem putV_ok {σ : Sg} {ts : Tm} {a : Act} {dst : Option Tmp} {v v' : Value} (h : RT σ ts a.tmps) (hv : renV σ v = some v') : RT σ (putV ts dst v) (a.put dst v').tmps := by
 cases dst with
 | none => exact h
 | some d => exact h.put d hv
def boolV (o : Option Value) : Option (Option Bool) :=
 match o with
 | some (.bool b) => some (some b)
 | some (.tuple _) => some none
 | some (.int _ _) => some none
 | _ => none
def wantV (ops : Array Oper) (ts : Tm) (o : Oper) : Option Bool :=
 match o.guard with
 | none => some true
 | some (j, want) => match ops[j]? with
  | some oj => match oj.dst with
   | some d => match boolV (tg ts d) with
    | some (some b) => some (b == want)
    | some none => some false
    | none => none
   | none => some false
  | none => some false
def yv : Option Value → Option Bool
 | some (.bool b) => some b
 | _ => none
theorem yv_getD (tmps : Array Value) (d : Nat) : yv tmps[d]? = yv (some (tmps.getD d undef)) := by
 rw [Array.getD_eq_getD_getElem?]
 cases tmps[d]? with
 | none => rfl
 | some x => rfl
theorem boolV_ok {σ : Sg} {o : Option Value} {x : Value} {r : Option Bool} (h : boolV o = some r) (ho : ∀ v, o = some v → renV σ v = some x) : yv (some x) = r := by
 unfold boolV at h
 split at h
 ·rename_i b; cases h; have hr := ho _ rfl; simp only [renV, oI] at hr; subst hr; rfl
 ·rename_i c; cases h; obtain ⟨c', rfl, _⟩ := renV_tuple (ho _ rfl); rfl
 ·rename_i c; cases h; have hr := ho _ rfl; simp only [renV, oI] at hr; subst hr; rfl
 ·cases h
theorem wantV_ok {σ : Sg} {ops : Array Oper} {ts : Tm} {o : Oper} {tmps : Array Value} {r : Bool} (h : wantV ops ts o = some r)
  (ht : ∀ j want oj d, o.guard = some (j, want) → ops[j]? = some oj → oj.dst = some d → ∀ v, tg ts d = some v → renV σ v = some (tmps.getD d undef)) : Region.wanted o (yielded ops tmps) = r := by
 unfold wantV at h
 unfold Region.wanted
 split at h
 ·rename_i hg; cases h; rw [hg]
 ·rename_i j want hg
  rw [hg]
  simp only
  unfold yielded
  split at h
  ·rename_i oj hj
   split at h
   ·rename_i d hd
    have t1 := ht j want oj d hg hj hd
    split at h
    ·rename_i b hb
     cases h
     have := boolV_ok (σ := σ) hb t1
     rw [← yv_getD] at this
     simp only [hj, Option.bind_some, hd]
     change (yv (tmps[d]?) == some want) = _
     rw [this]; cases b <;> cases want <;> rfl
    ·rename_i hb
     cases h
     have := boolV_ok (σ := σ) hb t1
     rw [← yv_getD] at this
     simp only [hj, Option.bind_some, hd]
     change (yv (tmps[d]?) == some want) = _
     rw [this]; rfl
    ·cases h
   ·rename_i hd; cases h; simp [hj, hd]
  ·rename_i hj; cases h; simp [hj]
abbrev St4 := Tm × Hp × Nat × List Nat
def seqV (E : Env) (call : FuncId → List Value → Hp → Nat → Option Out) (ops : Array Oper) : List Oper → Tm → Hp → Nat → Option St4
 | [], ts, h, nx => some (ts, h, nx, [])
 | o :: rest, ts, h, nx => match wantV ops ts o with
  | some true => match stepV E call (evA ts) h nx o.op with
   | some (v, h', nx', d) => match seqV E call ops rest (putV ts o.dst v) h' nx' with
    | some (ts2, h2, nx2, d2) => some (ts2, h2, nx2, d2 ++ d)
    | none => none
   | none => none
  | some false => seqV E call ops rest (putV ts o.dst undef) h nx
  | none => none
section
variable {E : Env} {call : FuncId → List Value → Hp → Nat → Option Out}
theorem seqV_ok (hX : XOk E) (hC : COk E.P call) {ops : Array Oper} : ∀ (l : List Oper) (ts : Tm) (h : Hp) (nx : Nat) (ts' : Tm) (h' : Hp) (nx' : Nat) (d : List Nat), seqV E call ops l ts h nx = some (ts', h', nx', d) →
  Tidy h nx h' nx' d ∧ (Bd h nx → ∀ W σ w a, Rl W σ h w → Fresh σ nx nx' → RT σ ts a.tmps → ∀ ds, a.defers = ds → ∀ (F : Fence) (m : Nat), Wide F → ∀ Q : Exit → Act → World → Prop,
   (∀ σ' w' a', Stp W nx nx' σ h w σ' h' w' → RT σ' ts' a'.tmps → a'.defers = ds → Q .normal a' w') → wpListIn F m E.P ops Q l a w)
 | [], ts, h, nx, ts', h', nx', d, hs => by
   simp only [seqV, oI, pI] at hs
   obtain ⟨rfl, rfl, rfl, rfl⟩ := hs
   exact ⟨Tidy.refl _ _, fun _ W σ w a hR hf ht ds hd F m hF Q hQ => hQ σ w a (Stp.refl hR nx) ht hd⟩
 | o :: rest, ts, h, nx, ts', h', nx', d, hs => by
   simp only [seqV] at hs
   split at hs
   ·rename_i hw
    split at hs
    ·rename_i v h1 nx1 d1 hst
     split at hs
     ·rename_i ts2 h2 nx2 d2 hr
      simp only [oI, pI] at hs
      obtain ⟨rfl, rfl, rfl, rfl⟩ := hs
      obtain ⟨t1, s1⟩ := stepV_ok hX hC hst
      obtain ⟨t2, s2⟩ := seqV_ok hX hC rest _ _ _ _ _ _ _ hr
      refine ⟨t1.trans t2, fun hB W σ w a hR hf ht ds hd F m hF Q hQ => ?_⟩
      have hwant := wantV_ok (σ := σ) (tmps := a.tmps) hw (fun j want oj dd _ _ _ => ht.s dd)
      unfold wpListIn
      rw [if_pos hwant]
      refine s1 hB W σ w a hR (hf.low t2.1) (evs_of ht) F m hF _ _ fun σ1 w1 v' a1 a2 => ?_
      refine s2 (t1.2.2 hB) W σ1 w1 _ a1.rl (hf.next a1 t1.1) (putV_ok (ht.le a1.le) a2) ds (by cases o.dst <;> exact hd) F m hF Q fun σ2 w2 a2 b1 b2 b3 => ?_
      exact hQ σ2 w2 a2 (a1.trans b1 t1.1 t2.1) b2 b3
     ·cases hs
    ·cases hs
   ·rename_i hw
    obtain ⟨t2, s2⟩ := seqV_ok hX hC rest _ _ _ _ _ _ _ hs
    refine ⟨t2, fun hB W σ w a hR hf ht ds hd F m hF Q hQ => ?_⟩
    have hwant := wantV_ok (σ := σ) (tmps := a.tmps) hw (fun j want oj dd _ _ _ => ht.s dd)
    unfold wpListIn
    rw [if_neg (by rw [hwant]; exact Bool.false_ne_true)]
    exact ⟨fun f _ => by rw [hF.1]; trivial, s2 hB W σ w _ hR hf (putV_ok ht rfl) ds (by cases o.dst <;> exact hd) F m hF Q hQ⟩
   ·cases hs
end
def memN (x : Nat) : List Nat → Bool
 | [] => false
 | y :: l => bif Nat.beq x y then true else memN x l
theorem memN_iff {x : Nat} : ∀ {l : List Nat}, memN x l = true ↔ x ∈ l
 | [] => by simp [memN]
 | y :: l => by
   simp only [memN]
   by_cases h : x = y
   ·subst h; simp
   ·rw [nbeq_ne h]; simp [memN_iff, h]
theorem memN_not {x : Nat} {l : List Nat} (h : memN x l = false) : x ∉ l := fun hx => by rw [memN_iff.2 hx] at h; cases h
def uniN : List Nat → List Nat → List Nat
 | [], l => l
 | x :: k, l => bif memN x l then uniN k l else uniN k (x :: l)
def apartN : List Nat → List Nat → Bool
 | [], _ => true
 | x :: k, l => bif memN x l then false else apartN k l
theorem apartN_ok {x : Nat} : ∀ {k l : List Nat}, apartN k l = true → x ∈ k → x ∉ l
 | [], l, _, hx => by cases hx
 | y :: k, l, h, hx => by
   simp only [apartN] at h
   cases hm : memN y l with
   | true => rw [hm] at h; cases h
   | false =>
    rw [hm] at h
    rcases List.mem_cons.1 hx with rfl | hx
    ·exact memN_not hm
    ·exact apartN_ok h hx

structure Msk where
 m : Nat
instance : Membership Nat Msk := ⟨fun s j => Nat.testBit s.m j = true⟩
def tB (s : Msk) (j : Nat) : Bool := Nat.testBit s.m j
theorem tB_iff {s : Msk} {j : Nat} : tB s j = true ↔ j ∈ s := Iff.rfl
structure Rec where
 lo : List Nat
 dst : Option Tmp
 val : Value
 nx : Nat
 nx' : Nat
 rd : List Nat
 ef : List (Nat × Option Rw)
 an : Msk
def assoc : List (Nat × Option Rw) → Nat → Option (Option Rw)
 | [], _ => none
 | (m, r) :: t, n => bif Nat.beq m n then some r else assoc t n
theorem assoc_cons (m : Nat) (r : Option Rw) (t : List (Nat × Option Rw)) (n : Nat) : assoc ((m, r) :: t) n = if m = n then some r else assoc t n := by
 simp only [assoc]
 by_cases h : m = n
 ·subst h; simp
 ·rw [nbeq_ne h]; simp [h]
theorem assoc_mem {n : Nat} : ∀ {l : List (Nat × Option Rw)}, assoc l n ≠ none → n ∈ l.map (·.1)
 | [], h => by simp [assoc] at h
 | (m, r) :: t, h => by
   rw [assoc_cons] at h
   split at h
   ·rename_i e; subst e; simp
   ·simp only [List.map_cons, List.mem_cons]; exact .inr (assoc_mem h)
def appE : Hp → List (Nat × Option Rw) → Hp
 | h, [] => h
 | h, (n, some r) :: t => setH (appE h t) n r
 | h, (n, none) :: t => delH (appE h t) n
theorem lk_appE (h : Hp) (n : Nat) : ∀ l : List (Nat × Option Rw), lk (appE h l) n = match assoc l n with | some o => o | none => lk h n
 | [] => rfl
 | (m, some r) :: t => by
   simp only [appE, lk_setH, assoc_cons]
   split
   ·rfl
   ·exact lk_appE h n t
 | (m, none) :: t => by
   simp only [appE, lk_delH, assoc_cons]
   split
   ·rfl
   ·exact lk_appE h n t
def efNew (nx : Nat) : Hp → List (Nat × Option Rw)
 | [] => []
 | (n, r) :: t => bif Nat.ble nx n then (n, some r) :: efNew nx t else efNew nx t
def efOld (h : Hp) : List Nat → List (Nat × Option Rw)
 | [] => []
 | n :: d => (n, lk h n) :: efOld h d
theorem assoc_new (nx n : Nat) : ∀ h : Hp, assoc (efNew nx h) n = if nx ≤ n then (lk h n).map some else none
 | [] => by simp [efNew, assoc, lk]
 | (m, r) :: t => by
   simp only [efNew]
   by_cases hm : nx ≤ m
   ·rw [Nat.ble_eq_true_of_le hm]
    simp only [cond_true, assoc_cons, lk_cons, assoc_new nx n t]
    split
    ·rename_i e; subst e; simp [hm]
    ·rfl
   ·have : Nat.ble nx m = false := by
     cases hb : Nat.ble nx m with
     | false => rfl
     | true => exact absurd (Nat.le_of_ble_eq_true hb) hm
    rw [this]
    simp only [cond_false, lk_cons, assoc_new nx n t]
    split
    ·rename_i h1
     rw [if_neg (by omega)]
    ·rfl
theorem assoc_old (h : Hp) (n : Nat) : ∀ d : List Nat, assoc (efOld h d) n = if n ∈ d then some (lk h n) else none
 | [] => by simp [efOld, assoc]
 | m :: d => by
   simp only [efOld, assoc_cons, assoc_old h n d, List.mem_cons]
   by_cases e : m = n
   ·subst e; simp
   ·simp [e, Ne.symm e]
theorem assoc_app (a b : List (Nat × Option Rw)) (n : Nat) : assoc (a ++ b) n = match assoc a n with | some o => some o | none => assoc b n := by
 induction a with
 | nil => rfl
 | cons x a ih =>
  obtain ⟨m, r⟩ := x
  simp only [List.cons_append, assoc_cons, ih]
  split <;> rfl

def loN (ops : Array Oper) (o : Oper) : List Nat :=
 (o.op.operands.toList.filterMap fun | .tmp t => some t | _ => none) ++
 (match o.guard with
  | some (g, _) => match ops[g]? with | some og => (match og.dst with | some d => [d] | none => []) | none => []
  | none => [])
def evR (lo : List Nat) (ts : Tm) : Operand → Option Value
 | .tmp t => bif memN t lo then tg ts t else none
 | x => evA ts x
def ancV (past : List Rec) : List Edge → Option Msk
 | [] => some ⟨0⟩
 | e :: es => match ancV past es with
  | none => none
  | some l => bif Region.binds .any e then (match past[e.on]? with
   | some p => some ⟨Nat.lor (Nat.lor (2 ^ e.on) p.an.m) l.m⟩
   | none => none) else some l
def bigOp : Op → Bool
 | .call ⟨.value _, _, _⟩ => true
 | .call ⟨.builtin .append, _, _⟩ => true
 | .call ⟨.builtin .copy, _, _⟩ => true
 | _ => false
def blkN : Option Value → List Nat
 | some (.pointer (some a)) => [a.block]
 | some (.slice (some a) _ _) => [a.block]
 | some (.map (some n)) => [n]
 | _ => []
def blkS : Option Value → List Nat
 | some (.slice (some a) _ _) => [a.block]
 | _ => []
def rdsV (ev : Operand → Option Value) : Op → List Nat
 | .load _ x => blkN (ev x)
 | .convert _ _ x => blkN (ev x)
 | .store _ x _ => blkN (ev x)
 | .slice _ x _ _ none => blkS (ev x)
 | .lookup _ x _ _ => blkN (ev x)
 | _ => []
def pickH (h : Hp) : List Nat → Hp
 | [] => []
 | n :: l => match lk h n with | some r => (n, r) :: pickH h l | none => pickH h l
def dropH (l : List Nat) : Hp → Hp
 | [] => []
 | (n, r) :: t => bif memN n l then dropH l t else (n, r) :: dropH l t
theorem lk_pickH {h : Hp} {n : Nat} {r : Rw} : ∀ {l : List Nat}, lk (pickH h l) n = some r → lk h n = some r
 | [], e => by simp [pickH, lk] at e
 | m :: l, e => by
   simp only [pickH] at e
   split at e
   ·rename_i s hs
    rw [lk_cons] at e
    split at e
    ·rename_i e1; subst e1; rw [hs]; exact e
    ·exact lk_pickH e
   ·exact lk_pickH e
theorem lk_dropH {n : Nat} {r : Rw} (l : List Nat) : ∀ {h : Hp}, lk (dropH l h) n = some r → lk h n = some r
 | [], e => by simp [dropH, lk] at e
 | (m, s) :: t, e => by
   simp only [dropH] at e
   rw [lk_cons]
   cases hm : memN m l with
   | true =>
    rw [hm] at e
    simp only [cond_true] at e
    split
    ·rename_i e1
     subst e1
     exfalso
     have key : ∀ t : Hp, lk (dropH l t) m = none := by
      intro t
      induction t with
      | nil => rfl
      | cons x t ih =>
       obtain ⟨k, u⟩ := x
       simp only [dropH]
       cases hk : memN k l with
       | true => simpa using ih
       | false =>
        simp only [cond_false, lk_cons]
        split
        ·rename_i e2; subst e2; rw [hm] at hk; cases hk
        ·exact ih
     rw [key] at e
     cases e
    ·exact lk_dropH l e
   | false =>
    rw [hm] at e
    simp only [cond_false, lk_cons] at e
    split at e
    ·rename_i e1; rw [if_pos e1]; exact e
    ·rename_i e1; rw [if_neg e1]; exact lk_dropH l e
theorem lk_names {h : Hp} {n : Nat} {r : Rw} (e : lk h n = some r) : n ∈ h.map (·.1) := by
 induction h with
 | nil => simp [lk] at e
 | cons x h ih =>
  obtain ⟨m, s⟩ := x
  rw [lk_cons] at e
  split at e
  ·rename_i e1; subst e1; simp
  ·simp only [List.map_cons, List.mem_cons]; exact .inr (ih e)

def tchUn (an : Msk) : Nat → List Rec → List Nat
 | _, [] => []
 | i, p :: ps => match p.ef with
  | [] => tchUn an (i + 1) ps
  | _ => bif tB an i then tchUn an (i + 1) ps else uniN (p.ef.map (·.1)) (tchUn an (i + 1) ps)
def dstIn (d : Option Tmp) (l : List Nat) : Bool := match d with | some t => memN t l | none => false
def dstEq (a b : Option Tmp) : Bool := match a, b with | some x, some y => Nat.beq x y | _, _ => false
def apartR (p r : Rec) : Bool :=
 bif dstIn p.dst r.lo then false else bif dstIn r.dst p.lo then false else bif dstEq p.dst r.dst then false else
 bif (match p.ef with | [] => true | _ => bif apartN (p.ef.map (·.1)) r.rd then apartN (p.ef.map (·.1)) (r.ef.map (·.1)) else false) then (match r.ef with | [] => true | _ => apartN p.rd (r.ef.map (·.1))) else false
def chkV (an : Msk) (r : Rec) : Nat → List Rec → Bool
 | _, [] => true
 | i, p :: ps => bif apartR p r then chkV an r (i + 1) ps else bif tB an i then chkV an r (i + 1) ps else false
def recR (E : Env) (call : FuncId → List Value → Hp → Nat → Option Out) (ops : Array Oper) (o : Oper) (past : List Rec) (an : Msk) (ts : Tm) (nx : Nat) (rh : Hp) : Option Rec :=
 match stepV E call (evR (loN ops o) ts) rh nx o.op with
 | none => none
 | some (v, r', nx', d) => frc (loN ops o) fun lo => frc (rh.map (·.1)) fun rd => frc (efOld r' d ++ efNew nx r') fun ef => bif chkV an ⟨lo, o.dst, v, nx, nx', rd, ef, an⟩ 0 past then some ⟨lo, o.dst, v, nx, nx', rd, ef, an⟩ else none
def recV (E : Env) (call : FuncId → List Value → Hp → Nat → Option Out) (ops : Array Oper) (o : Oper) (past : List Rec) (ts : Tm) (h : Hp) (nx : Nat) : Option Rec :=
 match ancV past o.after.toList with
 | none => none
 | some an => match wantV ops ts o with
  | none => none
  | some false => frc (loN ops o) fun lo => bif chkV an ⟨lo, o.dst, undef, nx, nx, [], [], an⟩ 0 past then some ⟨lo, o.dst, undef, nx, nx, [], [], an⟩ else none
  | some true => bif bigOp o.op then recR E call ops o past an ts nx (dropH (tchUn an 0 past) h) else recR E call ops o past an ts nx (pickH h (rdsV (evR (loN ops o) ts) o.op))
def drawGo (E : Env) (call : FuncId → List Value → Hp → Nat → Option Out) (ops : Array Oper) : List Oper → List Rec → Tm → Hp → Nat → Option (List Rec × Tm × Hp × Nat)
 | [], past, ts, h, nx => some (past, ts, h, nx)
 | o :: rest, past, ts, h, nx => match recV E call ops o past ts h nx with
  | some r => frc (past ++ [r]) fun past => frc (appE h r.ef) fun h => drawGo E call ops rest past (putV ts r.dst r.val) h r.nx'
  | none => none
def oldN (nx : Nat) : List (Nat × Option Rw) → List Nat
 | [] => []
 | (n, _) :: t => bif Nat.blt n nx then n :: oldN nx t else oldN nx t
def dirtyV (nx : Nat) : List Rec → List Nat
 | [] => []
 | r :: rs => oldN nx r.ef ++ dirtyV nx rs
def drawV (E : Env) (call : FuncId → List Value → Hp → Nat → Option Out) (ops : Array Oper) (ts : Tm) (h : Hp) (nx : Nat) : Option St4 :=
 match drawGo E call ops ops.toList [] ts h nx with
 | some (recs, ts', h', nx') => some (ts', h', nx', dirtyV nx recs)
 | none => none
structure RlF (W : World) (σ : Sg) (H : Nat → Option Rw) (w : World) : Prop where
 ext : Ext W w
 row : ∀ n r, H n = some r → RowOk W σ w n r
 inj : ∀ n m r s p q, H n = some r → H m = some s → r.own → s.own → σ.b n = some p → σ.b m = some q → p.1 = q.1 → n = m
 wf : σ.w = true
 shr : (∀ n r, H n = some r → r.own → σ.f n ≠ none) ∧ (∀ n r k, H n = some r → k ∈ sh σ n → k < w.heap.size ∧ ∀ m s q, H m = some s → s.own → σ.b m = some q → q.1 ≠ k) ∧
  ∀ n r k, H n = some r → k ∈ ex σ n → k < w.heap.size ∧ (∀ m s q, H m = some s → s.own → σ.b m = some q → q.1 ≠ k) ∧ ∀ m s, H m = some s → k ∉ sh σ m ∧ (k ∈ ex σ m → m = n)
theorem RlF.sub {W : World} {σ : Sg} {h : Hp} {w : World} {H : Nat → Option Rw} (hR : RlF W σ H w) (hs : ∀ n r, lk h n = some r → H n = some r) : Rl W σ h w :=
 ⟨⟨hR.ext, fun n r e => hR.row n r (hs n r e), fun n m r s p q a b => hR.inj n m r s p q (hs _ _ a) (hs _ _ b)⟩, hR.wf, fun n r e => hR.shr.1 n r (hs _ _ e), fun n r k e hk => ⟨(hR.shr.2.1 n r k (hs _ _ e) hk).1, fun m s q hm => (hR.shr.2.1 n r k (hs _ _ e) hk).2 m s q (hs _ _ hm)⟩, fun n r k e hk => ⟨(hR.shr.2.2 n r k (hs _ _ e) hk).1, fun m s q hm => (hR.shr.2.2 n r k (hs _ _ e) hk).2.1 m s q (hs _ _ hm), fun m s hm => (hR.shr.2.2 n r k (hs _ _ e) hk).2.2 m s (hs _ _ hm)⟩⟩
theorem RlF.lt {W : World} {σ : Sg} {w : World} {H : Nat → Option Rw} (hR : RlF W σ H w) {n : Nat} {r : Rw} {p : Nat × Nat} (hl : H n = some r) (ho : r.own) (hb : σ.b n = some p) : p.1 < w.heap.size := by
 have h1 : Rl W σ [(n, r)] w := hR.sub fun m s e => by
  rw [lk_cons] at e
  split at e
  ·rename_i e1; subst e1; rw [← e]; exact hl
  ·cases e
 exact h1.lt (n := n) (r := r) (by rw [lk_cons, if_pos rfl]) ho hb
def updF (u : Nat → Option (Option Rw)) (H : Nat → Option Rw) (n : Nat) : Option Rw := match u n with | some o => o | none => H n
theorem RlF.step {W : World} {σ σ' : Sg} {w w' : World} {H : Nat → Option Rw} {lo hi : Nat} {rh r' : Hp} (hF : RlF W σ H w) (hsub : ∀ n r, lk rh n = some r → H n = some r) (S : Stp W lo hi σ rh w σ' r' w') (u : Nat → Option (Option Rw))
  (hu1 : ∀ n x, u n = some (some x) → lk r' n = some x) (hu2 : ∀ n x, u n = none → lk rh n = some x → lk r' n = some x) :
  RlF W σ' (updF u H) w' := by
 have cases' : ∀ n r, updF u H n = some r → lk r' n = some r ∨ (H n = some r ∧ lk rh n = none) := fun n r e => by
  unfold updF at e
  cases hu : u n with
  | some o => rw [hu] at e; simp only at e; subst e; exact .inl (hu1 n r hu)
  | none =>
   rw [hu] at e
   simp only at e
   cases hr : lk rh n with
   | none => exact .inr ⟨e, rfl⟩
   | some x =>
    have := hsub n x hr
    rw [e] at this
    cases this
    exact .inl (hu2 n r hu hr)
 have apart : ∀ n r p m s q, H n = some r → lk rh n = none → r.own → σ.b n = some p → lk rh m = some s → s.own → σ.b m = some q → q.1 ≠ p.1 := fun n r p m s q hn hno ho hb hm hs hq e => by
  have := hF.inj m n s r q p (hsub m s hm) hn hs ho hq hb e
  subst this
  rw [hm] at hno; cases hno
 have bOf : ∀ n r, H n = some r → ∃ p, σ.b n = some p := fun n r hn => by obtain ⟨b, s, vs, hb, _⟩ := hF.row n r hn; exact ⟨_, hb⟩
 have feq : ∀ n r, H n = some r → σ'.f n = σ.f n := fun n r hn => by obtain ⟨p, hp⟩ := bOf n r hn; exact (S.le.2.2 n p hp).2.1
 have exF : ∀ n r, H n = some r → ∀ k, k ∈ ex σ' n → k ∈ ex σ n := fun n r hn k hk => by unfold ex at hk ⊢; rw [feq n r hn] at hk; exact hk
 have shF : ∀ n r, H n = some r → ∀ k, k ∈ sh σ' n → k ∈ sh σ n := fun n r hn k hk => by unfold sh at hk ⊢; rw [feq n r hn] at hk; exact hk
 have frS : ∀ n r k, H n = some r → lk rh n = none → k ∈ sh σ n → w'.heap[k]? = w.heap[k]? := fun n r k hn hno hk =>
  S.fr k (hF.shr.2.1 n r k hn hk).1 (fun m s q hm hs hq => (hF.shr.2.1 n r k hn hk).2 m s q (hsub m s hm) hs hq) fun m s hm hk2 => ((hF.shr.2.2 m s k (hsub m s hm) hk2).2.2 n r hn).1 hk
 have frX : ∀ n r k, H n = some r → lk rh n = none → k ∈ ex σ n → w'.heap[k]? = w.heap[k]? := fun n r k hn hno hk =>
  S.fr k (hF.shr.2.2 n r k hn hk).1 (fun m s q hm hs hq => (hF.shr.2.2 n r k hn hk).2.1 m s q (hsub m s hm) hs hq) fun m s hm hk2 => by
   have := ((hF.shr.2.2 m s k (hsub m s hm) hk2).2.2 n r hn).2 hk
   subst this
   rw [hm] at hno; cases hno
 refine ⟨S.rl.ext, fun n r e => ?_, fun n m r s p q hn hm hr hs hp hq e => ?_, S.rl.wf, fun n r hn ho => ?_, fun n r k hn hk => ?_, fun n r k hn hk => ?_⟩
 ·rcases cases' n r e with h1 | ⟨h1, h2⟩
  ·exact S.rl.row n r h1
  ·exact (hF.row n r h1).keep S.le (fun ho p hb => S.fr p.1 (hF.lt h1 ho hb) (fun m s q hm hs hq => apart n r p m s q h1 h2 ho hb hm hs hq) fun m s hm hk => (hF.shr.2.2 m s _ (hsub m s hm) hk).2.1 n r p h1 ho hb rfl) (fun k hk => frS n r k h1 h2 hk) fun k hk => frX n r k h1 h2 hk
 ·have mixed : ∀ n m r s p q, lk r' n = some r → H m = some s → lk rh m = none → r.own → s.own → σ'.b n = some p → σ'.b m = some q → p.1 = q.1 → False := fun n m r s p q hn hm hno hr hs hp hq e => by
   obtain ⟨q', hq'⟩ := bOf m s hm
   have hqq := S.le.1 _ _ hq'
   rw [hq] at hqq
   cases hqq
   rcases S.src n r p hn hr hp with h1 | ⟨k, z, y, hk, hz, hy, e2⟩
   ·have := hF.lt hm hs hq'; omega
   ·exact apart m s q k z y hm hno hs hq' hk hz hy (e2.trans e)
  rcases cases' n r hn with h1 | ⟨h1, h2⟩ <;> rcases cases' m s hm with h3 | ⟨h3, h4⟩
  ·exact S.rl.inj n m r s p q h1 h3 hr hs hp hq e
  ·exact (mixed n m r s p q h1 h3 h4 hr hs hp hq e).elim
  ·exact (mixed m n s r q p h3 h1 h2 hs hr hq hp e.symm).elim
  ·obtain ⟨p', hp'⟩ := bOf n r h1
   obtain ⟨q', hq'⟩ := bOf m s h3
   have e1 := S.le.1 _ _ hp'
   have e2 := S.le.1 _ _ hq'
   rw [hp] at e1; rw [hq] at e2
   cases e1; cases e2
   exact hF.inj n m r s p q h1 h3 hr hs hp' hq' e
 ·rcases cases' n r hn with h1 | ⟨h1, _⟩
  ·exact S.rl.shr.1 n r h1 ho
  ·rw [feq n r h1]; exact hF.shr.1 n r h1 ho
 ·rcases cases' n r hn with h1 | ⟨h1, h2⟩
  ·refine ⟨(S.rl.shr.2.1 n r k h1 hk).1, fun m s q hm hs hq e => ?_⟩
   rcases cases' m s hm with h3 | ⟨h3, h4⟩
   ·exact (S.rl.shr.2.1 n r k h1 hk).2 m s q h3 hs hq e
   ·obtain ⟨q', hq'⟩ := bOf m s h3
    have e2 := S.le.1 _ _ hq'
    rw [hq] at e2
    cases e2
    rcases S.ssrc n r k h1 hk with h5 | ⟨m0, s0, q0, h5, h6, h7, h8⟩ | ⟨m0, s0, h5, h6⟩
    ·have := hF.lt h3 hs hq'; omega
    ·exact apart m s q m0 s0 q0 h3 h4 hs hq' h5 h6 h7 (h8.trans e.symm)
    ·exact (hF.shr.2.1 m0 s0 k (hsub _ _ h5) h6).2 m s q h3 hs hq' e
  ·have hk' := shF n r h1 k hk
   obtain ⟨g1, g2⟩ := hF.shr.2.1 n r k h1 hk'
   refine ⟨Nat.lt_of_lt_of_le g1 S.size, fun m s q hm hs hq e => ?_⟩
   rcases cases' m s hm with h3 | ⟨h3, h4⟩
   ·rcases S.src m s q h3 hs hq with h5 | ⟨m0, s0, q0, h5, h6, h7, h8⟩
    ·omega
    ·exact g2 m0 s0 q0 (hsub _ _ h5) h6 h7 (h8.trans e)
   ·obtain ⟨q', hq'⟩ := bOf m s h3
    have e2 := S.le.1 _ _ hq'
    rw [hq] at e2
    cases e2
    exact g2 m s q h3 hs hq' e
 ·rcases cases' n r hn with h1 | ⟨h1, h2⟩
  ·obtain ⟨g1, g2, g3⟩ := S.rl.shr.2.2 n r k h1 hk
   refine ⟨g1, fun m s q hm hs hq e => ?_, fun m s hm => ?_⟩
   ·rcases cases' m s hm with h3 | ⟨h3, h4⟩
    ·exact g2 m s q h3 hs hq e
    ·obtain ⟨q', hq'⟩ := bOf m s h3
     have e2 := S.le.1 _ _ hq'
     rw [hq] at e2
     cases e2
     rcases S.xsrc n r k h1 hk with h5 | ⟨m0, s0, q0, h5, h6, h7, h8⟩ | ⟨m0, s0, h5, h6⟩
     ·have := hF.lt h3 hs hq'; omega
     ·exact apart m s q m0 s0 q0 h3 h4 hs hq' h5 h6 h7 (h8.trans e.symm)
     ·exact (hF.shr.2.2 m0 s0 k (hsub _ _ h5) h6).2.1 m s q h3 hs hq' e
   ·rcases cases' m s hm with h3 | ⟨h3, h4⟩
    ·exact g3 m s h3
    ·refine ⟨fun hk2 => ?_, fun hk2 => ?_⟩
     ·have hk3 := shF m s h3 k hk2
      rcases S.xsrc n r k h1 hk with h5 | ⟨m0, s0, q0, h5, h6, h7, h8⟩ | ⟨m0, s0, h5, h6⟩
      ·have := (hF.shr.2.1 m s k h3 hk3).1; omega
      ·exact (hF.shr.2.1 m s k h3 hk3).2 m0 s0 q0 (hsub _ _ h5) h6 h7 h8
      ·exact ((hF.shr.2.2 m0 s0 k (hsub _ _ h5) h6).2.2 m s h3).1 hk3
     ·exfalso
      have hk3 := exF m s h3 k hk2
      rcases S.xsrc n r k h1 hk with h5 | ⟨m0, s0, q0, h5, h6, h7, h8⟩ | ⟨m0, s0, h5, h6⟩
      ·have := (hF.shr.2.2 m s k h3 hk3).1; omega
      ·exact (hF.shr.2.2 m s k h3 hk3).2.1 m0 s0 q0 (hsub _ _ h5) h6 h7 h8
      ·have := ((hF.shr.2.2 m0 s0 k (hsub _ _ h5) h6).2.2 m s h3).2 hk3
       subst this
       rw [h5] at h4; cases h4
  ·have hk' := exF n r h1 k hk
   obtain ⟨g1, g2, g3⟩ := hF.shr.2.2 n r k h1 hk'
   refine ⟨Nat.lt_of_lt_of_le g1 S.size, fun m s q hm hs hq e => ?_, fun m s hm => ?_⟩
   ·rcases cases' m s hm with h3 | ⟨h3, h4⟩
    ·rcases S.src m s q h3 hs hq with h5 | ⟨m0, s0, q0, h5, h6, h7, h8⟩
     ·omega
     ·exact g2 m0 s0 q0 (hsub _ _ h5) h6 h7 (h8.trans e)
    ·obtain ⟨q', hq'⟩ := bOf m s h3
     have e2 := S.le.1 _ _ hq'
     rw [hq] at e2
     cases e2
     exact g2 m s q h3 hs hq' e
   ·rcases cases' m s hm with h3 | ⟨h3, h4⟩
    ·refine ⟨fun hk2 => ?_, fun hk2 => ?_⟩
     ·rcases S.ssrc m s k h3 hk2 with h5 | ⟨m0, s0, q0, h5, h6, h7, h8⟩ | ⟨m0, s0, h5, h6⟩
      ·omega
      ·exact g2 m0 s0 q0 (hsub _ _ h5) h6 h7 h8
      ·exact (g3 m0 s0 (hsub _ _ h5)).1 h6
     ·rcases S.xsrc m s k h3 hk2 with h5 | ⟨m0, s0, q0, h5, h6, h7, h8⟩ | ⟨m0, s0, h5, h6⟩
      ·omega
      ·exact (g2 m0 s0 q0 (hsub _ _ h5) h6 h7 h8).elim
      ·have := (g3 m0 s0 (hsub _ _ h5)).2 h6
       subst this
       rw [h5] at h2; cases h2
    ·exact ⟨fun hk2 => (g3 m s h3).1 (shF m s h3 k hk2), fun hk2 => (g3 m s h3).2 (exF m s h3 k hk2)⟩

def fld {α : Type} (u : Rec → Option α) (D : Nat → Bool) : Nat → List Rec → α → α
 | _, [], x => x
 | i, r :: rs, x => fld u D (i + 1) rs (if D i = true then (match u r with | some y => y | none => x) else x)
section
variable {α : Type} {u : Rec → Option α} {D D' : Nat → Bool}
theorem fld_congr : ∀ (l : List Rec) (i : Nat) (x : α), (∀ j r, l[j]? = some r → u r ≠ none → D (i + j) = D' (i + j)) → fld u D i l x = fld u D' i l x
 | [], _, _, _ => rfl
 | r :: l, i, x, h => by
   simp only [fld]
   have e : (if D i = true then (match u r with | some y => y | none => x) else x) = (if D' i = true then (match u r with | some y => y | none => x) else x) := by
    cases hu : u r with
    | none => simp
    | some y => have := h 0 r rfl (by rw [hu]; simp); simp only [Nat.add_zero] at this; rw [this]
   rw [e]
   exact fld_congr l (i + 1) _ fun j s hj hs => by have := h (j + 1) s (by simpa using hj) hs; rwa [show i + (j + 1) = i + 1 + j by omega] at this
theorem fld_none : ∀ (l : List Rec) (i : Nat) (x : α), (∀ j r, l[j]? = some r → D (i + j) = true → u r = none) → fld u D i l x = x
 | [], _, _, _ => rfl
 | r :: l, i, x, h => by
   simp only [fld]
   have e : (if D i = true then (match u r with | some y => y | none => x) else x) = x := by
    split
    ·rename_i hd; rw [h 0 r rfl hd]
    ·rfl
   rw [e]
   exact fld_none l (i + 1) x fun j s hj hd => h (j + 1) s (by simpa using hj) (by rwa [show i + (j + 1) = i + 1 + j by omega])
theorem fld_last : ∀ (l : List Rec) (i k : Nat) (x y : α) (r : Rec), l[k]? = some r → D (i + k) = true → u r = some y → (∀ j s, k < j → l[j]? = some s → D (i + j) = true → u s = none) → fld u D i l x = y
 | [], _, _, _, _, _, h, _, _, _ => by simp at h
 | s :: l, i, 0, x, y, r, h, hd, hu, hl => by
   simp only [List.getElem?_cons_zero, oI] at h
   subst h
   simp only [fld]
   rw [if_pos (by simpa using hd), hu]
   exact fld_none l (i + 1) y fun j s hj hd => hl (j + 1) s (by omega) (by simpa using hj) (by rwa [show i + (j + 1) = i + 1 + j by omega])
 | s :: l, i, k + 1, x, y, r, h, hd, hu, hl => by
   simp only [fld]
   exact fld_last l (i + 1) k _ y r (by simpa using h) (by rwa [show i + 1 + k = i + (k + 1) by omega]) hu fun j s hk hj hd => hl (j + 1) s (by omega) (by simpa using hj) (by rwa [show i + (j + 1) = i + 1 + j by omega])
theorem fld_take : ∀ (l : List Rec) (i k : Nat) (x : α), fld u (fun j => decide (j < i + k)) i l x = fld u (fun _ => true) i (l.take k) x
 | [], _, _, _ => by simp [fld]
 | r :: l, i, 0, x => by
   rw [List.take_zero]
   exact fld_none _ _ _ fun j s _ hd => by simp at hd; omega
 | r :: l, i, k + 1, x => by
   simp only [fld, List.take_succ_cons]
   have := fld_take l (i + 1) k (if true = true then (match u r with | some y => y | none => x) else x)
   rw [show i + 1 + k = i + (k + 1) by omega] at this
   simpa using this
end
def tmpU (len t : Nat) (r : Rec) : Option (Option Value) := if r.dst = some t ∧ t < len then some (some r.val) else none
def tsA (ts : Tm) (l : List Rec) : Tm := l.foldl (fun ts r => putV ts r.dst r.val) ts
def hpA (h : Hp) (l : List Rec) : Hp := l.foldl (fun h r => appE h r.ef) h
def nxA (nx : Nat) (l : List Rec) : Nat := l.foldl (fun _ r => r.nx') nx
theorem putV_n (ts : Tm) (d : Option Tmp) (v : Value) : (putV ts d v).n = ts.n := by cases d <;> simp [putV, tput_n]
theorem tsA_get (t : Nat) : ∀ (l : List Rec) (ts : Tm) (i : Nat), ts.n ≤ 60000 → tg (tsA ts l) t = fld (tmpU ts.n t) (fun _ => true) i l (tg ts t)
 | [], _, _, _ => rfl
 | r :: l, ts, i, hb => by
   have ih := tsA_get t l (putV ts r.dst r.val) (i + 1) (by rw [putV_n]; exact hb)
   rw [putV_n] at ih
   have hs : tsA ts (r :: l) = tsA (putV ts r.dst r.val) l := rfl
   rw [hs, ih]
   simp only [fld]
   congr 1
   unfold tmpU putV
   cases hd : r.dst with
   | none => simp
   | some d =>
    simp only [tg_put hb, oI, if_true]
    by_cases e : d = t
    ·subst e
     by_cases hlt : d < ts.n
     ·simp [hlt]
     ·simp [hlt]
    ·simp [e]
theorem hpA_get (n : Nat) : ∀ (l : List Rec) (h : Hp) (i : Nat), lk (hpA h l) n = fld (fun r => assoc r.ef n) (fun _ => true) i l (lk h n)
 | [], _, _ => rfl
 | r :: l, h, i => by
   have ih := hpA_get n l (appE h r.ef) (i + 1)
   have hs : hpA h (r :: l) = hpA (appE h r.ef) l := rfl
   rw [hs, ih, lk_appE]
   simp only [fld, if_true]
   cases assoc r.ef n <;> rfl
section
variable {E : Env} {call : FuncId → List Value → Hp → Nat → Option Out} {ops : Array Oper}
theorem drawGo_spec : ∀ (l : List Oper) (past : List Rec) (ts : Tm) (h : Hp) (nx : Nat) (recs : List Rec) (ts' : Tm) (h' : Hp) (nx' : Nat), drawGo E call ops l past ts h nx = some (recs, ts', h', nx') →
  ∃ news, recs = past ++ news ∧ news.length = l.length ∧ ts' = tsA ts news ∧ h' = hpA h news ∧ nx' = nxA nx news ∧
   ∀ j o r, l[j]? = some o → news[j]? = some r → recV E call ops o (past ++ news.take j) (tsA ts (news.take j)) (hpA h (news.take j)) (nxA nx (news.take j)) = some r
 | [], past, ts, h, nx, recs, ts', h', nx', hd => by
   simp only [drawGo, oI, pI] at hd
   obtain ⟨rfl, rfl, rfl, rfl⟩ := hd
   exact ⟨[], by simp, rfl, rfl, rfl, rfl, fun j o r hj => by simp at hj⟩
 | o :: l, past, ts, h, nx, recs, ts', h', nx', hd => by
   simp only [drawGo, frc_eq] at hd
   split at hd
   ·rename_i r hr
    obtain ⟨news, e1, e2, e3, e4, e5, hall⟩ := drawGo_spec l _ _ _ _ _ _ _ _ hd
    refine ⟨r :: news, by rw [e1]; simp, by simp [e2], e3, e4, e5, fun j o' r' hj hr' => ?_⟩
    cases j with
    | zero =>
     simp only [List.getElem?_cons_zero, oI] at hj hr'
     subst hj; subst hr'
     show recV E call ops o (past ++ []) ts h nx = some r
     rw [List.append_nil]; exact hr
    | succ j =>
     simp only [List.getElem?_cons_succ] at hj hr'
     have := hall j o' r' hj hr'
     simpa [tsA, hpA, nxA] using this
   ·cases hd
structure RecOk (E : Env) (ops : Array Oper) (o : Oper) (past : List Rec) (ts : Tm) (h : Hp) (nx : Nat) (r : Rec) : Prop where
 lo : r.lo = loN ops o
 dst : r.dst = o.dst
 enx : r.nx = nx
 an : ancV past o.after.toList = some r.an
 chk : chkV r.an r 0 past = true
 run : (wantV ops ts o = some false ∧ r.val = undef ∧ r.ef = [] ∧ r.nx' = nx) ∨
  (wantV ops ts o = some true ∧ ∃ rh r' d, (∀ n x, lk rh n = some x → lk h n = some x) ∧ r.rd = rh.map (·.1) ∧ r.ef = efOld r' d ++ efNew nx r' ∧ Does E.P o (evR r.lo ts) rh nx (r.val, r', r.nx', d))
theorem recV_ok (hX : XOk E) (hC : COk E.P call) {o : Oper} {past : List Rec} {ts : Tm} {h : Hp} {nx : Nat} {r : Rec} (hr : recV E call ops o past ts h nx = some r) : RecOk E ops o past ts h nx r := by
 unfold recV at hr
 split at hr
 ·cases hr
 ·rename_i an han
  split at hr
  ·cases hr
  ·rename_i hw
   rw [frc_eq] at hr
   obtain ⟨hc, e⟩ := bif_of hr
   cases e
   exact ⟨rfl, rfl, rfl, han, hc, .inl ⟨hw, rfl, rfl, rfl⟩⟩
  ·rename_i hw
   have key : ∀ rh, (∀ n x, lk rh n = some x → lk h n = some x) → recR E call ops o past an ts nx rh = some r → RecOk E ops o past ts h nx r := by
    intro rh hsub hr
    unfold recR at hr
    split at hr
    ·cases hr
    ·rename_i v r' nx' d hs
     simp only [frc_eq] at hr
     obtain ⟨hc, e⟩ := bif_of hr
     cases e
     exact ⟨rfl, rfl, rfl, han, hc, .inr ⟨hw, rh, r', d, hsub, rfl, rfl, stepV_ok hX hC hs⟩⟩
   rcases bif_or hr with ⟨_, e⟩ | ⟨_, e⟩
   ·exact key _ (fun n x hx => lk_dropH _ hx) e
   ·exact key _ (fun n x hx => lk_pickH hx) e
theorem chkV_ok {an : Msk} {r : Rec} : ∀ (l : List Rec) (i j : Nat) (p : Rec), chkV an r i l = true → l[j]? = some p → i + j ∈ an ∨ apartR p r = true
 | [], i, j, p, _, hj => by simp at hj
 | q :: l, i, 0, p, h, hj => by
   simp only [List.getElem?_cons_zero, oI] at hj
   subst hj
   simp only [chkV] at h
   rcases bif_or h with ⟨h1, _⟩ | ⟨_, h⟩
   ·exact .inr h1
   ·rcases bif_or h with ⟨h1, _⟩ | ⟨_, h⟩
    ·exact .inl (tB_iff.1 h1)
    ·cases h
 | q :: l, i, j + 1, p, h, hj => by
   simp only [chkV] at h
   have hj' : l[j]? = some p := by simpa using hj
   have key : chkV an r (i + 1) l = true := by
    rcases bif_or h with ⟨_, h⟩ | ⟨_, h⟩
    ·exact h
    ·rcases bif_or h with ⟨_, h⟩ | ⟨_, h⟩
     ·exact h
     ·cases h
   have := chkV_ok l (i + 1) j p key hj'
   rwa [show i + 1 + j = i + (j + 1) by omega] at this
theorem mem_lor (k : Nat) (a b : Msk) (j : Nat) : j ∈ (⟨Nat.lor (Nat.lor (2 ^ k) a.m) b.m⟩ : Msk) ↔ (j = k ∨ j ∈ a) ∨ j ∈ b := by
 show Nat.testBit ((2 ^ k ||| a.m) ||| b.m) j = true ↔ (j = k ∨ Nat.testBit a.m j = true) ∨ Nat.testBit b.m j = true
 rw [Nat.testBit_or, Nat.testBit_or, Nat.testBit_two_pow, Bool.or_eq_true, Bool.or_eq_true, decide_eq_true_eq]
 constructor
 ·rintro ((h | h) | h)
  ·exact .inl (.inl h.symm)
  ·exact .inl (.inr h)
  ·exact .inr h
 ·rintro ((h | h) | h)
  ·exact .inl (.inl h.symm)
  ·exact .inl (.inr h)
  ·exact .inr h
theorem not_mem0 (j : Nat) : ¬ j ∈ (⟨0⟩ : Msk) := fun h => by
 have : Nat.testBit 0 j = true := h
 simp at this
theorem ancV_ok {past : List Rec} : ∀ {es : List Edge} {l : Msk}, ancV past es = some l → ∀ j, j ∈ l ↔ ∃ e ∈ es, Region.binds .any e = true ∧ ∃ p, past[e.on]? = some p ∧ (j = e.on ∨ j ∈ p.an)
 | [], l, h, j => by simp only [ancV, oI] at h; subst h; simp [not_mem0]
 | e :: es, l, h, j => by
   simp only [ancV] at h
   split at h
   ·cases h
   ·rename_i l' hl
    have ih := ancV_ok hl j
    rcases bif_or h with ⟨hb, h⟩ | ⟨hb, h⟩
    ·split at h
     ·rename_i p hp
      cases h
      rw [mem_lor, ih]
      constructor
      ·rintro (h | ⟨e', he, hb', q, hq, h⟩)
       ·exact ⟨e, by simp, hb, p, hp, h⟩
       ·exact ⟨e', by simp [he], hb', q, hq, h⟩
      ·rintro ⟨e', he, hb', q, hq, h⟩
       rcases List.mem_cons.1 he with rfl | he
       ·rw [hp] at hq; cases hq; exact .inl h
       ·exact .inr ⟨e', he, hb', q, hq, h⟩
     ·cases h
    ·cases h
     rw [ih]
     constructor
     ·rintro ⟨e', he, r⟩; exact ⟨e', by simp [he], r⟩
     ·rintro ⟨e', he, hb', r⟩
      rcases List.mem_cons.1 he with rfl | he
      ·rw [hb] at hb'; cases hb'
      ·exact ⟨e', he, hb', r⟩
theorem ancV_edge {past : List Rec} : ∀ {es : List Edge} {l : Msk}, ancV past es = some l → ∀ e ∈ es, Region.binds .any e = true → ∃ p, past[e.on]? = some p
 | [], l, h, e, he, _ => by cases he
 | x :: es, l, h, e, he, hb => by
   simp only [ancV] at h
   split at h
   ·cases h
   ·rename_i l' hl
    rcases List.mem_cons.1 he with rfl | he
    ·rw [hb] at h
     simp only [cond_true] at h
     split at h
     ·rename_i p hp; exact ⟨p, hp⟩
     ·cases h
    ·exact ancV_edge hl e he hb
end
structure Run (E : Env) (ops : Array Oper) (recs : List Rec) (ts0 : Tm) (h0 : Hp) (nx0 : Nat) : Prop where
 len : recs.length = ops.size
 ok : ∀ k o r, ops[k]? = some o → recs[k]? = some r → RecOk E ops o (recs.take k) (tsA ts0 (recs.take k)) (hpA h0 (recs.take k)) (nxA nx0 (recs.take k)) r
section
variable {E : Env} {ops : Array Oper} {recs : List Rec} {ts0 : Tm} {h0 : Hp} {nx0 : Nat}
theorem take_snoc {k : Nat} {r : Rec} (h : recs[k]? = some r) : recs.take (k + 1) = recs.take k ++ [r] := by
 obtain ⟨hk, e⟩ := List.getElem?_eq_some_iff.1 h
 rw [List.take_succ_eq_append_getElem hk, e]
theorem Run.opAt (R : Run E ops recs ts0 h0 nx0) {k : Nat} {r : Rec} (h : recs[k]? = some r) : ∃ o, ops[k]? = some o := by
 have hk := (List.getElem?_eq_some_iff.1 h).1
 rw [R.len] at hk
 exact ⟨_, Array.getElem?_eq_getElem hk⟩
theorem Run.recAt (R : Run E ops recs ts0 h0 nx0) {k : Nat} {o : Oper} (h : ops[k]? = some o) : ∃ r, recs[k]? = some r := by
 have hk := (Array.getElem?_eq_some_iff.1 h).1
 rw [← R.len] at hk
 exact ⟨_, List.getElem?_eq_getElem hk⟩
theorem RecOk.mono {o : Oper} {past : List Rec} {ts : Tm} {h : Hp} {nx : Nat} {r : Rec} (K : RecOk E ops o past ts h nx r) : nx ≤ r.nx' := by
 rcases K.run with ⟨_, _, _, e⟩ | ⟨_, rh, r', d, _, _, _, t, _⟩
 ·omega
 ·exact t.1
theorem RecOk.bd {o : Oper} {past : List Rec} {ts : Tm} {h : Hp} {nx : Nat} {r : Rec} (K : RecOk E ops o past ts h nx r) (hB : Bd h nx) : Bd (appE h r.ef) r.nx' := by
 intro n hn
 have hm := K.mono
 rw [lk_appE]
 rcases K.run with ⟨_, _, e, _⟩ | ⟨_, rh, r', d, hsub, _, e, t, _⟩
 ·rw [e]; exact hB n (by omega)
 ·have hBr : Bd rh nx := fun m hm => by
   cases hl : lk rh m with
   | none => rfl
   | some x => have := hsub m x hl; rw [hB m hm] at this; cases this
  have h1 := t.2.2 hBr n hn
  simp only at h1
  rw [e, assoc_app, assoc_old, assoc_new, h1]
  split
  ·rename_i o ho
   split at ho
   ·rename_i o' ho'
    split at ho'
    ·cases ho'; cases ho; rfl
    ·cases ho'
   ·rename_i ho'
    split at ho
    ·simp at ho
    ·cases ho
  ·exact hB n (by omega)
theorem Run.nxs (R : Run E ops recs ts0 h0 nx0) {k : Nat} {r : Rec} (h : recs[k]? = some r) : nxA nx0 (recs.take (k + 1)) = r.nx' := by
 rw [take_snoc h]; simp [nxA]
theorem Run.nxm (R : Run E ops recs ts0 h0 nx0) : ∀ (i j : Nat), i ≤ j → nxA nx0 (recs.take i) ≤ nxA nx0 (recs.take j) := by
 intro i j hij
 induction j with
 | zero => have : i = 0 := by omega
           subst this; exact Nat.le_refl _
 | succ j ih =>
  rcases Nat.lt_or_ge i (j + 1) with h | h
  ·refine Nat.le_trans (ih (by omega)) ?_
   cases hr : recs[j]? with
   | none =>
    have hl : recs.length ≤ j := by rwa [List.getElem?_eq_none_iff] at hr
    rw [List.take_of_length_le hl, List.take_of_length_le (by omega)]
    exact Nat.le_refl _
   | some r =>
    obtain ⟨o, ho⟩ := R.opAt hr
    rw [R.nxs hr]
    exact (R.ok j o r ho hr).mono
  ·have : i = j + 1 := by omega
   subst this; exact Nat.le_refl _
theorem Run.bds (R : Run E ops recs ts0 h0 nx0) (hB : Bd h0 nx0) : ∀ k, k ≤ recs.length → Bd (hpA h0 (recs.take k)) (nxA nx0 (recs.take k))
 | 0, _ => by simpa [hpA, nxA] using hB
 | k + 1, hk => by
   have hr : recs[k]? = some recs[k] := List.getElem?_eq_getElem (by omega)
   obtain ⟨o, ho⟩ := R.opAt hr
   have h1 := (R.ok k o _ ho hr).bd (R.bds hB k (by omega))
   have e : hpA h0 (recs.take k ++ [recs[k]]) = appE (hpA h0 (recs.take k)) recs[k].ef := by simp only [hpA, List.foldl_append]; rfl
   rw [R.nxs hr, take_snoc hr, e]
   exact h1
theorem Run.sep (R : Run E ops recs ts0 h0 nx0) {j k : Nat} {p r : Rec} (hj : recs[j]? = some p) (hk : recs[k]? = some r) (hlt : j < k) : p.nx' ≤ r.nx := by
 obtain ⟨o, ho⟩ := R.opAt hk
 rw [(R.ok k o r ho hk).enx, ← R.nxs hj]
 exact R.nxm _ _ hlt
theorem Run.compar (R : Run E ops recs ts0 h0 nx0) {j k : Nat} {p r : Rec} (hj : recs[j]? = some p) (hk : recs[k]? = some r) (hne : j ≠ k) (h1 : j < k → apartR p r = false) (h2 : k < j → apartR r p = false) : (j < k ∧ j ∈ r.an) ∨ (k < j ∧ k ∈ p.an) := by
 have key : ∀ (a b : Nat) (x y : Rec), recs[a]? = some x → recs[b]? = some y → a < b → apartR x y = false → a ∈ y.an := fun a b x y ha hb hab hap => by
  obtain ⟨o, ho⟩ := R.opAt hb
  have := chkV_ok _ 0 a x (R.ok b o y ho hb).chk (by rw [List.getElem?_take_of_lt hab]; exact ha)
  rw [Nat.zero_add] at this
  rcases this with h | h
  ·exact h
  ·rw [hap] at h; cases h
 rcases Nat.lt_or_gt_of_ne hne with h | h
 ·exact .inl ⟨h, key j k p r hj hk h (h1 h)⟩
 ·exact .inr ⟨h, key k j r p hk hj h (h2 h)⟩

section
variable {α : Type} {u : Rec → Option α} {D : Nat → Bool} {k : Nat} {r : Rec}
theorem fld_agree (hk : recs[k]? = some r) (hDk : D k = false) (han : ∀ j ∈ r.an, D j = true) (down : ∀ j p, recs[j]? = some p → D j = true → ∀ i ∈ p.an, D i = true)
  (hc : ∀ j p, recs[j]? = some p → u p ≠ none → j ≠ k → (j < k ∧ j ∈ r.an) ∨ (k < j ∧ k ∈ p.an)) (x : α) : fld u D 0 recs x = fld u (fun _ => true) 0 (recs.take k) x := by
 rw [← fld_take]
 refine fld_congr recs 0 x fun j p hj hu => ?_
 rw [Nat.zero_add, Nat.zero_add]
 by_cases e : j = k
 ·subst e; simp [hDk]
 ·rcases hc j p hj hu e with ⟨h1, h2⟩ | ⟨h1, h2⟩
  ·rw [han j h2]; simp [h1]
  ·cases hd : D j with
   | false => simp; omega
   | true => have := down j p hj hd k h2; rw [hDk] at this; cases this
theorem fld_after (hk : recs[k]? = some r) (hDk : D k = false) (down : ∀ j p, recs[j]? = some p → D j = true → ∀ i ∈ p.an, D i = true)
  (hc : u r ≠ none → ∀ j p, recs[j]? = some p → u p ≠ none → j ≠ k → (j < k ∧ j ∈ r.an) ∨ (k < j ∧ k ∈ p.an)) {D' : Nat → Bool} (hD' : ∀ j, D' j = if j = k then true else D j) (x : α) :
  fld u D' 0 recs x = match u r with | some y => y | none => fld u D 0 recs x := by
 cases hu : u r with
 | none =>
  refine fld_congr recs 0 x fun j p hj hup => ?_
  rw [Nat.zero_add, hD']
  split
  ·rename_i e; subst e; rw [hk] at hj; cases hj; exact absurd hu hup
  ·rfl
 | some y =>
  refine fld_last recs 0 k x y r hk (by rw [Nat.zero_add, hD']; simp) hu fun j p hkj hj hd => ?_
  rw [Nat.zero_add, hD'] at hd
  rw [if_neg (by omega)] at hd
  cases hup : u p with
  | none => rfl
  | some z =>
   rcases hc (by rw [hu]; simp) j p hj (by rw [hup]; simp) (by omega) with ⟨h1, h2⟩ | ⟨h1, h2⟩
   ·omega
   ·have := down j p hj hd k h2; rw [hDk] at this; cases this
end
end
end Go.Proofs.Ytmoflcoijmmpjaa
