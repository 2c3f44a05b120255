/-
  The machine that runs in the kernel, part T: code and whole calls.
-/
import Derived.Test.YtpiapipmhlpmjaaVmS
import Derived.LoopN
namespace Go.Proofs.Ytpiapipmhlpmjaa
set_option linter.unusedSimpArgs false
set_option linter.unusedVariables false
set_option linter.unusedSectionVars false
open Go Go.RowKit

inductive Xt where
  | normal
  | exit (id : Nat)
  | ret
def Xt.toExit : Xt → Exit
  | .normal => .normal
  | .exit id => .exit id
  | .ret => .ret
abbrev St5 := Xt × Tm × Hp × Nat × List Nat
def nrm : Option St4 → Option St5
  | some (ts, h, nx, d) => some (.normal, ts, h, nx, d)
  | none => none
def addD (d : List Nat) : Option St5 → Option St5
  | some (x, ts, h, nx, e) => some (x, ts, h, nx, e ++ d)
  | none => none
def unB (id : Nat) : Option St5 → Option St5
  | some (.exit i, ts, h, nx, d) => bif Nat.beq i id then some (.normal, ts, h, nx, d) else some (.exit i, ts, h, nx, d)
  | r => r
def codeV (E : Env) (call : FuncId → List Value → Hp → Nat → Option Out) : Nat → Code → Tm → Hp → Nat → Option St5
  | 0, _, _, _, _ => none
  | k + 1, c, ts, h, nx => match c with
    | .skip => some (.normal, ts, h, nx, [])
    | .label _ => some (.normal, ts, h, nx, [])
    | .exit id => some (.exit id, ts, h, nx, [])
    | .ret => some (.ret, ts, h, nx, [])
    | .region _ ops draw => bif draw then nrm (drawV E call ops ts h nx) else nrm (seqV E call ops ops.toList ts h nx)
    | .seq x y => match codeV E call k x ts h nx with
      | some (.normal, ts, h, nx, d) => addD d (codeV E call k y ts h nx)
      | r => r
    | .cond c x y => match evA ts c with
      | some (.bool b) => bif b then codeV E call k x ts h nx else codeV E call k y ts h nx
      | _ => none
    | .block id x => unB id (codeV E call k x ts h nx)
    | .loop x => match codeV E call k x ts h nx with
      | some (.normal, ts, h, nx, d) => addD d (codeV E call k (.loop x) ts h nx)
      | r => r
    | _ => none

section
variable {E : Env} {call : FuncId → List Value → Hp → Nat → Option Out}
/-- What is said of code. -/
def Runs (wp : (Exit → Act → World → Prop) → Act → World → Prop) (ts : Tm) (h : Hp) (nx : Nat) (o : St5) : Prop :=
  Tidy h nx o.2.2.1 o.2.2.2.1 o.2.2.2.2 ∧ (Bd h nx → ∀ W σ w a, Rl W σ h w → Fresh σ nx o.2.2.2.1 → RT σ ts a.tmps → a.defers = [] → ∀ Q : Exit → Act → World → Prop,
      (∀ σ' w' a', Stp W nx o.2.2.2.1 σ h w σ' o.2.2.1 w' → RT σ' o.2.1 a'.tmps → a'.defers = [] → Q o.1.toExit a' w') → wp Q a w)
theorem addD_of {d : List Nat} {r : Option St5} {o : St5} (h : addD d r = some o) : ∃ e, r = some (o.1, o.2.1, o.2.2.1, o.2.2.2.1, e) ∧ o.2.2.2.2 = e ++ d := by
  unfold addD at h
  split at h
  · cases h; exact ⟨_, rfl, rfl⟩
  · cases h
theorem nrm_of {r : Option St4} {o : St5} (h : nrm r = some o) : o.1 = .normal ∧ r = some (o.2.1, o.2.2.1, o.2.2.2.1, o.2.2.2.2) := by
  unfold nrm at h
  split at h
  · cases h; exact ⟨rfl, rfl⟩
  · cases h
/-- One behind the other. -/
theorem Runs.seq {wp1 wp2 wp3 : (Exit → Act → World → Prop) → Act → World → Prop} {ts ts1 : Tm} {h h1 : Hp} {nx nx1 : Nat} {d1 : List Nat} {o : St5} {e : List Nat} (hd : o.2.2.2.2 = e ++ d1) (A : Runs wp1 ts h nx (.normal, ts1, h1, nx1, d1)) (B : Runs wp2 ts1 h1 nx1 (o.1, o.2.1, o.2.2.1, o.2.2.2.1, e))
    (H : ∀ Q a w, wp1 (Exit.then (wp2 Q) Q) a w → wp3 Q a w) : Runs wp3 ts h nx o := by
  obtain ⟨x, ts2, h2, nx2, d2⟩ := o
  simp only at hd B
  subst hd
  obtain ⟨t1, s1⟩ := A
  obtain ⟨t2, s2⟩ := B
  refine ⟨t1.trans t2, fun hB W σ w a hR hf ht hdf Q hQ => H Q a w (s1 hB W σ w a hR (hf.low t2.1) ht hdf _ fun σ1 w1 a1 b1 b2 b3 => ?_)⟩
  exact s2 (t1.2.2 hB) W σ1 w1 a1 b1.rl (hf.next b1 t1.1) b2 b3 Q fun σ2 w2 a2 c1 c2 c3 => hQ σ2 w2 a2 (b1.trans c1 t1.1 t2.1) c2 c3
/-- It leaves by another way than its end. -/
theorem Runs.out {wp1 wp2 wp3 : (Exit → Act → World → Prop) → Act → World → Prop} {ts : Tm} {h : Hp} {nx : Nat} {o : St5} (hx : o.1 ≠ .normal) (A : Runs wp1 ts h nx o)
    (H : ∀ Q a w, wp1 (Exit.then (wp2 Q) Q) a w → wp3 Q a w) : Runs wp3 ts h nx o := by
  obtain ⟨t1, s1⟩ := A
  refine ⟨t1, fun hB W σ w a hR hf ht hdf Q hQ => H Q a w (s1 hB W σ w a hR hf ht hdf _ fun σ1 w1 a1 b1 b2 b3 => ?_)⟩
  have := hQ σ1 w1 a1 b1 b2 b3
  cases hx1 : o.1 with
  | normal => exact absurd hx1 hx
  | exit id => rw [hx1] at this; exact this
  | ret => rw [hx1] at this; exact this
theorem codeV_ok (hX : XOk E) (hC : COk E.P call) (hm : E.P.follows .mixedOrders = true) : ∀ (k : Nat),
    (∀ (c : Code) (ts : Tm) (h : Hp) (nx : Nat) (o : St5), codeV E call k c ts h nx = some o → Runs (fun Q => c.wp E.P Q) ts h nx o) ∧
    (∀ (x : Code) (ts : Tm) (h : Hp) (nx : Nat) (o : St5), codeV E call k (.loop x) ts h nx = some o → Runs (fun Q => Code.rounds E.P x Q k) ts h nx o)
  | 0 => ⟨fun c ts h nx o hs => by simp [codeV] at hs, fun c ts h nx o hs => by simp [codeV] at hs⟩
  | k + 1 => by
      obtain ⟨ih, ihl⟩ := codeV_ok hX hC hm k
      have loopK : ∀ (x : Code) (ts : Tm) (h : Hp) (nx : Nat) (o : St5), codeV E call (k + 1) (.loop x) ts h nx = some o → Runs (fun Q => Code.rounds E.P x Q (k + 1)) ts h nx o := by
        intro x ts h nx o hs
        simp only [codeV] at hs
        split at hs
        · rename_i ts1 h1 nx1 d1 h2
          obtain ⟨e, he, hd⟩ := addD_of hs
          exact Runs.seq hd (ih _ _ _ _ _ h2) (ihl _ _ _ _ _ he) fun Q a w hh => by rw [rounds_succ]; exact hh
        · rename_i hno
          refine Runs.out (wp2 := fun Q => Code.rounds E.P x Q k) (fun e => ?_) (ih _ _ _ _ _ hs) fun Q a w hh => by rw [rounds_succ]; exact hh
          obtain ⟨x1, ts1, h1, nx1, d1⟩ := o
          simp only at e
          subst e
          exact hno _ _ _ _ hs
      refine ⟨fun c ts h nx o hs => ?_, loopK⟩
      cases c with
      | loop x =>
        have := loopK x ts h nx o hs
        obtain ⟨t1, s1⟩ := this
        exact ⟨t1, fun hB W σ w a hR hf ht hdf Q hQ => wp_loop_rounds (k + 1) (s1 hB W σ w a hR hf ht hdf Q hQ)⟩
      | skip => simp only [codeV, Option.some.injEq] at hs; subst hs; exact ⟨Tidy.refl _ _, fun _ W σ w a hR hf ht hdf Q hQ => wp_skip (hQ σ w a (Stp.refl hR nx) ht hdf)⟩
      | label l => simp only [codeV, Option.some.injEq] at hs; subst hs; exact ⟨Tidy.refl _ _, fun _ W σ w a hR hf ht hdf Q hQ => wp_label (hQ σ w a (Stp.refl hR nx) ht hdf)⟩
      | exit id => simp only [codeV, Option.some.injEq] at hs; subst hs; exact ⟨Tidy.refl _ _, fun _ W σ w a hR hf ht hdf Q hQ => wp_exit (hQ σ w a (Stp.refl hR nx) ht hdf)⟩
      | ret => simp only [codeV, Option.some.injEq] at hs; subst hs; exact ⟨Tidy.refl _ _, fun _ W σ w a hR hf ht hdf Q hQ => wp_ret (hQ σ w a (Stp.refl hR nx) ht hdf)⟩
      | region id ops draw =>
        simp only [codeV] at hs
        cases draw with
        | true =>
          simp only [cond_true] at hs
          obtain ⟨e1, e2⟩ := nrm_of hs
          obtain ⟨x, ts', h', nx', d⟩ := o
          simp only at e1 e2
          subst e1
          exact drawV_ok hX hC hm e2
        | false =>
          simp only [cond_false] at hs
          obtain ⟨e1, e2⟩ := nrm_of hs
          obtain ⟨x, ts', h', nx', d⟩ := o
          simp only at e1 e2
          subst e1
          obtain ⟨t1, s1⟩ := seqV_ok hX hC ops.toList ts h nx ts' h' nx' d e2
          exact ⟨t1, fun hB W σ w a hR hf ht hdf Q hQ => wp_region_list (s1 hB W σ w a hR hf ht hdf Q hQ)⟩
      | seq x y =>
        simp only [codeV] at hs
        split at hs
        · rename_i ts1 h1 nx1 d1 h2
          obtain ⟨e, he, hd⟩ := addD_of hs
          exact Runs.seq hd (ih _ _ _ _ _ h2) (ih _ _ _ _ _ he) fun Q a w hh => wp_seq hh
        · rename_i hno
          refine Runs.out (wp2 := fun Q => y.wp E.P Q) (fun e => ?_) (ih _ _ _ _ _ hs) fun Q a w hh => wp_seq hh
          obtain ⟨x1, ts1, h1, nx1, d1⟩ := o
          simp only at e
          subst e
          exact hno _ _ _ _ hs
      | cond c x y =>
        simp only [codeV] at hs
        split at hs
        · rename_i b hc
          have hev : ∀ (σ : Sg) (a : Act), RT σ ts a.tmps → a.eval c = .bool b := fun σ a ht => by
            have := evs_of ht c _ hc
            simp only [renV, Option.some.injEq] at this
            exact this.symm
          cases b with
          | true =>
            obtain ⟨t1, s1⟩ := ih x _ _ _ _ hs
            exact ⟨t1, fun hB W σ w a hR hf ht hdf Q hQ => wp_cond_true (hev σ a ht) (s1 hB W σ w a hR hf ht hdf Q hQ)⟩
          | false =>
            obtain ⟨t1, s1⟩ := ih y _ _ _ _ hs
            exact ⟨t1, fun hB W σ w a hR hf ht hdf Q hQ => wp_cond_false (hev σ a ht) (s1 hB W σ w a hR hf ht hdf Q hQ)⟩
        · cases hs
      | block id x =>
        simp only [codeV] at hs
        unfold unB at hs
        split at hs
        · rename_i i ts1 h1 nx1 d1 he
          obtain ⟨t1, s1⟩ := ih x _ _ _ _ he
          rcases bif_or hs with ⟨hb, hs⟩ | ⟨hb, hs⟩
          · cases hs
            have := Nat.eq_of_beq_eq_true hb
            subst this
            refine ⟨t1, fun hB W σ w a hR hf ht hdf Q hQ => wp_block (s1 hB W σ w a hR hf ht hdf _ fun σ' w' a' b1 b2 b3 => ?_)⟩
            simp only [Xt.toExit, Exit.inBlock, if_true]
            exact hQ σ' w' a' b1 b2 b3
          · cases hs
            have hne : i ≠ id := fun e => by subst e; simp at hb
            refine ⟨t1, fun hB W σ w a hR hf ht hdf Q hQ => wp_block (s1 hB W σ w a hR hf ht hdf _ fun σ' w' a' b1 b2 b3 => ?_)⟩
            simp only [Xt.toExit, Exit.inBlock, if_neg hne]
            exact hQ σ' w' a' b1 b2 b3
        · rename_i hno
          obtain ⟨t1, s1⟩ := ih x _ _ _ _ hs
          refine ⟨t1, fun hB W σ w a hR hf ht hdf Q hQ => wp_block (s1 hB W σ w a hR hf ht hdf _ fun σ' w' a' b1 b2 b3 => ?_)⟩
          have := hQ σ' w' a' b1 b2 b3
          obtain ⟨x1, ts1, h1, nx1, d1⟩ := o
          cases x1 with
          | exit i => exact (hno _ _ _ _ _ hs).elim
          | normal => exact this
          | ret => exact this
      | _ => simp [codeV] at hs
end

/-! ### calls -/
def resV1 (P : Program) (ts : Tm) (h : Hp) : ResultVar → Option Value
  | .tmp t => tg ts t
  | .cell p t => match tg ts p with
    | some (.pointer (some ⟨n, o, none⟩)) => match lk h n with
      | some r => loadV P t r.cs o
      | none => none
    | _ => none
def resVL (P : Program) (ts : Tm) (h : Hp) : List ResultVar → Option (List Value)
  | [] => some []
  | x :: xs => match resV1 P ts h x, resVL P ts h xs with | some v, some vs => some (v :: vs) | _, _ => none
def one? : List Value → Value
  | [v] => v
  | vs => .tuple ⟨vs⟩
def flat1 : Value → Bool
  | .agg c => noAdL c.toList
  | v => noAd v
def flats : List Value → Bool
  | [] => true
  | v :: vs => bif flat1 v then flats vs else false
def oldD (nx : Nat) : List Nat → List Nat
  | [] => []
  | n :: d => bif Nat.blt n nx then n :: oldD nx d else oldD nx d
/-- What a call leaves: if it hands back no address and has written nothing older, memory is as it was. -/
def leave (h : Hp) (nx : Nat) (vs : List Value) (h' : Hp) (nx' : Nat) (d : List Nat) : Out :=
  match oldD nx d with
  | [] => bif flats vs then (one? vs, h, nx', []) else (one? vs, h', nx', [])
  | d' => (one? vs, h', nx', d')
def runF (E : Env) : Nat → FuncId → List Value → Hp → Nat → Option Out
  | 0, _, _, _, _ => none
  | k + 1, f, args, h, nx => match E.T f args h nx with
    | some r => some r
    | none => match E.P.funcs[f]? with
      | none => none
      | some fn => match fn.body with
        | none => none
        | some c => bif Nat.ble fn.ntmps 60000 && Nat.ble args.length fn.ntmps then (match codeV E (runF E k) 100000 c (tinit args fn.ntmps) h nx with
          | some (.exit _, _) => none
          | some (_, ts, h', nx', d) => match resVL E.P ts h' fn.results.toList with
            | some vs => some (leave h nx vs h' nx' d)
            | none => none
          | none => none) else none
end Go.Proofs.Ytpiapipmhlpmjaa
