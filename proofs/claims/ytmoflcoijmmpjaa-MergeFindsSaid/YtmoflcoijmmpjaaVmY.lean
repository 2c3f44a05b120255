/-
  The machine that runs in the kernel, part Y: runs at free arguments whose tests are told ahead; what was told is handed back, to be proved afterwards.
-/
import Derived.Test.YtmoflcoijmmpjaaVmX
namespace Go.Proofs.Ytmoflcoijmmpjaa
set_option linter.unusedSimpArgs false
set_option linter.unusedVariables false
set_option linter.unusedSectionVars false
open Go Go.RowKit

abbrev Ob := List (Bool × Bool)
def Obs (o : Ob) : Prop := ∀ p ∈ o, p.1 = p.2
theorem Obs.nil : Obs [] := fun _ h => by cases h
theorem Obs.cons {b c : Bool} {o : Ob} (h : b = c) (k : Obs o) : Obs ((b, c) :: o) := fun p hp => by
  rcases List.mem_cons.1 hp with rfl | hp
  · exact h
  · exact k p hp
theorem Obs.head {b c : Bool} {o : Ob} (h : Obs ((b, c) :: o)) : b = c := h (b, c) (List.mem_cons_self ..)
theorem Obs.left {a b : Ob} (h : Obs (a ++ b)) : Obs a := fun p hp => h p (List.mem_append_left _ hp)
theorem Obs.right {a b : Ob} (h : Obs (a ++ b)) : Obs b := fun p hp => h p (List.mem_append_right _ hp)
structure Ov where
  T : FuncId → List Value → Hp → Nat → Option (Out × Bool)
  X : FuncId → List Value → Hp → Option (Value × Bool)
theorem pickV_t (a c : Value) : pickV true a c = a := by
  unfold pickV
  split
  · rfl
  · rename_i k x k' y
    by_cases h : k = k'
    · subst h; simp
    · simp [h]
  · rfl
theorem pickV_f (a c : Value) : pickV false a c = c := by
  unfold pickV
  split
  · rfl
  · rename_i k x k' y
    by_cases h : k = k'
    · subst h; simp
    · simp [h]
  · rfl
def plainOp : Op → Bool
  | .move _ | .assign _ | .binOp _ _ _ _ _ | .unOp _ _ _ | .load _ _ | .fieldAddr _ _ _ | .indexAddr _ _ _ | .index _ _ _ | .field _ _ _ | .extract _ _ | .pick _ _ _ => true
  | _ => false
def plainOps : List Oper → Bool
  | [] => true
  | o :: l => bif plainOp o.op then plainOps l else false
def plainC : Code → Bool
  | .skip => true
  | .region _ ops false => plainOps ops.toList
  | .seq x y => bif plainC x then plainC y else false
  | _ => false
theorem stepV_plain {E : Env} {call : FuncId → List Value → Hp → Nat → Option Out} {ev : Operand → Option Value} {h : Hp} {nx : Nat} {op : Op} {v : Value} {h' : Hp} {nx' : Nat} {d : List Nat} (hp : plainOp op = true) (hs : stepV E call ev h nx op = some (v, h', nx', d)) : h' = h ∧ nx' = nx ∧ d = [] := by
  cases op <;> simp only [plainOp, Bool.false_eq_true] at hp <;> simp only [stepV, calleeV, yieldV, ndV, cond_true, opV] at hs <;> split at hs <;> first | (simp only [Option.some.injEq, Prod.mk.injEq] at hs; exact ⟨hs.2.1.symm, hs.2.2.1.symm, hs.2.2.2.symm⟩) | (simp only [newV] at hs; cases hs)
theorem seqV_plain {E : Env} {call : FuncId → List Value → Hp → Nat → Option Out} {ops : Array Oper} : ∀ (l : List Oper) (ts : Tm) (h : Hp) (nx : Nat) (ts' : Tm) (h' : Hp) (nx' : Nat) (d : List Nat), plainOps l = true → seqV E call ops l ts h nx = some (ts', h', nx', d) → h' = h ∧ nx' = nx ∧ d = [] ∧ ts'.n = ts.n
  | [], ts, h, nx, ts', h', nx', d, _, hs => by
      simp only [seqV, Option.some.injEq, Prod.mk.injEq] at hs
      obtain ⟨rfl, rfl, rfl, rfl⟩ := hs
      exact ⟨rfl, rfl, rfl, rfl⟩
  | o :: l, ts, h, nx, ts', h', nx', d, hp, hs => by
      simp only [plainOps] at hp
      rcases bif_or hp with ⟨hp1, hp2⟩ | ⟨_, hp2⟩
      case inr => cases hp2
      have hn : ∀ (dst : Option Tmp) (v : Value), (putV ts dst v).n = ts.n := by
        intro dst v
        cases dst with
        | none => rfl
        | some k => simp only [putV, tput]; cases Nat.blt k ts.n <;> rfl
      simp only [seqV] at hs
      split at hs
      · split at hs
        · rename_i v h1 nx1 d1 hst
          obtain ⟨rfl, rfl, rfl⟩ := stepV_plain hp1 hst
          split at hs
          · rename_i ts2 h2 nx2 d2 hr
            obtain ⟨e1, e2, e3, e4⟩ := seqV_plain l _ _ _ _ _ _ _ hp2 hr
            simp only [Option.some.injEq, Prod.mk.injEq] at hs
            obtain ⟨rfl, rfl, rfl, rfl⟩ := hs
            exact ⟨e1, e2, by rw [e3]; rfl, by rw [e4, hn]⟩
          · cases hs
        · cases hs
      · obtain ⟨e1, e2, e3, e4⟩ := seqV_plain l _ _ _ _ _ _ _ hp2 hs
        exact ⟨e1, e2, e3, by rw [e4, hn]⟩
      · cases hs
theorem codeV_plain {E : Env} {call : FuncId → List Value → Hp → Nat → Option Out} {inr : Bool} : ∀ (k : Nat) (c : Code) (ts : Tm) (h : Hp) (nx : Nat) (x : Xt) (ts' : Tm) (h' : Hp) (nx' : Nat) (d ms : List Nat), plainC c = true → codeV E call inr k c ts h nx = some (x, ts', h', nx', d, ms) → x = .normal ∧ h' = h ∧ nx' = nx ∧ d = [] ∧ ms = [] ∧ ts'.n = ts.n
  | 0, c, ts, h, nx, x, ts', h', nx', d, ms, hp, hs => by simp [codeV] at hs
  | k + 1, c, ts, h, nx, x, ts', h', nx', d, ms, hp, hs => by
      cases c with
      | skip =>
        simp only [codeV, Option.some.injEq, Prod.mk.injEq] at hs
        obtain ⟨rfl, rfl, rfl, rfl, rfl, rfl⟩ := hs
        exact ⟨rfl, rfl, rfl, rfl, rfl, rfl⟩
      | region i ops draw =>
        cases draw with
        | true => simp [plainC] at hp
        | false =>
          simp only [plainC] at hp
          simp only [codeV, cond_false] at hs
          unfold nrm at hs
          split at hs
          · rename_i ts2 h2 nx2 d2 hr
            simp only [Option.some.injEq, Prod.mk.injEq] at hs
            obtain ⟨rfl, rfl, rfl, rfl, rfl, rfl⟩ := hs
            obtain ⟨e1, e2, e3, e4⟩ := seqV_plain _ _ _ _ _ _ _ _ hp hr
            exact ⟨rfl, e1, e2, e3, rfl, e4⟩
          · cases hs
      | seq y z =>
        simp only [plainC] at hp
        rcases bif_or hp with ⟨hp1, hp2⟩ | ⟨_, hp2⟩
        case inr => cases hp2
        simp only [codeV] at hs
        split at hs
        · rename_i ts2 h2 nx2 d2 ms2 hr
          obtain ⟨_, rfl, rfl, rfl, rfl, e6⟩ := codeV_plain k y _ _ _ _ _ _ _ _ _ hp1 hr
          unfold addD at hs
          split at hs
          · rename_i x3 ts3 h3 nx3 e3 ns3 hr3
            simp only [Option.some.injEq, Prod.mk.injEq] at hs
            obtain ⟨rfl, rfl, rfl, rfl, rfl, rfl⟩ := hs
            obtain ⟨e1, e2, e3', e4, e5, e7⟩ := codeV_plain k z _ _ _ _ _ _ _ _ _ hp2 hr3
            exact ⟨e1, e2, e3', by rw [e4]; rfl, by rw [e5]; rfl, by rw [e7, e6]⟩
          · cases hs
        · rename_i hno
          obtain ⟨rfl, _⟩ := codeV_plain k y _ _ _ _ _ _ _ _ _ hp1 hs
          exact (hno _ _ _ _ _ hs).elim
      | _ => simp [plainC] at hp
def dstsO : List Oper → List Nat
  | [] => []
  | o :: l => match o.dst with
    | some d => d :: dstsO l
    | none => dstsO l
def dstsC : Code → List Nat
  | .region _ ops _ => dstsO ops.toList
  | .seq x y => dstsC x ++ dstsC y
  | _ => []
theorem putV_keep {ts : Tm} (hb : ts.n ≤ 60000) {dst : Option Tmp} {v : Value} {k : Nat} (h : ∀ d, dst = some d → d ≠ k) : tg (putV ts dst v) k = tg ts k ∧ (putV ts dst v).n = ts.n := by
  cases dst with
  | none => exact ⟨rfl, rfl⟩
  | some d =>
    refine ⟨?_, ?_⟩
    · show tg (tput ts d v) k = _
      rw [tg_put hb, if_neg (fun e => h d rfl e.1)]
    · simp only [putV, tput]; cases Nat.blt d ts.n <;> rfl
theorem seqV_keep {E : Env} {call : FuncId → List Value → Hp → Nat → Option Out} {ops : Array Oper} {k : Nat} : ∀ (l : List Oper) (ts : Tm) (h : Hp) (nx : Nat) (r : St4), ts.n ≤ 60000 → k ∉ dstsO l → seqV E call ops l ts h nx = some r → tg r.1 k = tg ts k ∧ r.1.n = ts.n
  | [], ts, h, nx, r, _, _, hs => by
      simp only [seqV, Option.some.injEq] at hs
      subst hs
      exact ⟨rfl, rfl⟩
  | o :: l, ts, h, nx, r, hb, hk, hs => by
      have hk1 : ∀ d, o.dst = some d → d ≠ k := fun d e hd => by
        subst hd; simp only [dstsO, e, List.mem_cons, true_or, not_true] at hk
      have hk2 : k ∉ dstsO l := by
        simp only [dstsO] at hk
        split at hk
        · simp only [List.mem_cons, not_or] at hk; exact hk.2
        · exact hk
      simp only [seqV] at hs
      split at hs
      · split at hs
        · rename_i v h1 nx1 d1 hst
          split at hs
          · rename_i ts2 h2 nx2 d2 hr
            obtain ⟨p1, p2⟩ := putV_keep hb (v := v) hk1
            obtain ⟨e1, e2⟩ := seqV_keep l _ _ _ _ (by rw [p2]; exact hb) hk2 hr
            simp only [Option.some.injEq] at hs
            subst hs
            exact ⟨e1.trans p1, e2.trans p2⟩
          · cases hs
        · cases hs
      · obtain ⟨p1, p2⟩ := putV_keep hb (v := undef) hk1
        obtain ⟨e1, e2⟩ := seqV_keep l _ _ _ _ (by rw [p2]; exact hb) hk2 hs
        exact ⟨e1.trans p1, e2.trans p2⟩
      · cases hs
theorem codeV_keep {E : Env} {call : FuncId → List Value → Hp → Nat → Option Out} {inr : Bool} {j : Nat} : ∀ (k : Nat) (c : Code) (ts : Tm) (h : Hp) (nx : Nat) (r : St5), plainC c = true → ts.n ≤ 60000 → j ∉ dstsC c → codeV E call inr k c ts h nx = some r → tg r.2.1 j = tg ts j ∧ r.2.1.n = ts.n
  | 0, c, ts, h, nx, r, hp, _, _, hs => by simp [codeV] at hs
  | k + 1, c, ts, h, nx, r, hp, hb, hj, hs => by
      cases c with
      | skip =>
        simp only [codeV, Option.some.injEq] at hs
        subst hs
        exact ⟨rfl, rfl⟩
      | region i ops draw =>
        cases draw with
        | true => simp [plainC] at hp
        | false =>
          simp only [codeV, cond_false] at hs
          unfold nrm at hs
          split at hs
          · rename_i ts2 h2 nx2 d2 hr
            simp only [Option.some.injEq] at hs
            subst hs
            exact seqV_keep _ _ _ _ _ hb hj hr
          · cases hs
      | seq y z =>
        simp only [plainC] at hp
        rcases bif_or hp with ⟨hp1, hp2⟩ | ⟨_, hp2⟩
        case inr => cases hp2
        simp only [dstsC, List.mem_append, not_or] at hj
        simp only [codeV] at hs
        split at hs
        · rename_i ts2 h2 nx2 d2 ms2 hr
          obtain ⟨a1, a2⟩ := codeV_keep k y _ _ _ _ hp1 hb hj.1 hr
          unfold addD at hs
          split at hs
          · rename_i x3 ts3 h3 nx3 e3 ns3 hr3
            simp only [Option.some.injEq] at hs
            subst hs
            obtain ⟨b1, b2⟩ := codeV_keep k z _ _ _ _ hp2 (by simp only at a2; omega) hj.2 hr3
            exact ⟨b1.trans a1, b2.trans a2⟩
          · cases hs
        · rename_i hno
          obtain ⟨x, t2, h2, nx2, d2, ms2⟩ := r
          obtain ⟨rfl, _⟩ := codeV_plain k y _ _ _ _ _ _ _ _ _ hp1 hs
          exact (hno _ _ _ _ _ hs).elim
      | _ => simp [plainC] at hp
abbrev CallO := FuncId → List Value → Hp → Nat → List Bool → Option (Out × List Bool × Ob)
section
variable {V : Ov} {P : Program} {call : FuncId → List Value → Hp → Nat → Option Out} {callO : CallO}
def opTmp : Operand → Option Nat
  | .tmp t => some t
  | _ => none
def toldB (tab : List Nat) (c : Operand) : Bool := match opTmp c with | some t => memN t tab | none => false
end
end Go.Proofs.Ytmoflcoijmmpjaa
