/-
  The machine that runs in the kernel, part Y: runs at free arguments whose tests are told ahead; what was told is handed back, to be proved afterwards.
-/
import Derived.Test.YtmoflcoijmmpjaaVmX
namespace Go.Proofs.Ytmoflcoijmmpjaa
set_option linter.unusedSimpArgs false
set_option linter.unusedVariables false
set_option linter.unusedSectionVars false
open Go Go.RowKit

/-- What was told, beside what it is. -/
abbrev Ob := List (Bool × Bool)
def Obs (o : Ob) : Prop := ∀ p ∈ o, p.1 = p.2
theorem Obs.nil : Obs [] := fun _ h => by cases h
theorem Obs.cons {b c : Bool} {o : Ob} (h : b = c) (k : Obs o) : Obs ((b, c) :: o) := fun p hp => by
  rcases List.mem_cons.1 hp with rfl | hp
  · exact h
  · exact k p hp
theorem Obs.head {b c : Bool} {o : Ob} (h : Obs ((b, c) :: o)) : b = c := h (b, c) (List.mem_cons_self ..)
theorem Obs.left {a b : Ob} (h : Obs (a ++ b)) : Obs a := fun p hp => h p (List.mem_append_left _ hp)
theorem Obs.right {a b : Ob} (h : Obs (a ++ b)) : Obs b := fun p hp => h p (List.mem_append_right _ hp)
/-- Functions that are known (under a condition), functions of other make. -/
structure Ov where
  T : FuncId → List Value → Hp → Nat → Option (Out × Bool)
  X : FuncId → List Value → Hp → Option (Value × Bool)
/-- Two ways that meet again: slot by slot. -/
def mgV (b : Bool) : Option Value → Option Value → Option Value
  | some v, some u => some (pickV b v u)
  | none, none => none
  | x, y => bif b then x else y
theorem pickV_t (a c : Value) : pickV true a c = a := by
  unfold pickV
  split
  · rfl
  · rename_i k x k' y
    by_cases h : k = k'
    · subst h; simp
    · simp [h]
  · rfl
theorem pickV_f (a c : Value) : pickV false a c = c := by
  unfold pickV
  split
  · rfl
  · rename_i k x k' y
    by_cases h : k = k'
    · subst h; simp
    · simp [h]
  · rfl
theorem mgV_t (x y : Option Value) : mgV true x y = x := by
  unfold mgV
  split
  · rw [pickV_t]
  · rfl
  · rfl
theorem mgV_f (x y : Option Value) : mgV false x y = y := by
  unfold mgV
  split
  · rw [pickV_f]
  · rfl
  · rfl
def mgT (b : Bool) (D : Nat → Bool) : Nat → Nat → Tr → Tr → Option Tr
  | _, _, .e, .e => some .e
  | a, c, .n v l r, .n u l' r' => match mgT b D (2 * a) (a + c) l l', mgT b D (2 * a) (2 * a + c) r r' with
    | some x, some y => some (.n (bif D c then mgV b v u else v) x y)
    | _, _ => none
  | _, _, _, _ => none
theorem mgT_t {D : Nat → Bool} : ∀ (a c : Nat) (s u t : Tr), mgT true D a c s u = some t → t = s
  | _, _, .e, .e, t, h => by simp only [mgT, Option.some.injEq] at h; exact h.symm
  | a, c, .n v l r, .n u l' r', t, h => by
      simp only [mgT] at h
      split at h
      · rename_i x y h1 h2
        simp only [Option.some.injEq] at h
        rw [← h, mgT_t _ _ l l' x h1, mgT_t _ _ r r' y h2, mgV_t]
        cases D c <;> rfl
      · cases h
  | _, _, .e, .n _ _ _, t, h => by simp [mgT] at h
  | _, _, .n _ _ _, .e, t, h => by simp [mgT] at h
theorem mgT_f {D : Nat → Bool} : ∀ (a c : Nat) (s u t : Tr), (∀ k, D (a * k + c) = false → trG s k = trG u k) → mgT false D a c s u = some t → t = u
  | _, _, .e, .e, t, _, h => by simp only [mgT, Option.some.injEq] at h; exact h.symm
  | a, c, .n v l r, .n u l' r', t, H, h => by
      simp only [mgT] at h
      split at h
      · rename_i x y h1 h2
        simp only [Option.some.injEq] at h
        have e0 := H 0
        simp only [Nat.mul_zero, Nat.zero_add, trG_n, if_true] at e0
        have el : ∀ k, D (2 * a * k + (a + c)) = false → trG l k = trG l' k := fun k hk => by
          have := H (2 * k + 1) (by rw [← hk]; congr 1; rw [Nat.mul_add, Nat.mul_one, ← Nat.mul_assoc, Nat.mul_comm a 2]; omega)
          simpa only [trG_n, if_neg (show ¬ (2 * k + 1 = 0) by omega), if_pos (show (2 * k + 1) % 2 = 1 by omega), show (2 * k + 1) / 2 = k by omega] using this
        have er : ∀ k, D (2 * a * k + (2 * a + c)) = false → trG r k = trG r' k := fun k hk => by
          have := H (2 * k + 2) (by rw [← hk]; congr 1; rw [Nat.mul_add, ← Nat.mul_assoc, Nat.mul_comm a 2]; omega)
          simpa only [trG_n, if_neg (show ¬ (2 * k + 2 = 0) by omega), if_neg (show ¬ ((2 * k + 2) % 2 = 1) by omega), show (2 * k + 2) / 2 - 1 = k by omega] using this
        rw [← h, mgT_f _ _ l l' x el h1, mgT_f _ _ r r' y er h2]
        cases hD : D c with
        | true => rw [cond_true, mgV_f]
        | false => rw [cond_false, e0 hD]
      · cases h
  | _, _, .e, .n _ _ _, t, _, h => by simp [mgT] at h
  | _, _, .n _ _ _, .e, t, _, h => by simp [mgT] at h
/-- Operations that only work out a value. -/
def plainOp : Op → Bool
  | .move _ | .assign _ | .binOp _ _ _ _ _ | .unOp _ _ _ | .load _ _ | .fieldAddr _ _ _ | .indexAddr _ _ _ | .index _ _ _ | .field _ _ _ | .extract _ _ | .pick _ _ _ => true
  | _ => false
def plainOps : List Oper → Bool
  | [] => true
  | o :: l => bif plainOp o.op then plainOps l else false
def plainC : Code → Bool
  | .skip => true
  | .region _ ops false => plainOps ops.toList
  | .seq x y => bif plainC x then plainC y else false
  | _ => false
theorem stepV_plain {E : Env} {call : FuncId → List Value → Hp → Nat → Option Out} {ev : Operand → Option Value} {h : Hp} {nx : Nat} {op : Op} {v : Value} {h' : Hp} {nx' : Nat} {d : List Nat} (hp : plainOp op = true) (hs : stepV E call ev h nx op = some (v, h', nx', d)) : h' = h ∧ nx' = nx ∧ d = [] := by
  cases op <;> simp only [plainOp, Bool.false_eq_true] at hp <;> simp only [stepV, calleeV, yieldV, ndV, cond_true, opV] at hs <;> split at hs <;> first | (simp only [Option.some.injEq, Prod.mk.injEq] at hs; exact ⟨hs.2.1.symm, hs.2.2.1.symm, hs.2.2.2.symm⟩) | (simp only [newV] at hs; cases hs)
theorem seqV_plain {E : Env} {call : FuncId → List Value → Hp → Nat → Option Out} {ops : Array Oper} : ∀ (l : List Oper) (ts : Tm) (h : Hp) (nx : Nat) (ts' : Tm) (h' : Hp) (nx' : Nat) (d : List Nat), plainOps l = true → seqV E call ops l ts h nx = some (ts', h', nx', d) → h' = h ∧ nx' = nx ∧ d = [] ∧ ts'.n = ts.n
  | [], ts, h, nx, ts', h', nx', d, _, hs => by
      simp only [seqV, Option.some.injEq, Prod.mk.injEq] at hs
      obtain ⟨rfl, rfl, rfl, rfl⟩ := hs
      exact ⟨rfl, rfl, rfl, rfl⟩
  | o :: l, ts, h, nx, ts', h', nx', d, hp, hs => by
      simp only [plainOps] at hp
      rcases bif_or hp with ⟨hp1, hp2⟩ | ⟨_, hp2⟩
      case inr => cases hp2
      have hn : ∀ (dst : Option Tmp) (v : Value), (putV ts dst v).n = ts.n := by
        intro dst v
        cases dst with
        | none => rfl
        | some k => simp only [putV, tput]; cases Nat.blt k ts.n <;> rfl
      simp only [seqV] at hs
      split at hs
      · split at hs
        · rename_i v h1 nx1 d1 hst
          obtain ⟨rfl, rfl, rfl⟩ := stepV_plain hp1 hst
          split at hs
          · rename_i ts2 h2 nx2 d2 hr
            obtain ⟨e1, e2, e3, e4⟩ := seqV_plain l _ _ _ _ _ _ _ hp2 hr
            simp only [Option.some.injEq, Prod.mk.injEq] at hs
            obtain ⟨rfl, rfl, rfl, rfl⟩ := hs
            exact ⟨e1, e2, by rw [e3]; rfl, by rw [e4, hn]⟩
          · cases hs
        · cases hs
      · obtain ⟨e1, e2, e3, e4⟩ := seqV_plain l _ _ _ _ _ _ _ hp2 hs
        exact ⟨e1, e2, e3, by rw [e4, hn]⟩
      · cases hs
theorem codeV_plain {E : Env} {call : FuncId → List Value → Hp → Nat → Option Out} {inr : Bool} : ∀ (k : Nat) (c : Code) (ts : Tm) (h : Hp) (nx : Nat) (x : Xt) (ts' : Tm) (h' : Hp) (nx' : Nat) (d ms : List Nat), plainC c = true → codeV E call inr k c ts h nx = some (x, ts', h', nx', d, ms) → x = .normal ∧ h' = h ∧ nx' = nx ∧ d = [] ∧ ms = [] ∧ ts'.n = ts.n
  | 0, c, ts, h, nx, x, ts', h', nx', d, ms, hp, hs => by simp [codeV] at hs
  | k + 1, c, ts, h, nx, x, ts', h', nx', d, ms, hp, hs => by
      cases c with
      | skip =>
        simp only [codeV, Option.some.injEq, Prod.mk.injEq] at hs
        obtain ⟨rfl, rfl, rfl, rfl, rfl, rfl⟩ := hs
        exact ⟨rfl, rfl, rfl, rfl, rfl, rfl⟩
      | region i ops draw =>
        cases draw with
        | true => simp [plainC] at hp
        | false =>
          simp only [plainC] at hp
          simp only [codeV, cond_false] at hs
          unfold nrm at hs
          split at hs
          · rename_i ts2 h2 nx2 d2 hr
            simp only [Option.some.injEq, Prod.mk.injEq] at hs
            obtain ⟨rfl, rfl, rfl, rfl, rfl, rfl⟩ := hs
            obtain ⟨e1, e2, e3, e4⟩ := seqV_plain _ _ _ _ _ _ _ _ hp hr
            exact ⟨rfl, e1, e2, e3, rfl, e4⟩
          · cases hs
      | seq y z =>
        simp only [plainC] at hp
        rcases bif_or hp with ⟨hp1, hp2⟩ | ⟨_, hp2⟩
        case inr => cases hp2
        simp only [codeV] at hs
        split at hs
        · rename_i ts2 h2 nx2 d2 ms2 hr
          obtain ⟨_, rfl, rfl, rfl, rfl, e6⟩ := codeV_plain k y _ _ _ _ _ _ _ _ _ hp1 hr
          unfold addD at hs
          split at hs
          · rename_i x3 ts3 h3 nx3 e3 ns3 hr3
            simp only [Option.some.injEq, Prod.mk.injEq] at hs
            obtain ⟨rfl, rfl, rfl, rfl, rfl, rfl⟩ := hs
            obtain ⟨e1, e2, e3', e4, e5, e7⟩ := codeV_plain k z _ _ _ _ _ _ _ _ _ hp2 hr3
            exact ⟨e1, e2, e3', by rw [e4]; rfl, by rw [e5]; rfl, by rw [e7, e6]⟩
          · cases hs
        · rename_i hno
          obtain ⟨rfl, _⟩ := codeV_plain k y _ _ _ _ _ _ _ _ _ hp1 hs
          exact (hno _ _ _ _ _ hs).elim
      | _ => simp [plainC] at hp
def dstsO : List Oper → List Nat
  | [] => []
  | o :: l => match o.dst with
    | some d => d :: dstsO l
    | none => dstsO l
def dstsC : Code → List Nat
  | .region _ ops _ => dstsO ops.toList
  | .seq x y => dstsC x ++ dstsC y
  | _ => []
theorem putV_keep {ts : Tm} (hb : ts.n ≤ 60000) {dst : Option Tmp} {v : Value} {k : Nat} (h : ∀ d, dst = some d → d ≠ k) : tg (putV ts dst v) k = tg ts k ∧ (putV ts dst v).n = ts.n := by
  cases dst with
  | none => exact ⟨rfl, rfl⟩
  | some d =>
    refine ⟨?_, ?_⟩
    · show tg (tput ts d v) k = _
      rw [tg_put hb, if_neg (fun e => h d rfl e.1)]
    · simp only [putV, tput]; cases Nat.blt d ts.n <;> rfl
theorem seqV_keep {E : Env} {call : FuncId → List Value → Hp → Nat → Option Out} {ops : Array Oper} {k : Nat} : ∀ (l : List Oper) (ts : Tm) (h : Hp) (nx : Nat) (r : St4), ts.n ≤ 60000 → k ∉ dstsO l → seqV E call ops l ts h nx = some r → tg r.1 k = tg ts k ∧ r.1.n = ts.n
  | [], ts, h, nx, r, _, _, hs => by
      simp only [seqV, Option.some.injEq] at hs
      subst hs
      exact ⟨rfl, rfl⟩
  | o :: l, ts, h, nx, r, hb, hk, hs => by
      have hk1 : ∀ d, o.dst = some d → d ≠ k := fun d e hd => by
        subst hd; simp only [dstsO, e, List.mem_cons, true_or, not_true] at hk
      have hk2 : k ∉ dstsO l := by
        simp only [dstsO] at hk
        split at hk
        · simp only [List.mem_cons, not_or] at hk; exact hk.2
        · exact hk
      simp only [seqV] at hs
      split at hs
      · split at hs
        · rename_i v h1 nx1 d1 hst
          split at hs
          · rename_i ts2 h2 nx2 d2 hr
            obtain ⟨p1, p2⟩ := putV_keep hb (v := v) hk1
            obtain ⟨e1, e2⟩ := seqV_keep l _ _ _ _ (by rw [p2]; exact hb) hk2 hr
            simp only [Option.some.injEq] at hs
            subst hs
            exact ⟨e1.trans p1, e2.trans p2⟩
          · cases hs
        · cases hs
      · obtain ⟨p1, p2⟩ := putV_keep hb (v := undef) hk1
        obtain ⟨e1, e2⟩ := seqV_keep l _ _ _ _ (by rw [p2]; exact hb) hk2 hs
        exact ⟨e1.trans p1, e2.trans p2⟩
      · cases hs
theorem codeV_keep {E : Env} {call : FuncId → List Value → Hp → Nat → Option Out} {inr : Bool} {j : Nat} : ∀ (k : Nat) (c : Code) (ts : Tm) (h : Hp) (nx : Nat) (r : St5), plainC c = true → ts.n ≤ 60000 → j ∉ dstsC c → codeV E call inr k c ts h nx = some r → tg r.2.1 j = tg ts j ∧ r.2.1.n = ts.n
  | 0, c, ts, h, nx, r, hp, _, _, hs => by simp [codeV] at hs
  | k + 1, c, ts, h, nx, r, hp, hb, hj, hs => by
      cases c with
      | skip =>
        simp only [codeV, Option.some.injEq] at hs
        subst hs
        exact ⟨rfl, rfl⟩
      | region i ops draw =>
        cases draw with
        | true => simp [plainC] at hp
        | false =>
          simp only [codeV, cond_false] at hs
          unfold nrm at hs
          split at hs
          · rename_i ts2 h2 nx2 d2 hr
            simp only [Option.some.injEq] at hs
            subst hs
            exact seqV_keep _ _ _ _ _ hb hj hr
          · cases hs
      | seq y z =>
        simp only [plainC] at hp
        rcases bif_or hp with ⟨hp1, hp2⟩ | ⟨_, hp2⟩
        case inr => cases hp2
        simp only [dstsC, List.mem_append, not_or] at hj
        simp only [codeV] at hs
        split at hs
        · rename_i ts2 h2 nx2 d2 ms2 hr
          obtain ⟨a1, a2⟩ := codeV_keep k y _ _ _ _ hp1 hb hj.1 hr
          unfold addD at hs
          split at hs
          · rename_i x3 ts3 h3 nx3 e3 ns3 hr3
            simp only [Option.some.injEq] at hs
            subst hs
            obtain ⟨b1, b2⟩ := codeV_keep k z _ _ _ _ hp2 (by simp only at a2; omega) hj.2 hr3
            exact ⟨b1.trans a1, b2.trans a2⟩
          · cases hs
        · rename_i hno
          obtain ⟨x, t2, h2, nx2, d2, ms2⟩ := r
          obtain ⟨rfl, _⟩ := codeV_plain k y _ _ _ _ _ _ _ _ _ hp1 hs
          exact (hno _ _ _ _ _ hs).elim
      | _ => simp [plainC] at hp
def condT (T : FuncId → List Value → Hp → Nat → Option (Out × Bool)) : FuncId → List Value → Hp → Nat → Option Out := fun f args h nx => match T f args h nx with
  | some (o, c) => bif c then some o else none
  | none => none
def condX (X : FuncId → List Value → Hp → Option (Value × Bool)) : FuncId → List Value → Hp → Option Value := fun f args h => match X f args h with
  | some (o, c) => bif c then some o else none
  | none => none
def Ov.env (V : Ov) (P : Program) : Env := ⟨P, condX V.X, condT V.T⟩
abbrev CallO := FuncId → List Value → Hp → Nat → List Bool → Option (Out × List Bool × Ob)
def RefC (call : FuncId → List Value → Hp → Nat → Option Out) (callO : CallO) : Prop := ∀ f args h nx tp out tp' ob, callO f args h nx tp = some (out, tp', ob) → Obs ob → call f args h nx = some out
def stepO (V : Ov) (P : Program) (call : FuncId → List Value → Hp → Nat → Option Out) (callO : CallO) (ev : Operand → Option Value) (h : Hp) (nx : Nat) (op : Op) (tp : List Bool) : Option (Out × List Bool × Ob) :=
  match calleeV ev op with
  | some (g, vs) => match V.X g vs h with
    | some (v, c) => some ((v, h, nx, []), tp, [(c, true)])
    | none => bif Nat.blt g yBig && entB P g then callO g vs h nx tp else none
  | none => match stepV (V.env P) call ev h nx op with
    | some out => some (out, tp, [])
    | none => none
/-- A slot's test is told when it is worked out. -/
def tellO (tab : List Nat) (dst : Option Tmp) (v : Value) (tp : List Bool) (ob : Ob) : Option (Value × List Bool × Ob) :=
  match dst with
  | some d => bif memN d tab then (match v, tp with
    | .bool b, r :: tp' => some (.bool r, tp', ob ++ [(b, r)])
    | _, _ => none) else some (v, tp, ob)
  | none => some (v, tp, ob)
theorem tellO_ok {tab : List Nat} {dst : Option Tmp} {v v' : Value} {tp tp' : List Bool} {ob ob' : Ob} (h : tellO tab dst v tp ob = some (v', tp', ob')) (hO : Obs ob') : v' = v ∧ Obs ob := by
  unfold tellO at h
  split at h
  · rename_i d
    rcases bif_or h with ⟨_, h1⟩ | ⟨_, h1⟩
    · split at h1
      · rename_i b r tp2
        simp only [Option.some.injEq, Prod.mk.injEq] at h1
        obtain ⟨rfl, rfl, rfl⟩ := h1
        have := hO.right.head
        subst this
        exact ⟨rfl, hO.left⟩
      · cases h1
    · simp only [Option.some.injEq, Prod.mk.injEq] at h1
      obtain ⟨rfl, rfl, rfl⟩ := h1
      exact ⟨rfl, hO⟩
  · simp only [Option.some.injEq, Prod.mk.injEq] at h
    obtain ⟨rfl, rfl, rfl⟩ := h
    exact ⟨rfl, hO⟩
section
variable {V : Ov} {P : Program} {call : FuncId → List Value → Hp → Nat → Option Out} {callO : CallO}
theorem stepO_ok (hC : RefC call callO) {ev : Operand → Option Value} {h : Hp} {nx : Nat} {op : Op} {tp tp' : List Bool} {out : Out} {ob : Ob} (hs : stepO V P call callO ev h nx op tp = some (out, tp', ob)) (hO : Obs ob) : stepV (V.env P) call ev h nx op = some out := by
  unfold stepO at hs
  split at hs
  · rename_i g vs hc
    unfold stepV
    rw [hc]
    simp only
    split at hs
    · rename_i v c hx
      simp only [Option.some.injEq, Prod.mk.injEq] at hs
      obtain ⟨rfl, rfl, rfl⟩ := hs
      have hcc := hO.head
      subst hcc
      have : (V.env P).X g vs h = some v := by show condX V.X g vs h = _; simp only [condX, hx, cond_true]
      rw [this]
    · rename_i hx
      obtain ⟨he, hs⟩ := bif_of hs
      have : (V.env P).X g vs h = none := by show condX V.X g vs h = _; simp only [condX, hx]
      rw [this]
      simp only
      have he' : (Nat.blt g yBig && entB (V.env P).P g) = true := he
      rw [he', cond_true]
      exact hC _ _ _ _ _ _ _ _ hs hO
  · split at hs
    · rename_i out' ho
      simp only [Option.some.injEq, Prod.mk.injEq] at hs
      rw [ho, hs.1]
    · cases hs
def seqO (V : Ov) (P : Program) (call : FuncId → List Value → Hp → Nat → Option Out) (callO : CallO) (tab : List Nat) (ops : Array Oper) : List Oper → Tm → Hp → Nat → List Bool → Option (St4 × List Bool × Ob)
  | [], ts, h, nx, tp => some ((ts, h, nx, []), tp, [])
  | o :: rest, ts, h, nx, tp => match wantV ops ts o with
    | some true => match stepO V P call callO (evA ts) h nx o.op tp with
      | some ((v0, h', nx', d), tp0, ob0) => match tellO tab o.dst v0 tp0 ob0 with
        | some (v, tp2, ob2) => match seqO V P call callO tab ops rest (putV ts o.dst v) h' nx' tp2 with
          | some ((ts2, h2, nx2, d2), tp3, ob3) => some ((ts2, h2, nx2, d2 ++ d), tp3, ob2 ++ ob3)
          | none => none
        | none => none
      | none => none
    | some false => seqO V P call callO tab ops rest (putV ts o.dst undef) h nx tp
    | none => none
theorem seqO_ok (hC : RefC call callO) {tab : List Nat} {ops : Array Oper} : ∀ (l : List Oper) (ts : Tm) (h : Hp) (nx : Nat) (tp tp' : List Bool) (r : St4) (ob : Ob), seqO V P call callO tab ops l ts h nx tp = some (r, tp', ob) → Obs ob → seqV (V.env P) call ops l ts h nx = some r
  | [], ts, h, nx, tp, tp', r, ob, hs, hO => by
      simp only [seqO, Option.some.injEq, Prod.mk.injEq] at hs
      simp only [seqV, hs.1]
  | o :: rest, ts, h, nx, tp, tp', r, ob, hs, hO => by
      simp only [seqO] at hs
      simp only [seqV]
      split at hs
      · rename_i hw
        rw [hw]
        simp only
        split at hs
        · rename_i v0 h' nx' d tp0 ob0 hst
          split at hs
          · rename_i v tp2 ob2 htl
            split at hs
            · rename_i ts2 h2 nx2 d2 tp3 ob3 hr
              simp only [Option.some.injEq, Prod.mk.injEq] at hs
              obtain ⟨rfl, rfl, rfl⟩ := hs
              obtain ⟨rfl, hO0⟩ := tellO_ok htl hO.left
              rw [stepO_ok hC hst hO0]
              simp only
              rw [seqO_ok hC rest _ _ _ _ _ _ _ hr hO.right]
            · cases hs
          · cases hs
        · cases hs
      · rename_i hw
        rw [hw]
        simp only
        exact seqO_ok hC rest _ _ _ _ _ _ _ hs hO
      · cases hs
def recRO (V : Ov) (P : Program) (call : FuncId → List Value → Hp → Nat → Option Out) (callO : CallO) (tab : List Nat) (ops : Array Oper) (o : Oper) (past : List Rec) (an : Msk) (ts : Tm) (nx : Nat) (rh : Hp) (tp : List Bool) : Option (Rec × List Bool × Ob) :=
  match stepO V P call callO (evR (loN ops o) ts) rh nx o.op tp with
  | none => none
  | some ((v0, r', nx', d), tp0, ob0) => match tellO tab o.dst v0 tp0 ob0 with
    | some (v, tp', ob) => frc (loN ops o) fun lo => frc (rh.map (·.1)) fun rd => frc (efOld r' d ++ efNew nx r') fun ef => bif chkV an ⟨lo, o.dst, v, nx, nx', rd, ef, an⟩ 0 past then some (⟨lo, o.dst, v, nx, nx', rd, ef, an⟩, tp', ob) else none
    | none => none
def recO (V : Ov) (P : Program) (call : FuncId → List Value → Hp → Nat → Option Out) (callO : CallO) (tab : List Nat) (ops : Array Oper) (o : Oper) (past : List Rec) (ts : Tm) (h : Hp) (nx : Nat) (tp : List Bool) : Option (Rec × List Bool × Ob) :=
  match ancV past o.after.toList with
  | none => none
  | some an => match wantV ops ts o with
    | none => none
    | some false => frc (loN ops o) fun lo => bif chkV an ⟨lo, o.dst, undef, nx, nx, [], [], an⟩ 0 past then some (⟨lo, o.dst, undef, nx, nx, [], [], an⟩, tp, []) else none
    | some true => bif bigOp o.op then recRO V P call callO tab ops o past an ts nx (dropH (tchUn an 0 past) h) tp else recRO V P call callO tab ops o past an ts nx (pickH h (rdsV (evR (loN ops o) ts) o.op)) tp
theorem recRO_ok (hC : RefC call callO) {tab : List Nat} {ops : Array Oper} {o : Oper} {past : List Rec} {an : Msk} {ts : Tm} {nx : Nat} {rh : Hp} {tp tp' : List Bool} {r : Rec} {ob : Ob} (hs : recRO V P call callO tab ops o past an ts nx rh tp = some (r, tp', ob)) (hO : Obs ob) : recR (V.env P) call ops o past an ts nx rh = some r := by
  unfold recRO at hs
  unfold recR
  split at hs
  · cases hs
  · rename_i v0 r' nx' d tp0 ob0 hst
    split at hs
    · rename_i v tp2 ob2 htl
      simp only [frc_eq] at hs
      obtain ⟨hb, hs1⟩ := bif_of hs
      simp only [Option.some.injEq, Prod.mk.injEq] at hs1
      obtain ⟨rfl, rfl, rfl⟩ := hs1
      obtain ⟨rfl, hO0⟩ := tellO_ok htl hO
      rw [stepO_ok hC hst hO0]
      simp only [frc_eq, hb, cond_true]
    · cases hs
theorem recO_ok (hC : RefC call callO) {tab : List Nat} {ops : Array Oper} {o : Oper} {past : List Rec} {ts : Tm} {h : Hp} {nx : Nat} {tp tp' : List Bool} {r : Rec} {ob : Ob} (hs : recO V P call callO tab ops o past ts h nx tp = some (r, tp', ob)) (hO : Obs ob) : recV (V.env P) call ops o past ts h nx = some r := by
  unfold recO at hs
  unfold recV
  split at hs
  · cases hs
  · rename_i an ha
    rw [ha]
    simp only
    split at hs
    · cases hs
    · rename_i hw
      simp only [frc_eq] at hs
      obtain ⟨hb, hs1⟩ := bif_of hs
      simp only [Option.some.injEq, Prod.mk.injEq] at hs1
      obtain ⟨rfl, rfl, rfl⟩ := hs1
      rw [hw]
      simp only [frc_eq, hb, cond_true]
    · rename_i hw
      rw [hw]
      simp only
      rcases bif_or hs with ⟨hb, hr⟩ | ⟨hb, hr⟩
      · rw [hb, cond_true]; exact recRO_ok hC hr hO
      · rw [hb, cond_false]; exact recRO_ok hC hr hO
def drawGoO (V : Ov) (P : Program) (call : FuncId → List Value → Hp → Nat → Option Out) (callO : CallO) (tab : List Nat) (ops : Array Oper) : List Oper → List Rec → Tm → Hp → Nat → List Bool → Option ((List Rec × Tm × Hp × Nat) × List Bool × Ob)
  | [], past, ts, h, nx, tp => some ((past, ts, h, nx), tp, [])
  | o :: rest, past, ts, h, nx, tp => match recO V P call callO tab ops o past ts h nx tp with
    | some (r, tp1, ob1) => frc (past ++ [r]) fun past => frc (appE h r.ef) fun h => match drawGoO V P call callO tab ops rest past (putV ts r.dst r.val) h r.nx' tp1 with
      | some (x, tp2, ob2) => some (x, tp2, ob1 ++ ob2)
      | none => none
    | none => none
theorem drawGoO_ok (hC : RefC call callO) {tab : List Nat} {ops : Array Oper} : ∀ (l : List Oper) (past : List Rec) (ts : Tm) (h : Hp) (nx : Nat) (tp tp' : List Bool) (r : List Rec × Tm × Hp × Nat) (ob : Ob), drawGoO V P call callO tab ops l past ts h nx tp = some (r, tp', ob) → Obs ob → drawGo (V.env P) call ops l past ts h nx = some r
  | [], past, ts, h, nx, tp, tp', r, ob, hs, hO => by
      simp only [drawGoO, Option.some.injEq, Prod.mk.injEq] at hs
      simp only [drawGo, hs.1]
  | o :: rest, past, ts, h, nx, tp, tp', r, ob, hs, hO => by
      simp only [drawGoO, frc_eq] at hs
      simp only [drawGo, frc_eq]
      split at hs
      · rename_i r1 tp1 ob1 hr
        split at hs
        · rename_i x tp2 ob2 hx
          simp only [Option.some.injEq, Prod.mk.injEq] at hs
          obtain ⟨rfl, rfl, rfl⟩ := hs
          rw [recO_ok hC hr hO.left]
          simp only
          exact drawGoO_ok hC rest _ _ _ _ _ _ _ _ hx hO.right
        · cases hs
      · cases hs
def drawO (V : Ov) (P : Program) (call : FuncId → List Value → Hp → Nat → Option Out) (callO : CallO) (tab : List Nat) (ops : Array Oper) (ts : Tm) (h : Hp) (nx : Nat) (tp : List Bool) : Option (St4 × List Bool × Ob) :=
  match drawGoO V P call callO tab ops ops.toList [] ts h nx tp with
  | some ((recs, ts', h', nx'), tp', ob) => some ((ts', h', nx', dirtyV nx recs), tp', ob)
  | none => none
theorem drawO_ok (hC : RefC call callO) {tab : List Nat} {ops : Array Oper} {ts : Tm} {h : Hp} {nx : Nat} {tp tp' : List Bool} {r : St4} {ob : Ob} (hs : drawO V P call callO tab ops ts h nx tp = some (r, tp', ob)) (hO : Obs ob) : drawV (V.env P) call ops ts h nx = some r := by
  unfold drawO at hs
  unfold drawV
  split at hs
  · rename_i recs ts' h' nx' tp2 ob2 hg
    simp only [Option.some.injEq, Prod.mk.injEq] at hs
    obtain ⟨rfl, rfl, rfl⟩ := hs
    rw [drawGoO_ok hC _ _ _ _ _ _ _ _ _ hg hO]
  · cases hs
def nrmO : Option (St4 × List Bool × Ob) → Option (St5 × List Bool × Ob)
  | some ((ts, h, nx, d), tp, ob) => some ((.normal, ts, h, nx, d, []), tp, ob)
  | none => none
def addO (d ms : List Nat) (ob0 : Ob) : Option (St5 × List Bool × Ob) → Option (St5 × List Bool × Ob)
  | some ((x, ts, h, nx, e, ns), tp, ob) => some ((x, ts, h, nx, e ++ d, ns ++ ms), tp, ob0 ++ ob)
  | none => none
def unBO (id : Nat) : Option (St5 × List Bool × Ob) → Option (St5 × List Bool × Ob)
  | some ((.exit i, ts, h, nx, d, ms), tp, ob) => bif Nat.beq i id then some ((.normal, ts, h, nx, d, ms), tp, ob) else some ((.exit i, ts, h, nx, d, ms), tp, ob)
  | r => r
def opTmp : Operand → Option Nat
  | .tmp t => some t
  | _ => none
def toldB (tab : List Nat) (c : Operand) : Bool := match opTmp c with | some t => memN t tab | none => false
def codeO (V : Ov) (P : Program) (call : FuncId → List Value → Hp → Nat → Option Out) (callO : CallO) (tab mg : List Nat) (inr : Bool) : Nat → Code → Tm → Hp → Nat → List Bool → Option (St5 × List Bool × Ob)
  | 0, _, _, _, _, _ => none
  | k + 1, c, ts, h, nx, tp => match c with
    | .region _ ops draw => bif draw then nrmO (drawO V P call callO tab ops ts h nx tp) else nrmO (seqO V P call callO tab ops ops.toList ts h nx tp)
    | .seq x y => match codeO V P call callO tab mg inr k x ts h nx tp with
      | some ((.normal, ts, h, nx, d, ms), tp, ob) => addO d ms ob (codeO V P call callO tab mg inr k y ts h nx tp)
      | r => r
    | .cond c x y => match evA ts c with
      | some (.bool b) => bif toldB mg c then (bif plainC x && plainC y && Nat.ble ts.n 60000 then (match codeV (V.env P) call inr k x ts h nx, codeV (V.env P) call inr k y ts h nx with
          | some (_, t1, _), some (_, t2, _) => match mgT b (fun d => memN d (dstsC x ++ dstsC y)) 1 0 t1.t t2.t with
            | some t => some ((.normal, ⟨ts.n, t⟩, h, nx, [], []), tp, [])
            | none => none
          | _, _ => none) else none) else bif b then codeO V P call callO tab mg inr k x ts h nx tp else codeO V P call callO tab mg inr k y ts h nx tp
      | _ => none
    | .block id x => unBO id (codeO V P call callO tab mg inr k x ts h nx tp)
    | .scope x => codeO V P call callO tab mg inr k x ts h nx tp
    | .loop x => match codeO V P call callO tab mg inr k x ts h nx tp with
      | some ((.normal, ts, h, nx, d, ms), tp, ob) => addO d ms ob (codeO V P call callO tab mg inr k (.loop x) ts h nx tp)
      | r => r
    | c => match codeV (V.env P) call inr (k + 1) c ts h nx with
      | some r => some (r, tp, [])
      | none => none
theorem codeO_ok (hC : RefC call callO) {tab mg : List Nat} {inr : Bool} : ∀ (k : Nat) (c : Code) (ts : Tm) (h : Hp) (nx : Nat) (tp tp' : List Bool) (r : St5) (ob : Ob), codeO V P call callO tab mg inr k c ts h nx tp = some (r, tp', ob) → Obs ob → codeV (V.env P) call inr k c ts h nx = some r := by
  intro k
  induction k with
  | zero => intro c ts h nx tp tp' r ob hs; simp [codeO] at hs
  | succ k ih =>
    intro c ts h nx tp tp' r ob hs hO
    cases c with
    | region i ops draw =>
      simp only [codeO] at hs
      simp only [codeV]
      rcases bif_or hs with ⟨hb, hs⟩ | ⟨hb, hs⟩
      · rw [hb, cond_true]
        unfold nrmO at hs
        split at hs
        · rename_i ts2 h2 nx2 d2 tp2 ob2 hg
          simp only [Option.some.injEq, Prod.mk.injEq] at hs
          obtain ⟨rfl, rfl, rfl⟩ := hs
          rw [drawO_ok hC hg hO]; rfl
        · cases hs
      · rw [hb, cond_false]
        unfold nrmO at hs
        split at hs
        · rename_i ts2 h2 nx2 d2 tp2 ob2 hg
          simp only [Option.some.injEq, Prod.mk.injEq] at hs
          obtain ⟨rfl, rfl, rfl⟩ := hs
          rw [seqO_ok hC _ _ _ _ _ _ _ _ hg hO]; rfl
        · cases hs
    | seq x y =>
      simp only [codeO] at hs
      simp only [codeV]
      split at hs
      · rename_i ts2 h2 nx2 d2 ms2 tp2 ob2 hg
        unfold addO at hs
        split at hs
        · rename_i x3 ts3 h3 nx3 e3 ns3 tp3 ob3 hg3
          simp only [Option.some.injEq, Prod.mk.injEq] at hs
          obtain ⟨rfl, rfl, rfl⟩ := hs
          rw [ih _ _ _ _ _ _ _ _ hg hO.left]
          simp only
          rw [ih _ _ _ _ _ _ _ _ hg3 hO.right]; rfl
        · cases hs
      · rename_i hno
        obtain ⟨x2, ts2, h2, nx2, d2, ms2⟩ := r
        have e := ih _ _ _ _ _ _ _ _ hs hO
        rw [e]
        cases x2 with
        | normal => exact (hno _ _ _ _ _ _ _ hs).elim
        | exit i => rfl
        | ret => rfl
    | cond c x y =>
      simp only [codeO] at hs
      simp only [codeV]
      split at hs
      · rename_i b hb
        rw [hb]
        simp only
        rcases bif_or hs with ⟨hm, hs⟩ | ⟨hm, hs⟩
        · obtain ⟨hp, hs⟩ := bif_of hs
          simp only [Bool.and_eq_true, Nat.ble_eq] at hp
          obtain ⟨hp, hb6⟩ := hp
          split at hs
          · rename_i x1 t1 r1 x2 t2 r2 hx hy
            have hag : ∀ d, memN d (dstsC x ++ dstsC y) = false → tg t1 d = tg t2 d := fun d hd => by
              have hd' : d ∉ dstsC x ++ dstsC y := fun hm => by rw [memN_iff.2 hm] at hd; cases hd
              simp only [List.mem_append, not_or] at hd'
              exact (codeV_keep k x _ _ _ _ hp.1 hb6 hd'.1 hx).1.trans (codeV_keep k y _ _ _ _ hp.2 hb6 hd'.2 hy).1.symm
            obtain ⟨h1, nx1, d1, ms1⟩ := r1
            obtain ⟨h2, nx2, d2, ms2⟩ := r2
            obtain ⟨rfl, rfl, rfl, rfl, rfl, e1⟩ := codeV_plain k x _ _ _ _ _ _ _ _ _ hp.1 hx
            obtain ⟨rfl, e3, e4, e5, e6, e2⟩ := codeV_plain k y _ _ _ _ _ _ _ _ _ hp.2 hy
            split at hs
            · rename_i t ht
              simp only [Option.some.injEq, Prod.mk.injEq] at hs
              obtain ⟨rfl, rfl, rfl⟩ := hs
              cases b with
              | true =>
                rw [cond_true, hx, mgT_t _ _ _ _ _ ht, ← e1]
              | false =>
                rw [cond_false, hy, mgT_f _ _ _ _ _ (fun d hd => hag d (by simpa using hd)) ht, ← e2, e3, e4, e5, e6]
            · cases hs
          · cases hs
        rcases bif_or hs with ⟨h2, hg⟩ | ⟨h2, hg⟩
        · rw [h2, cond_true]; exact ih _ _ _ _ _ _ _ _ hg hO
        · rw [h2, cond_false]; exact ih _ _ _ _ _ _ _ _ hg hO
      · cases hs
    | block id x =>
      simp only [codeO] at hs
      simp only [codeV]
      unfold unBO at hs
      split at hs
      · rename_i i ts2 h2 nx2 d2 ms2 tp2 ob2 hg
        rcases bif_or hs with ⟨h3, hs⟩ | ⟨h3, hs⟩
        · simp only [Option.some.injEq, Prod.mk.injEq] at hs
          obtain ⟨rfl, rfl, rfl⟩ := hs
          rw [ih _ _ _ _ _ _ _ _ hg hO]
          simp only [unB, h3, cond_true]
        · simp only [Option.some.injEq, Prod.mk.injEq] at hs
          obtain ⟨rfl, rfl, rfl⟩ := hs
          rw [ih _ _ _ _ _ _ _ _ hg hO]
          simp only [unB, h3, cond_false]
      · rename_i hno
        obtain ⟨x2, ts2, h2, nx2, d2, ms2⟩ := r
        rw [ih _ _ _ _ _ _ _ _ hs hO]
        cases x2 with
        | normal => rfl
        | exit i => exact (hno _ _ _ _ _ _ _ _ hs).elim
        | ret => rfl
    | scope x =>
      simp only [codeO] at hs
      simp only [codeV]
      exact ih _ _ _ _ _ _ _ _ hs hO
    | loop x =>
      simp only [codeO] at hs
      simp only [codeV]
      split at hs
      · rename_i ts2 h2 nx2 d2 ms2 tp2 ob2 hg
        unfold addO at hs
        split at hs
        · rename_i x3 ts3 h3 nx3 e3 ns3 tp3 ob3 hg3
          simp only [Option.some.injEq, Prod.mk.injEq] at hs
          obtain ⟨rfl, rfl, rfl⟩ := hs
          rw [ih _ _ _ _ _ _ _ _ hg hO.left]
          simp only
          rw [ih _ _ _ _ _ _ _ _ hg3 hO.right]; rfl
        · cases hs
      · rename_i hno
        obtain ⟨x2, ts2, h2, nx2, d2, ms2⟩ := r
        have e := ih _ _ _ _ _ _ _ _ hs hO
        rw [e]
        cases x2 with
        | normal => exact (hno _ _ _ _ _ _ _ hs).elim
        | exit i => rfl
        | ret => rfl
    | _ =>
      simp only [codeO] at hs
      split at hs
      · rename_i r2 hr
        simp only [Option.some.injEq, Prod.mk.injEq] at hs
        obtain ⟨rfl, rfl, rfl⟩ := hs
        exact hr
      · cases hs
end
def callT (V : Ov) (P : Program) (k : Nat) : CallO := fun f args h nx tp => bif Nat.ble yBig f then none else match V.T f args h nx with
  | some (r, c) => some (r, tp, [(c, true)])
  | none => match runF (V.env P) k f args h nx with
    | some r => some (r, tp, [])
    | none => none
theorem callT_ok {V : Ov} {P : Program} : ∀ k, RefC (runF (V.env P) (k + 1)) (callT V P (k + 1)) := fun k f args h nx tp out tp' ob hs hO => by
  unfold callT at hs
  rcases bif_or hs with ⟨_, hs⟩ | ⟨hy, hs⟩
  · cases hs
  split at hs
  · rename_i r c ht
    simp only [Option.some.injEq, Prod.mk.injEq] at hs
    obtain ⟨rfl, rfl, rfl⟩ := hs
    have hcc := hO.head
    subst hcc
    simp only [runF, hy, cond_false]
    have : (V.env P).T f args h nx = some r := by show condT V.T f args h nx = _; simp only [condT, ht, cond_true]
    rw [this]
  · split at hs
    · rename_i r hr
      simp only [Option.some.injEq, Prod.mk.injEq] at hs
      rw [hr, hs.1]
    · cases hs
def tfull (args : List Value) (n d : Nat) : Tm := tini args 0 ⟨n, trU d⟩
theorem tfull_ok {σ : Sg} {args us : List Value} {n d : Nat} (h : renL σ args = some us) (hn : n ≤ 60000) (hl : args.length ≤ n) : RT σ (tfull args n d) (us.toArray ++ Array.replicate (n - us.length) undef) := tini_full d h hn hl
/-- A run of one function, its tests told (slots 'tab'), ways met again (slots 'mg'). -/
def runO (V : Ov) (P : Program) (k : Nat) (tab mg : List Nat) (dp : Nat) (f : FuncId) (args : List Value) (h : Hp) (nx : Nat) (tp : List Bool) : Option (Out × Ob) :=
  match P.funcs[f]? with
  | none => none
  | some fn => match fn.body with
    | none => none
    | some c => bif Nat.ble fn.ntmps 60000 && Nat.ble args.length fn.ntmps then (match codeO V P (runF (V.env P) (k + 1)) (callT V P (k + 1)) tab mg false 100000 c (tfull args fn.ntmps dp) h nx tp with
      | some ((.exit _, _), _, _) => none
      | some ((_, ts, h', nx', d, ms), _, ob) => match dropM ms h' with
        | some h'' => match resVL P ts h'' fn.results.toList with
          | some vs => some (leave h nx vs h'' nx' (ms ++ d), ob)
          | none => none
        | none => none
      | none => none) else none
theorem runO_ok {V : Ov} {P : Program} (hX : XOk (V.env P)) (hT : TOk (V.env P)) (hm : P.follows .mixedOrders = true) {k : Nat} {tab mg : List Nat} {dp : Nat} {f : FuncId} {args : List Value} {h : Hp} {nx : Nat} {tp : List Bool} {out : Out} {ob : Ob}
    (hs : runO V P k tab mg dp f args h nx tp = some (out, ob)) (hO : Obs ob) : Tri P f args h nx out := by
  have ih := runF_ok hX hT hm (k + 1)
  unfold runO at hs
  split at hs
  · cases hs
  · rename_i fn hf
    split at hs
    · cases hs
    · rename_i c hc
      obtain ⟨hg, hs⟩ := bif_of hs
      simp only [Bool.and_eq_true, Nat.ble_eq] at hg
      split at hs
      · cases hs
      · rename_i x ts h' nx' d ms tp2 ob2 hno hrun
        split at hs
        case h_2 => cases hs
        rename_i h2 hdm
        split at hs
        · rename_i vs hvs
          simp only [Option.some.injEq, Prod.mk.injEq] at hs
          obtain ⟨rfl, rfl⟩ := hs
          have hcode := codeO_ok (callT_ok k) _ _ _ _ _ _ _ _ _ hrun hO
          obtain ⟨t1, s1⟩ := (codeV_ok hX ih hm 100000).1 _ _ _ _ _ hcode
          simp only at t1 s1
          obtain ⟨q1, q2⟩ := dropM_tidy (nx := nx) hdm
          refine tri_leave ⟨⟨t1.1, fun n hn hd => ?_, fun hB n hn => q1 n (t1.2.2 hB n hn)⟩, fun hB W σ w args' hR hfr ha => ?_⟩
          · simp only [List.mem_append, not_or] at hd
            rw [q2 n hd.1]; exact t1.2.1 n hn hd.2
          refine callsIn_wide.1 (callsIn_of_wp_marks (n := 0) hf hc trivial ?_)
          refine s1 hB W σ w _ hR hfr (by simpa using tfull_ok (d := dp) ha hg.1 hg.2) [] rfl Fence.wide 0 wide_wide (fun _ => rfl) _ fun σ' w' a' es S ht hes hd => ?_
          have key : LeavesInM Fence.wide 0 P fn a'.tmps (fun e w' => ∃ σ' v', Stp W nx nx' σ h w σ' h2 w' ∧ renV σ' (one? vs) = some v' ∧ e = .returned v') a'.defers .returning w' := by
            rw [hd, List.append_nil]
            refine leaves_marks nx' hdm hes S.rl fun w2 S2 => ?_
            obtain ⟨v', e1, e2⟩ := results_run (P := P) S2.rl ht hvs
            exact ⟨v', e2, σ', v', S.trans S2 t1.1 (Nat.le_refl _), e1, rfl⟩
          cases x with
          | normal => exact key
          | ret => exact key
          | exit i => exact (hno _ rfl).elim
        · cases hs
      · cases hs
def valO (V : Ov) (P : Program) (k : Nat) (tab mg : List Nat) (dp : Nat) (f : FuncId) (args : List Value) (tp : List Bool) : Option (Value × Ob) := match runO V P k tab mg dp f args [] 0 tp with | some ((v, _), ob) => some (v, ob) | none => none
theorem closedO {V : Ov} {P : Program} (hX : XOk (V.env P)) (hT : TOk (V.env P)) (hm : P.follows .mixedOrders = true) (k : Nat) (tab mg : List Nat) (dp : Nat) (f : FuncId) (args : List Value) (tp : List Bool) (v : Value) (ob : Ob) (ha : renL sg0 args = some args) (h : valO V P k tab mg dp f args tp = some (v, ob)) (hO : Obs ob) (hv : ∀ σ, renV σ v = some v) (W : World) :
    Calls P f args.toArray W fun e w' => e = .returned v ∧ Ext W w' := by
  unfold valO at h
  split at h
  · rename_i v' r ob' hr
    cases h
    obtain ⟨h', nx', d⟩ := r
    have T := runO_ok hX hT hm hr hO
    refine (T.2 (fun n _ => rfl) W sg0 W args (rl0 W) (fun n _ _ => ⟨rfl, rfl⟩) ha).mono fun e w' ⟨σ', u, S, hu, he⟩ => ?_
    rw [hv σ'] at hu
    cases hu
    exact ⟨he, S.rl.ext⟩
  · cases h
/-! ### known functions, one behind the other -/
def TOne (P : Program) (T : FuncId → List Value → Hp → Nat → Option (Out × Bool)) : Prop := ∀ f args h nx out, T f args h nx = some (out, true) → Tri P f args h nx out
def noTo : FuncId → List Value → Hp → Nat → Option (Out × Bool) := fun _ _ _ _ => none
theorem noTo_ok {P : Program} : TOne P noTo := fun _ _ _ _ _ h => by cases h
def orT (S T : FuncId → List Value → Hp → Nat → Option (Out × Bool)) : FuncId → List Value → Hp → Nat → Option (Out × Bool) := fun f args h nx => match S f args h nx with | some r => some r | none => T f args h nx
theorem orT_ok {P : Program} {S T : FuncId → List Value → Hp → Nat → Option (Out × Bool)} (hS : TOne P S) (hT : TOne P T) : TOne P (orT S T) := fun f args h nx out e => by
  unfold orT at e
  split at e
  · rename_i r hr; cases e; exact hS _ _ _ _ _ hr
  · exact hT _ _ _ _ _ e
theorem condT_ok {V : Ov} {P : Program} (hT : TOne P V.T) : TOk (V.env P) := fun f args h nx out e => by
  replace e : condT V.T f args h nx = some out := e
  unfold condT at e
  split at e
  · rename_i o c ho
    obtain ⟨rfl, e⟩ := bif_of e
    cases e
    exact hT _ _ _ _ _ ho
  · cases e
/-- A function of plain arguments that hands back a plain value. -/
def oneT (f0 : FuncId) (g : List Value → Option (Value × Bool)) : FuncId → List Value → Hp → Nat → Option (Out × Bool) := fun f args h nx => bif Nat.beq f f0 then (match g args with
  | some (v, c) => some ((v, h, nx, []), c)
  | none => none) else none
theorem oneT_ok {P : Program} {f0 : FuncId} {g : List Value → Option (Value × Bool)} (H : ∀ args v, g args = some (v, true) → (∀ σ args', renL σ args = some args' → args' = args) ∧ (∀ σ, renV σ v = some v) ∧ ∀ w, Calls P f0 args.toArray w fun e w' => e = .returned v ∧ Ext w w') : TOne P (oneT f0 g) := fun f args h nx out e => by
  unfold oneT at e
  obtain ⟨hf, e1⟩ := bif_of e
  clear e
  obtain rfl := Nat.eq_of_beq_eq_true hf
  split at e1
  · rename_i v c hg
    simp only [Option.some.injEq, Prod.mk.injEq] at e1
    obtain ⟨rfl, rfl⟩ := e1
    obtain ⟨h1, h2, h3⟩ := H _ _ hg
    exact tri_quiet h1 h2 h3
  · cases e1
/-- Functions of other make, one behind the other. -/
def noXo : FuncId → List Value → Hp → Option (Value × Bool) := fun _ _ _ => none
theorem condX_ok {V : Ov} {P : Program} (h : XOne P (condX V.X)) : XOk (V.env P) := h
theorem noXo_one {P : Program} : XOne P (condX noXo) := fun f args h v e => by simp [condX, noXo] at e
def orXo (g k : FuncId → List Value → Hp → Option (Value × Bool)) : FuncId → List Value → Hp → Option (Value × Bool) := fun f args h => match g f args h with | some v => some v | none => k f args h
theorem orXo_one {P : Program} {g k : FuncId → List Value → Hp → Option (Value × Bool)} (hg : XOne P (condX g)) (hk : XOne P (condX k)) : XOne P (condX (orXo g k)) := by
  intro f args hp v h
  unfold condX orXo at h
  cases hgf : g f args hp with
  | some r =>
    rw [hgf] at h
    exact hg f args hp v (by unfold condX; rw [hgf]; exact h)
  | none =>
    rw [hgf] at h
    exact hk f args hp v (by unfold condX; exact h)
def add64O (f0 : FuncId) (f : FuncId) (args : List Value) (_ : Hp) : Option (Value × Bool) :=
  bif Nat.beq f f0 then (match args with
  | [.int .u64 x, .int .u64 y, .int .u64 c] => some (.tuple #[.int .u64 ((x + y + c) % 18446744073709551616), .int .u64 ((x + y + c) / 18446744073709551616)], decide (0 ≤ x ∧ 0 ≤ y ∧ 0 ≤ c ∧ c ≤ 1))
  | _ => none) else none
def sub64O (f0 : FuncId) (f : FuncId) (args : List Value) (_ : Hp) : Option (Value × Bool) :=
  bif Nat.beq f f0 then (match args with
  | [.int .u64 x, .int .u64 y, .int .u64 c] => some (.tuple #[.int .u64 ((x - y - c) % 18446744073709551616), .int .u64 (if x < y + c then 1 else 0)], decide (0 ≤ x ∧ 0 ≤ y ∧ y < 18446744073709551616 ∧ 0 ≤ c ∧ c ≤ 1))
  | _ => none) else none
theorem condX_add64 (f0 : FuncId) : condX (add64O f0) = add64V f0 := by
  funext f args h
  unfold condX add64O add64V
  cases Nat.beq f f0 with
  | false => rfl
  | true =>
    simp only [cond_true]
    split
    · rename_i o c e
      split at e
      · cases e; rfl
      · cases e
    · rename_i e
      split at e
      · cases e
      · rename_i hno
        split
        · rename_i x y z; exact (hno x y z rfl).elim
        · rfl
theorem condX_sub64 (f0 : FuncId) : condX (sub64O f0) = sub64V f0 := by
  funext f args h
  unfold condX sub64O sub64V
  cases Nat.beq f f0 with
  | false => rfl
  | true =>
    simp only [cond_true]
    split
    · rename_i o c e
      split at e
      · cases e; rfl
      · cases e
    · rename_i e
      split at e
      · cases e
      · rename_i hno
        split
        · rename_i x y z; exact (hno x y z rfl).elim
        · rfl
end Go.Proofs.Ytmoflcoijmmpjaa
