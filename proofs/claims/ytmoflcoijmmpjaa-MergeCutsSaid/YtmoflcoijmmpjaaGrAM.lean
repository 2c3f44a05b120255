/-
  The machine that runs in the kernel, part W: functions of other make that read memory.
-/
import Derived.Test.YtmoflcoijmmpjaaGrAI
import Derived.Lib.BytesEntry
namespace Go.Proofs.Ytmoflcoijmmpjaa
set_option linter.unusedSimpArgs false
set_option linter.unusedVariables false
set_option linter.unusedSectionVars false
open Go Go.RowKit

def intsV : Nat → List Value → Option (List Int)
 | 0, _ => some []
 | n + 1, .int .u8 x :: vs => bif decide (0 ≤ x ∧ x < 256) then (match intsV n vs with | some l => some (x :: l) | none => none) else none
 | _, _ => none
def bytesV (h : Hp) : Value → Option (List Int)
 | .slice none _ _ => some []
 | .slice (some ⟨n, o, none⟩) len _ => match lk h n with
  | some r => intsV len (r.cs.drop o)
  | none => none
 | _ => none
theorem intsV_ok {σ : Sg} : ∀ {n : Nat} {vs vs' : List Value} {l : List Int}, intsV n vs = some l → renL σ vs = some vs' → l.length = n ∧ (∀ (j : Nat) (x : Int), l[j]? = some x → vs'[j]? = some (Value.int .u8 x)) ∧ ∀ x ∈ l, 0 ≤ x ∧ x < 256
 | 0, vs, vs', l, h, hr => by simp only [intsV, oI] at h; subst h; exact ⟨rfl, fun j x e => by simp at e, fun x hx => by cases hx⟩
 | n + 1, [], vs', l, h, hr => by simp [intsV] at h
 | n + 1, v :: vs, vs', l, h, hr => by
   obtain ⟨a, b, h1, h2, rfl⟩ := renL_cons hr
   unfold intsV at h
   split at h
   ·rename_i e; cases e
   ·rename_i n' x us e1 e2
    cases e1
    cases e2
    obtain ⟨hb, h⟩ := bif_of h
    have hb := of_decide_eq_true hb
    split at h
    ·rename_i l' hl
     cases h
     obtain ⟨i1, i2, i3⟩ := intsV_ok hl h2
     simp only [renV, oI] at h1
     subst h1
     refine ⟨by simp [i1], fun j y e => ?_, fun y hy => ?_⟩
     ·cases j with
      | zero => simp at e; subst e; rfl
      | succ j => simp at e ⊢; exact i2 j y e
     ·rcases List.mem_cons.1 hy with rfl | hy
      ·exact hb
      ·exact i3 y hy
    ·cases h
   ·cases h
theorem bytesV_ok {P : Program} {W : World} {σ : Sg} {h : Hp} {w : World} (hR : Rl W σ h w) {v v' : Value} {l : List Int} (hv : bytesV h v = some l) (hr : renV σ v = some v') : (Extern.Bytes.bytesOf v').run P w = .ok ⟨(Lib.bytesOf l).toArray⟩ w ∧ ∀ x ∈ l, 0 ≤ x ∧ x < 256 := by
 unfold bytesV at hv
 split at hv
 ·simp only [renV, oI] at hr
  cases hv
  subst hr
  exact ⟨rfl, fun x hx => by cases hx⟩
 ·rename_i n o len c
  split at hv
  ·rename_i r hl
   obtain ⟨q, vs, hb', hvs, hc⟩ := hR.cell hl
   obtain ⟨i1, i2, i3⟩ := intsV_ok hv (renL_drop o hvs)
   rcases renV_slice hr with ⟨p, c', hb, _, rfl, _⟩ | ⟨_, rfl, _, rfl⟩
   case inr =>
    obtain rfl := List.eq_nil_of_length_eq_zero i1
    refine ⟨?_, fun x hx => by cases hx⟩
    cases σ.e n <;> rfl
   have e0 : q = p := by rw [hb] at hb'; exact (Option.some.inj hb').symm
   subst e0
   refine ⟨?_, i3⟩
   have := Lib.run_loadBytesX (P := P) w l ⟨q.1, q.2 + o, none⟩ .empty (fun j x hj => by
    have e : (⟨q.1, q.2 + o, none⟩ : Addr).add j = ⟨q.1, q.2 + (o + j), none⟩ := by unfold Addr.add; split <;> simp_all [Nat.add_assoc]
    rw [e]
    refine hc (o + j) _ ?_
    have := i2 j x hj
    rw [List.getElem?_drop] at this
    exact this)
   rw [i1] at this
   show (Extern.Bytes.loadBytes ⟨q.1, q.2 + o, none⟩ len .empty).run P w = _
   rw [this]
   simp
  ·cases hv
 ·cases hv
def cmpI : List Int → List Int → Int
 | [], [] => 0
 | [], _ :: _ => -1
 | _ :: _, [] => 1
 | a :: as, b :: bs => bif decide (a < b) then -1 else bif decide (b < a) then 1 else cmpI as bs
theorem u8_lt {a b : Int} (ha : 0 ≤ a ∧ a < 256) (hb : 0 ≤ b ∧ b < 256) : (a.toNat.toUInt8 < b.toNat.toUInt8) = (a < b) := by
 rw [eq_iff_iff, UInt8.lt_iff_toNat_lt]
 have e1 : (a.toNat.toUInt8).toNat = a.toNat % 256 := by simp
 have e2 : (b.toNat.toUInt8).toNat = b.toNat % 256 := by simp
 rw [e1, e2]
 omega
theorem cmpI_eq : ∀ (xs ys : List Int), (∀ x ∈ xs, 0 ≤ x ∧ x < 256) → (∀ x ∈ ys, 0 ≤ x ∧ x < 256) → cmpI xs ys = Lib.compareBytes (Lib.bytesOf xs) (Lib.bytesOf ys)
 | [], [], _, _ => by simp [cmpI, Lib.compareBytes, Lib.bytesOf]
 | [], _ :: _, _, _ => by simp [cmpI, Lib.compareBytes, Lib.bytesOf]
 | _ :: _, [], _, _ => by simp [cmpI, Lib.compareBytes, Lib.bytesOf]
 | a :: as, b :: bs, hx, hy => by
   have ih := cmpI_eq as bs (fun x h => hx x (by simp [h])) (fun x h => hy x (by simp [h]))
   have h1 := u8_lt (hx a (by simp)) (hy b (by simp))
   have h2 := u8_lt (hy b (by simp)) (hx a (by simp))
   simp only [cmpI, Lib.bytesOf, List.map_cons, Lib.compareBytes, h1, h2] at ih ⊢
   rw [← ih]
   by_cases e1 : a < b <;> by_cases e2 : b < a <;> simp [e1, e2]
theorem cmp_def (a b : Value) : Extern.BytealgCompare.compare #[a, b] = (do pure (goInt (Extern.BytealgCompare.cmp (← Extern.Bytes.bytesOf a) (← Extern.Bytes.bytesOf b)))) := rfl
def cmpX (f0 : FuncId) (f : FuncId) (args : List Value) (h : Hp) : Option Value :=
 bif Nat.beq f f0 then (match args with
 | [a, b] => match bytesV h a, bytesV h b with
  | some xs, some ys => some (.int .i64 (cmpI xs ys))
  | _, _ => none
 | _ => none) else none
theorem cmp_one {P : Program} {f0 : FuncId} (hrun : ∀ args w, (callFunc f0 args).run P w = ((Extern.BytealgCompare.compare args).run P w).andThen fun v w' => .ok (.value v) w') : XOne P (cmpX f0) := by
 intro f args h v hv W σ w args' hR ha
 simp only [cmpX] at hv
 obtain ⟨hf, h1⟩ := bif_of hv
 clear hv
 obtain rfl := Nat.eq_of_beq_eq_true hf
 split at h1
 ·rename_i a b
  split at h1
  ·rename_i xs ys hx hy
   cases h1
   obtain ⟨a', l, ea, el, rfl⟩ := renL_cons ha
   obtain ⟨b', l', eb, el', rfl⟩ := renL_cons el
   simp only [renL, oI] at el'
   subst el'
   obtain ⟨r1, k1⟩ := bytesV_ok (P := P) hR hx ea
   obtain ⟨r2, k2⟩ := bytesV_ok (P := P) hR hy eb
   refine ⟨rfl, ?_⟩
   rw [hrun]
   have ea' : [a', b'].toArray = #[a', b'] := rfl
   rw [ea', cmp_def]
   simp only [Sem.run_bind, r1, r2, Result.andThen_ok, Sem.run_pure]
   rw [Lib.cmp_eq, cmpI_eq xs ys k1 k2]
   rfl
  ·cases h1
 ·cases h1
abbrev Ob := List (Bool × Bool)
structure Ov where
 T : FuncId → List Value → Hp → Nat → Option (Out × Bool)
 X : FuncId → List Value → Hp → Option (Value × Bool)
theorem pickV_t (a c : Value) : pickV true a c = a := by
 unfold pickV
 split
 ·rfl
 ·rename_i k x k' y
  by_cases h : k = k'
  ·subst h; simp
  ·simp [h]
 ·rfl
theorem pickV_f (a c : Value) : pickV false a c = c := by
 unfold pickV
 split
 ·rfl
 ·rename_i k x k' y
  by_cases h : k = k'
  ·subst h; simp
  ·simp [h]
 ·rfl
def plainOp : Op → Bool
 | .move _ | .assign _ | .binOp _ _ _ _ _ | .unOp _ _ _ | .load _ _ | .fieldAddr _ _ _ | .indexAddr _ _ _ | .index _ _ _ | .field _ _ _ | .extract _ _ | .pick _ _ _ => true
 | _ => false
def plainOps : List Oper → Bool
 | [] => true
 | o :: l => bif plainOp o.op then plainOps l else false
def plainC : Code → Bool
 | .skip => true
 | .region _ ops false => plainOps ops.toList
 | .seq x y => bif plainC x then plainC y else false
 | _ => false
theorem stepV_plain {E : Env} {call : FuncId → List Value → Hp → Nat → Option Out} {ev : Operand → Option Value} {h : Hp} {nx : Nat} {op : Op} {v : Value} {h' : Hp} {nx' : Nat} {d : List Nat} (hp : plainOp op = true) (hs : stepV E call ev h nx op = some (v, h', nx', d)) : h' = h ∧ nx' = nx ∧ d = [] := by
 cases op <;> simp only [plainOp, Bool.false_eq_true] at hp <;> simp only [stepV, calleeV, yieldV, ndV, cond_true, opV] at hs <;> split at hs <;> first | (simp only [oI, pI] at hs; exact ⟨hs.2.1.symm, hs.2.2.1.symm, hs.2.2.2.symm⟩) | (simp only [newV] at hs; cases hs)
theorem seqV_plain {E : Env} {call : FuncId → List Value → Hp → Nat → Option Out} {ops : Array Oper} : ∀ (l : List Oper) (ts : Tm) (h : Hp) (nx : Nat) (ts' : Tm) (h' : Hp) (nx' : Nat) (d : List Nat), plainOps l = true → seqV E call ops l ts h nx = some (ts', h', nx', d) → h' = h ∧ nx' = nx ∧ d = [] ∧ ts'.n = ts.n
 | [], ts, h, nx, ts', h', nx', d, _, hs => by
   simp only [seqV, oI, pI] at hs
   obtain ⟨rfl, rfl, rfl, rfl⟩ := hs
   exact ⟨rfl, rfl, rfl, rfl⟩
 | o :: l, ts, h, nx, ts', h', nx', d, hp, hs => by
   simp only [plainOps] at hp
   rcases bif_or hp with ⟨hp1, hp2⟩ | ⟨_, hp2⟩
   case inr => cases hp2
   have hn : ∀ (dst : Option Tmp) (v : Value), (putV ts dst v).n = ts.n := by
    intro dst v
    cases dst with
    | none => rfl
    | some k => simp only [putV, tput]; cases Nat.blt k ts.n <;> rfl
   simp only [seqV] at hs
   split at hs
   ·split at hs
    ·rename_i v h1 nx1 d1 hst
     obtain ⟨rfl, rfl, rfl⟩ := stepV_plain hp1 hst
     split at hs
     ·rename_i ts2 h2 nx2 d2 hr
      obtain ⟨e1, e2, e3, e4⟩ := seqV_plain l _ _ _ _ _ _ _ hp2 hr
      simp only [oI, pI] at hs
      obtain ⟨rfl, rfl, rfl, rfl⟩ := hs
      exact ⟨e1, e2, by rw [e3]; rfl, by rw [e4, hn]⟩
     ·cases hs
    ·cases hs
   ·obtain ⟨e1, e2, e3, e4⟩ := seqV_plain l _ _ _ _ _ _ _ hp2 hs
    exact ⟨e1, e2, e3, by rw [e4, hn]⟩
   ·cases hs
theorem codeV_plain {E : Env} {call : FuncId → List Value → Hp → Nat → Option Out} {inr : Bool} : ∀ (k : Nat) (c : Code) (ts : Tm) (h : Hp) (nx : Nat) (x : Xt) (ts' : Tm) (h' : Hp) (nx' : Nat) (d ms : List Nat), plainC c = true → codeV E call inr k c ts h nx = some (x, ts', h', nx', d, ms) → x = .normal ∧ h' = h ∧ nx' = nx ∧ d = [] ∧ ms = [] ∧ ts'.n = ts.n
 | 0, c, ts, h, nx, x, ts', h', nx', d, ms, hp, hs => by simp [codeV] at hs
 | k + 1, c, ts, h, nx, x, ts', h', nx', d, ms, hp, hs => by
   cases c with
   | skip =>
    simp only [codeV, oI, pI] at hs
    obtain ⟨rfl, rfl, rfl, rfl, rfl, rfl⟩ := hs
    exact ⟨rfl, rfl, rfl, rfl, rfl, rfl⟩
   | region i ops draw =>
    cases draw with
    | true => simp [plainC] at hp
    | false =>
     simp only [plainC] at hp
     simp only [codeV, cond_false] at hs
     unfold nrm at hs
     split at hs
     ·rename_i ts2 h2 nx2 d2 hr
      simp only [oI, pI] at hs
      obtain ⟨rfl, rfl, rfl, rfl, rfl, rfl⟩ := hs
      obtain ⟨e1, e2, e3, e4⟩ := seqV_plain _ _ _ _ _ _ _ _ hp hr
      exact ⟨rfl, e1, e2, e3, rfl, e4⟩
     ·cases hs
   | seq y z =>
    simp only [plainC] at hp
    rcases bif_or hp with ⟨hp1, hp2⟩ | ⟨_, hp2⟩
    case inr => cases hp2
    simp only [codeV] at hs
    split at hs
    ·rename_i ts2 h2 nx2 d2 ms2 hr
     obtain ⟨_, rfl, rfl, rfl, rfl, e6⟩ := codeV_plain k y _ _ _ _ _ _ _ _ _ hp1 hr
     unfold addD at hs
     split at hs
     ·rename_i x3 ts3 h3 nx3 e3 ns3 hr3
      simp only [oI, pI] at hs
      obtain ⟨rfl, rfl, rfl, rfl, rfl, rfl⟩ := hs
      obtain ⟨e1, e2, e3', e4, e5, e7⟩ := codeV_plain k z _ _ _ _ _ _ _ _ _ hp2 hr3
      exact ⟨e1, e2, e3', by rw [e4]; rfl, by rw [e5]; rfl, by rw [e7, e6]⟩
     ·cases hs
    ·rename_i hno
     obtain ⟨rfl, _⟩ := codeV_plain k y _ _ _ _ _ _ _ _ _ hp1 hs
     exact (hno _ _ _ _ _ hs).elim
   | _ => simp [plainC] at hp
def dstsO : List Oper → List Nat
 | [] => []
 | o :: l => match o.dst with
  | some d => d :: dstsO l
  | none => dstsO l
def dstsC : Code → List Nat
 | .region _ ops _ => dstsO ops.toList
 | .seq x y => dstsC x ++ dstsC y
 | _ => []
theorem putV_keep {ts : Tm} (hb : ts.n ≤ 60000) {dst : Option Tmp} {v : Value} {k : Nat} (h : ∀ d, dst = some d → d ≠ k) : tg (putV ts dst v) k = tg ts k ∧ (putV ts dst v).n = ts.n := by
 cases dst with
 | none => exact ⟨rfl, rfl⟩
 | some d =>
  refine ⟨?_, ?_⟩
  ·show tg (tput ts d v) k = _
   rw [tg_put hb, if_neg (fun e => h d rfl e.1)]
  ·simp only [putV, tput]; cases Nat.blt d ts.n <;> rfl
theorem seqV_keep {E : Env} {call : FuncId → List Value → Hp → Nat → Option Out} {ops : Array Oper} {k : Nat} : ∀ (l : List Oper) (ts : Tm) (h : Hp) (nx : Nat) (r : St4), ts.n ≤ 60000 → k ∉ dstsO l → seqV E call ops l ts h nx = some r → tg r.1 k = tg ts k ∧ r.1.n = ts.n
 | [], ts, h, nx, r, _, _, hs => by
   simp only [seqV, oI] at hs
   subst hs
   exact ⟨rfl, rfl⟩
 | o :: l, ts, h, nx, r, hb, hk, hs => by
   have hk1 : ∀ d, o.dst = some d → d ≠ k := fun d e hd => by
    subst hd; simp only [dstsO, e, List.mem_cons, true_or, not_true] at hk
   have hk2 : k ∉ dstsO l := by
    simp only [dstsO] at hk
    split at hk
    ·simp only [List.mem_cons, not_or] at hk; exact hk.2
    ·exact hk
   simp only [seqV] at hs
   split at hs
   ·split at hs
    ·rename_i v h1 nx1 d1 hst
     split at hs
     ·rename_i ts2 h2 nx2 d2 hr
      obtain ⟨p1, p2⟩ := putV_keep hb (v := v) hk1
      obtain ⟨e1, e2⟩ := seqV_keep l _ _ _ _ (by rw [p2]; exact hb) hk2 hr
      simp only [oI] at hs
      subst hs
      exact ⟨e1.trans p1, e2.trans p2⟩
     ·cases hs
    ·cases hs
   ·obtain ⟨p1, p2⟩ := putV_keep hb (v := undef) hk1
    obtain ⟨e1, e2⟩ := seqV_keep l _ _ _ _ (by rw [p2]; exact hb) hk2 hs
    exact ⟨e1.trans p1, e2.trans p2⟩
   ·cases hs
theorem codeV_keep {E : Env} {call : FuncId → List Value → Hp → Nat → Option Out} {inr : Bool} {j : Nat} : ∀ (k : Nat) (c : Code) (ts : Tm) (h : Hp) (nx : Nat) (r : St5), plainC c = true → ts.n ≤ 60000 → j ∉ dstsC c → codeV E call inr k c ts h nx = some r → tg r.2.1 j = tg ts j ∧ r.2.1.n = ts.n
 | 0, c, ts, h, nx, r, hp, _, _, hs => by simp [codeV] at hs
 | k + 1, c, ts, h, nx, r, hp, hb, hj, hs => by
   cases c with
   | skip =>
    simp only [codeV, oI] at hs
    subst hs
    exact ⟨rfl, rfl⟩
   | region i ops draw =>
    cases draw with
    | true => simp [plainC] at hp
    | false =>
     simp only [codeV, cond_false] at hs
     unfold nrm at hs
     split at hs
     ·rename_i ts2 h2 nx2 d2 hr
      simp only [oI] at hs
      subst hs
      exact seqV_keep _ _ _ _ _ hb hj hr
     ·cases hs
   | seq y z =>
    simp only [plainC] at hp
    rcases bif_or hp with ⟨hp1, hp2⟩ | ⟨_, hp2⟩
    case inr => cases hp2
    simp only [dstsC, List.mem_append, not_or] at hj
    simp only [codeV] at hs
    split at hs
    ·rename_i ts2 h2 nx2 d2 ms2 hr
     obtain ⟨a1, a2⟩ := codeV_keep k y _ _ _ _ hp1 hb hj.1 hr
     unfold addD at hs
     split at hs
     ·rename_i x3 ts3 h3 nx3 e3 ns3 hr3
      simp only [oI] at hs
      subst hs
      obtain ⟨b1, b2⟩ := codeV_keep k z _ _ _ _ hp2 (by simp only at a2; omega) hj.2 hr3
      exact ⟨b1.trans a1, b2.trans a2⟩
     ·cases hs
    ·rename_i hno
     obtain ⟨x, t2, h2, nx2, d2, ms2⟩ := r
     obtain ⟨rfl, _⟩ := codeV_plain k y _ _ _ _ _ _ _ _ _ hp1 hs
     exact (hno _ _ _ _ _ hs).elim
   | _ => simp [plainC] at hp
abbrev CallO := FuncId → List Value → Hp → Nat → List Bool → Option (Out × List Bool × Ob)
section
variable {V : Ov} {P : Program} {call : FuncId → List Value → Hp → Nat → Option Out} {callO : CallO}
def opTmp : Operand → Option Nat
 | .tmp t => some t
 | _ => none
def toldB (tab : List Nat) (c : Operand) : Bool := match opTmp c with | some t => memN t tab | none => false
end
end Go.Proofs.Ytmoflcoijmmpjaa
