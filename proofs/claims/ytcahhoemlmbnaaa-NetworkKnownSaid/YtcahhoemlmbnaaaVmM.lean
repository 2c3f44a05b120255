/-
  The machine that runs in the kernel, part M: a region that draws its order. It is run in the order of the text; of each two operations of which neither waits for the other it is looked whether one reads or writes what the other one writes.
-/
import Derived.Test.YtcahhoemlmbnaaaVmL
import Derived.Orders
namespace Go.Proofs.Ytcahhoemlmbnaaa
set_option linter.unusedSimpArgs false
set_option linter.unusedVariables false
set_option linter.unusedSectionVars false
open Go Go.RowKit

def memN (x : Nat) : List Nat → Bool
  | [] => false
  | y :: l => bif Nat.beq x y then true else memN x l
theorem memN_iff {x : Nat} : ∀ {l : List Nat}, memN x l = true ↔ x ∈ l
  | [] => by simp [memN]
  | y :: l => by
      simp only [memN]
      by_cases h : x = y
      · subst h; simp
      · rw [nbeq_ne h]; simp [memN_iff, h]
theorem memN_not {x : Nat} {l : List Nat} (h : memN x l = false) : x ∉ l := fun hx => by rw [memN_iff.2 hx] at h; cases h
def uniN : List Nat → List Nat → List Nat
  | [], l => l
  | x :: k, l => bif memN x l then uniN k l else uniN k (x :: l)
theorem mem_uniN {x : Nat} : ∀ {k l : List Nat}, x ∈ uniN k l ↔ x ∈ k ∨ x ∈ l
  | [], l => by simp [uniN]
  | y :: k, l => by
      simp only [uniN]
      cases h : memN y l with
      | true =>
        have := memN_iff.1 h
        simp only [cond_true, mem_uniN, List.mem_cons]
        constructor
        · rintro (h | h)
          · exact .inl (.inr h)
          · exact .inr h
        · rintro ((rfl | h) | h)
          · exact .inr this
          · exact .inl h
          · exact .inr h
      | false =>
        simp only [cond_false, mem_uniN, List.mem_cons]
        constructor
        · rintro (h | rfl | h)
          · exact .inl (.inr h)
          · exact .inl (.inl rfl)
          · exact .inr h
        · rintro ((rfl | h) | h)
          · exact .inr (.inl rfl)
          · exact .inl h
          · exact .inr (.inr h)
def apartN : List Nat → List Nat → Bool
  | [], _ => true
  | x :: k, l => bif memN x l then false else apartN k l
theorem apartN_ok {x : Nat} : ∀ {k l : List Nat}, apartN k l = true → x ∈ k → x ∉ l
  | [], l, _, hx => by cases hx
  | y :: k, l, h, hx => by
      simp only [apartN] at h
      cases hm : memN y l with
      | true => rw [hm] at h; cases h
      | false =>
        rw [hm] at h
        rcases List.mem_cons.1 hx with rfl | hx
        · exact memN_not hm
        · exact apartN_ok h hx

/-- A set of small numbers. -/
structure Msk where
  m : Nat
instance : Membership Nat Msk := ⟨fun s j => Nat.testBit s.m j = true⟩
def tB (s : Msk) (j : Nat) : Bool := Nat.testBit s.m j
theorem tB_iff {s : Msk} {j : Nat} : tB s j = true ↔ j ∈ s := Iff.rfl
/-- What an operation of the region has left. -/
structure Rec where
  lo : List Nat
  dst : Option Tmp
  val : Value
  nx : Nat
  nx' : Nat
  rd : List Nat
  ef : List (Nat × Option Rw)
  an : Msk
def assoc : List (Nat × Option Rw) → Nat → Option (Option Rw)
  | [], _ => none
  | (m, r) :: t, n => bif Nat.beq m n then some r else assoc t n
theorem assoc_cons (m : Nat) (r : Option Rw) (t : List (Nat × Option Rw)) (n : Nat) : assoc ((m, r) :: t) n = if m = n then some r else assoc t n := by
  simp only [assoc]
  by_cases h : m = n
  · subst h; simp
  · rw [nbeq_ne h]; simp [h]
theorem assoc_mem {n : Nat} : ∀ {l : List (Nat × Option Rw)}, assoc l n ≠ none → n ∈ l.map (·.1)
  | [], h => by simp [assoc] at h
  | (m, r) :: t, h => by
      rw [assoc_cons] at h
      split at h
      · rename_i e; subst e; simp
      · simp only [List.map_cons, List.mem_cons]; exact .inr (assoc_mem h)
def appE : Hp → List (Nat × Option Rw) → Hp
  | h, [] => h
  | h, (n, some r) :: t => setH (appE h t) n r
  | h, (n, none) :: t => delH (appE h t) n
theorem lk_appE (h : Hp) (n : Nat) : ∀ l : List (Nat × Option Rw), lk (appE h l) n = match assoc l n with | some o => o | none => lk h n
  | [] => rfl
  | (m, some r) :: t => by
      simp only [appE, lk_setH, assoc_cons]
      split
      · rfl
      · exact lk_appE h n t
  | (m, none) :: t => by
      simp only [appE, lk_delH, assoc_cons]
      split
      · rfl
      · exact lk_appE h n t
def efNew (nx : Nat) : Hp → List (Nat × Option Rw)
  | [] => []
  | (n, r) :: t => bif Nat.ble nx n then (n, some r) :: efNew nx t else efNew nx t
def efOld (h : Hp) : List Nat → List (Nat × Option Rw)
  | [] => []
  | n :: d => (n, lk h n) :: efOld h d
theorem assoc_new (nx n : Nat) : ∀ h : Hp, assoc (efNew nx h) n = if nx ≤ n then (lk h n).map some else none
  | [] => by simp [efNew, assoc, lk]
  | (m, r) :: t => by
      simp only [efNew]
      by_cases hm : nx ≤ m
      · rw [Nat.ble_eq_true_of_le hm]
        simp only [cond_true, assoc_cons, lk_cons, assoc_new nx n t]
        split
        · rename_i e; subst e; simp [hm]
        · rfl
      · have : Nat.ble nx m = false := by
          cases hb : Nat.ble nx m with
          | false => rfl
          | true => exact absurd (Nat.le_of_ble_eq_true hb) hm
        rw [this]
        simp only [cond_false, lk_cons, assoc_new nx n t]
        split
        · rename_i h1
          rw [if_neg (by omega)]
        · rfl
theorem assoc_old (h : Hp) (n : Nat) : ∀ d : List Nat, assoc (efOld h d) n = if n ∈ d then some (lk h n) else none
  | [] => by simp [efOld, assoc]
  | m :: d => by
      simp only [efOld, assoc_cons, assoc_old h n d, List.mem_cons]
      by_cases e : m = n
      · subst e; simp
      · simp [e, Ne.symm e]
theorem assoc_app (a b : List (Nat × Option Rw)) (n : Nat) : assoc (a ++ b) n = match assoc a n with | some o => some o | none => assoc b n := by
  induction a with
  | nil => rfl
  | cons x a ih =>
    obtain ⟨m, r⟩ := x
    simp only [List.cons_append, assoc_cons, ih]
    split <;> rfl

def loN (ops : Array Oper) (o : Oper) : List Nat :=
  (o.op.operands.toList.filterMap fun | .tmp t => some t | _ => none) ++
  (match o.guard with
   | some (g, _) => match ops[g]? with | some og => (match og.dst with | some d => [d] | none => []) | none => []
   | none => [])
def evR (lo : List Nat) (ts : Tm) : Operand → Option Value
  | .tmp t => bif memN t lo then tg ts t else none
  | x => evA ts x
def ancV (past : List Rec) : List Edge → Option Msk
  | [] => some ⟨0⟩
  | e :: es => match ancV past es with
    | none => none
    | some l => bif Region.binds .any e then (match past[e.on]? with
      | some p => some ⟨Nat.lor (Nat.lor (2 ^ e.on) p.an.m) l.m⟩
      | none => none) else some l
def bigOp : Op → Bool
  | .call ⟨.value _, _, _⟩ => true
  | .call ⟨.builtin .append, _, _⟩ => true
  | .call ⟨.builtin .copy, _, _⟩ => true
  | _ => false
def blkN : Option Value → List Nat
  | some (.pointer (some a)) => [a.block]
  | some (.slice (some a) _ _) => [a.block]
  | some (.map (some n)) => [n]
  | _ => []
def blkS : Option Value → List Nat
  | some (.slice (some a) _ _) => [a.block]
  | _ => []
def rdsV (ev : Operand → Option Value) : Op → List Nat
  | .load _ x => blkN (ev x)
  | .convert _ _ x => blkN (ev x)
  | .store _ x _ => blkN (ev x)
  | .slice _ x _ _ none => blkS (ev x)
  | .lookup _ x _ _ => blkN (ev x)
  | _ => []
def pickH (h : Hp) : List Nat → Hp
  | [] => []
  | n :: l => match lk h n with | some r => (n, r) :: pickH h l | none => pickH h l
def dropH (l : List Nat) : Hp → Hp
  | [] => []
  | (n, r) :: t => bif memN n l then dropH l t else (n, r) :: dropH l t
theorem lk_pickH {h : Hp} {n : Nat} {r : Rw} : ∀ {l : List Nat}, lk (pickH h l) n = some r → lk h n = some r
  | [], e => by simp [pickH, lk] at e
  | m :: l, e => by
      simp only [pickH] at e
      split at e
      · rename_i s hs
        rw [lk_cons] at e
        split at e
        · rename_i e1; subst e1; rw [hs]; exact e
        · exact lk_pickH e
      · exact lk_pickH e
theorem lk_dropH {n : Nat} {r : Rw} (l : List Nat) : ∀ {h : Hp}, lk (dropH l h) n = some r → lk h n = some r
  | [], e => by simp [dropH, lk] at e
  | (m, s) :: t, e => by
      simp only [dropH] at e
      rw [lk_cons]
      cases hm : memN m l with
      | true =>
        rw [hm] at e
        simp only [cond_true] at e
        split
        · rename_i e1
          subst e1
          exfalso
          have key : ∀ t : Hp, lk (dropH l t) m = none := by
            intro t
            induction t with
            | nil => rfl
            | cons x t ih =>
              obtain ⟨k, u⟩ := x
              simp only [dropH]
              cases hk : memN k l with
              | true => simpa using ih
              | false =>
                simp only [cond_false, lk_cons]
                split
                · rename_i e2; subst e2; rw [hm] at hk; cases hk
                · exact ih
          rw [key] at e
          cases e
        · exact lk_dropH l e
      | false =>
        rw [hm] at e
        simp only [cond_false, lk_cons] at e
        split at e
        · rename_i e1; rw [if_pos e1]; exact e
        · rename_i e1; rw [if_neg e1]; exact lk_dropH l e
theorem lk_names {h : Hp} {n : Nat} {r : Rw} (e : lk h n = some r) : n ∈ h.map (·.1) := by
  induction h with
  | nil => simp [lk] at e
  | cons x h ih =>
    obtain ⟨m, s⟩ := x
    rw [lk_cons] at e
    split at e
    · rename_i e1; subst e1; simp
    · simp only [List.map_cons, List.mem_cons]; exact .inr (ih e)

/-- Which names of earlier ones that it does not wait for were written. -/
def tchUn (an : Msk) : Nat → List Rec → List Nat
  | _, [] => []
  | i, p :: ps => match p.ef with
    | [] => tchUn an (i + 1) ps
    | _ => bif tB an i then tchUn an (i + 1) ps else uniN (p.ef.map (·.1)) (tchUn an (i + 1) ps)
def dstIn (d : Option Tmp) (l : List Nat) : Bool := match d with | some t => memN t l | none => false
def dstEq (a b : Option Tmp) : Bool := match a, b with | some x, some y => Nat.beq x y | _, _ => false
def apartR (p r : Rec) : Bool :=
  bif dstIn p.dst r.lo then false else bif dstIn r.dst p.lo then false else bif dstEq p.dst r.dst then false else
  bif (match p.ef with | [] => true | _ => bif apartN (p.ef.map (·.1)) r.rd then apartN (p.ef.map (·.1)) (r.ef.map (·.1)) else false) then (match r.ef with | [] => true | _ => apartN p.rd (r.ef.map (·.1))) else false
def chkV (an : Msk) (r : Rec) : Nat → List Rec → Bool
  | _, [] => true
  | i, p :: ps => bif apartR p r then chkV an r (i + 1) ps else bif tB an i then chkV an r (i + 1) ps else false
def recR (E : Env) (call : FuncId → List Value → Hp → Nat → Option Out) (ops : Array Oper) (o : Oper) (past : List Rec) (an : Msk) (ts : Tm) (nx : Nat) (rh : Hp) : Option Rec :=
  match stepV E call (evR (loN ops o) ts) rh nx o.op with
  | none => none
  | some (v, r', nx', d) => frc (loN ops o) fun lo => frc (rh.map (·.1)) fun rd => frc (efOld r' d ++ efNew nx r') fun ef => bif chkV an ⟨lo, o.dst, v, nx, nx', rd, ef, an⟩ 0 past then some ⟨lo, o.dst, v, nx, nx', rd, ef, an⟩ else none
def recV (E : Env) (call : FuncId → List Value → Hp → Nat → Option Out) (ops : Array Oper) (o : Oper) (past : List Rec) (ts : Tm) (h : Hp) (nx : Nat) : Option Rec :=
  match ancV past o.after.toList with
  | none => none
  | some an => match wantV ops ts o with
    | none => none
    | some false => frc (loN ops o) fun lo => bif chkV an ⟨lo, o.dst, undef, nx, nx, [], [], an⟩ 0 past then some ⟨lo, o.dst, undef, nx, nx, [], [], an⟩ else none
    | some true => bif bigOp o.op then recR E call ops o past an ts nx (dropH (tchUn an 0 past) h) else recR E call ops o past an ts nx (pickH h (rdsV (evR (loN ops o) ts) o.op))
def drawGo (E : Env) (call : FuncId → List Value → Hp → Nat → Option Out) (ops : Array Oper) : List Oper → List Rec → Tm → Hp → Nat → Option (List Rec × Tm × Hp × Nat)
  | [], past, ts, h, nx => some (past, ts, h, nx)
  | o :: rest, past, ts, h, nx => match recV E call ops o past ts h nx with
    | some r => frc (past ++ [r]) fun past => frc (appE h r.ef) fun h => drawGo E call ops rest past (putV ts r.dst r.val) h r.nx'
    | none => none
def oldN (nx : Nat) : List (Nat × Option Rw) → List Nat
  | [] => []
  | (n, _) :: t => bif Nat.blt n nx then n :: oldN nx t else oldN nx t
def dirtyV (nx : Nat) : List Rec → List Nat
  | [] => []
  | r :: rs => oldN nx r.ef ++ dirtyV nx rs
def drawV (E : Env) (call : FuncId → List Value → Hp → Nat → Option Out) (ops : Array Oper) (ts : Tm) (h : Hp) (nx : Nat) : Option St4 :=
  match drawGo E call ops ops.toList [] ts h nx with
  | some (recs, ts', h', nx') => some (ts', h', nx', dirtyV nx recs)
  | none => none
end Go.Proofs.Ytcahhoemlmbnaaa
