/-
  The machine that runs in the kernel, part F: all operations that only read.
-/
import Derived.Test.YtcahhoemlmbnaaaVmE
namespace Go.Proofs.Ytcahhoemlmbnaaa
set_option linter.unusedSimpArgs false
set_option linter.unusedVariables false
set_option linter.unusedSectionVars false
open Go Go.RowKit

def pickV (t : Bool) (a b : Value) : Value :=
  match a, b with
  | .bool x, .bool y => .bool (bif t then x else y)
  | .int k x, .int k' y => bif decide (k = k') then .int k (bif t then x else y) else bif t then .int k x else .int k' y
  | a, b => bif t then a else b
theorem pickV_eq (t : Bool) (a b : Value) : pickV t a b = if t then a else b := by
  unfold pickV
  split
  · cases t <;> rfl
  · rename_i k x k' y
    by_cases h : k = k'
    · subst h; cases t <;> simp
    · cases t <;> simp [h]
  · cases t <;> rfl
def nilV : Value → Option Value
  | .pointer (some a) => some (.pointer (some a))
  | _ => none
def faV (P : Program) (s : TypeId) (f : Nat) : Value → Option Value
  | .pointer (some ⟨n, o, none⟩) => match P.underlying s with
    | some (.struct fs) => match fs[f]? with
      | some fd => match P.info? fd.type with
        | some i => bif Nat.beq i.size 0 then none else some (.pointer (some ⟨n, o + fd.offset, none⟩))
        | none => none
      | none => none
    | _ => none
  | _ => none
def fieldV (P : Program) (s : TypeId) (f : Nat) : Value → Option Value
  | .agg cs => match P.underlying s with
    | some (.struct fs) => match fs[f]? with
      | some fd => partV P fd.type cs.toList fd.offset
      | none => none
    | _ => none
  | _ => none
def iaV (P : Program) (t : TypeId) (x ix : Value) : Option Value :=
  match P.underlying t, x, ix with
  | some (.slice e), .slice (some ⟨n, o, none⟩) len _, .int _ i => match ixV i len, P.info? e with
    | some m, some ie => some (.pointer (some ⟨n, o + m * ie.size, none⟩))
    | _, _ => none
  | some (.array k e), .pointer (some ⟨n, o, none⟩), .int _ i => match ixV i k, P.info? e with
    | some m, some ie => some (.pointer (some ⟨n, o + m * ie.size, none⟩))
    | _, _ => none
  | _, _, _ => none
def indexV (P : Program) (t : TypeId) (x ix : Value) : Option Value :=
  match P.underlying t, x, ix with
  | some (.array k e), .agg cs, .int _ i => match ixV i k, P.info? e with
    | some m, some ie => partV P e cs.toList (m * ie.size)
    | _, _ => none
  | some .string, .string s, .int _ i => bif decide (0 ≤ i) then (match s.data.toList[i.toNat]? with
    | some b => some (.int .u8 b.toNat)
    | none => none) else none
  | _, _, _ => none
def exV (i : Nat) : Value → Option Value
  | .tuple vs => vs.toList[i]?
  | _ => none
def s2aV (P : Program) (t : TypeId) : Value → Option Value
  | .slice (some a) len _ => match P.underlying t with
    | some (.array n _) => bif Nat.ble n len then some (.pointer (some a)) else none
    | _ => none
  | _ => none
def lenV (P : Program) (t : TypeId) (x : Value) : Option Value :=
  match P.underlying t, x with
  | some .string, .string s => some (.int .i64 (s.data.toList.length : Int))
  | some (.array n _), _ => some (.int .i64 (n : Int))
  | some (.slice _), .slice _ n _ => some (.int .i64 (n : Int))
  | some (.pointer arr), _ => match P.underlying arr with
    | some (.array n _) => some (.int .i64 (n : Int))
    | _ => none
  | _, _ => none
def capV (P : Program) (t : TypeId) (x : Value) : Option Value :=
  match P.underlying t, x with
  | some (.array n _), _ => some (.int .i64 (n : Int))
  | some (.slice _), .slice none _ n => some (.int .i64 (n : Int))
  | some (.slice _), .slice (some _) _ n => bif Nat.blt n capBig then some (.int .i64 (n : Int)) else none
  | _, _ => none
def biV (P : Program) (b : Builtin) (ts : Array TypeId) (args : List Value) : Option Value :=
  match b, args with
  | .len, [x] => match ts[0]? with | some t => lenV P t x | none => none
  | .cap, [x] => match ts[0]? with | some t => capV P t x | none => none
  | .min, [.int k x, .int _ y] => some (.int k (if y < x then y else x))
  | .max, [.int k x, .int _ y] => some (.int k (if y > x then y else x))
  | _, _ => none
/-- The value of an operation that leaves memory as it is. -/
def pureV (P : Program) (ev : Operand → Option Value) (h : Hp) : Op → Option Value
  | .move x => ev x
  | .assign x => ev x
  | .pick c a b => match ev c with
    | some (.bool t) => match ev a, ev b with | some va, some vb => some (pickV t va vb) | _, _ => none
    | _ => none
  | .load t x => match ev x with
    | some (.pointer (some ⟨n, o, none⟩)) => match lk h n with | some r => loadV P t r.cs o | none => none
    | _ => none
  | .nilCheck x => match ev x with | some v => nilV v | none => none
  | .binOp op t x y _ => match ev x, ev y with | some a, some b => binV P op t a b | _, _ => none
  | .unOp op _ x => match ev x with | some a => unV op a | none => none
  | .convert s d x => match ev x with | some a => cvV P h s d a | none => none
  | .slice t x lo hi mx => match ev x, evO ev lo, evO ev hi, evO ev mx with
    | some v, some l, some u, some m => (match slV P t v l u m with | some r => some r | none => slRV P h t v l u m)
    | _, _, _, _ => none
  | .fieldAddr s x f => match ev x with | some v => faV P s f v | none => none
  | .field s x f => match ev x with | some v => fieldV P s f v | none => none
  | .indexAddr t x i => match ev x, ev i with | some v, some u => iaV P t v u | _, _ => none
  | .index t x i => match ev x, ev i with | some v, some u => indexV P t v u | _, _ => none
  | .extract x i => match ev x with | some v => exV i v | none => none
  | .build t parts => match evP ev parts.toList with
    | some ps => match bld P t ps with | some cs => frc cs fun cs => some (.agg ⟨cs⟩) | none => none
    | none => none
  | .makeFunc fn fs cs => bif fnB fn then (match evL ev fs.toList, evL ev cs.toList with | some a, some b => some (.func fn ⟨a⟩ ⟨b⟩) | _, _ => none) else none
  | .sliceToArrayPointer t x => match ev x with | some v => s2aV P t v | none => none
  | .call c => match c.callee with
    | .builtin b => match evL ev c.args.toList with | some vs => biV P b c.argTypes vs | none => none
    | _ => none
  | _ => none

section
variable {P : Program} {W : World} {σ : Sg} {h : Hp} {w : World} {ev : Operand → Option Value} {a : Act}
theorem evO_ok (H : Evs σ ev a) {x : Option Operand} {r : Option Value} (h : evO ev x = some r) : (∀ v, r = some v → ∃ v', x.map a.eval = some v' ∧ renV σ v = some v') ∧ (r = none → x.map a.eval = none) := by
  cases x with
  | none => simp only [evO, Option.some.injEq] at h; subst h; simp
  | some x =>
    simp only [evO] at h
    split at h
    · rename_i v hv; cases h; exact ⟨fun u e => ⟨a.eval x, rfl, by cases e; exact H x _ hv⟩, fun e => by cases e⟩
    · cases h
theorem nilV_ok {x x' v : Value} (h : nilV x = some v) (hx : renV σ x = some x') : renV σ v = some x' ∧ ∃ b, x' = .pointer (some b) := by
  unfold nilV at h
  split at h
  · cases h; exact ⟨hx, renV_ptr_some hx⟩
  · cases h
theorem faV_ok {s : TypeId} {f : Nat} {x x' v : Value} (h : faV P s f x = some v) (hx : renV σ x = some x') : ∃ v', renV σ v = some v' ∧ (Instr.fieldAt s x' f).run P w = .ok v' w := by
  unfold faV at h
  split at h
  · rename_i n o
    obtain ⟨p, hb, rfl⟩ := renV_ptr hx
    split at h
    · rename_i fs hu
      split at h
      · rename_i fd hf
        split at h
        · rename_i i hi
          cases hz : Nat.beq i.size 0 with
          | true => rw [hz] at h; cases h
          | false =>
            rw [hz] at h
            cases h
            have hz' : i.size ≠ 0 := fun e => by rw [e] at hz; cases hz
            refine ⟨_, renV_ptr_mk hb, ?_⟩
            simp [Instr.fieldAt, run_underlying hu, hf, Instr.sureAddr, fieldPlace, sizeOf, typeInfo, hi, hz', addr_add, Nat.add_assoc]
        · cases h
      · cases h
    · cases h
  · cases h
theorem fieldV_ok {s : TypeId} {f : Nat} {x x' v : Value} (h : fieldV P s f x = some v) (hx : renV σ x = some x') : ∃ v', renV σ v = some v' ∧ (Instr.field s x' f).run P w = .ok v' w := by
  unfold fieldV at h
  split at h
  · obtain ⟨c', rfl, hc⟩ := renV_agg hx
    split at h
    · rename_i fs hu
      split at h
      · rename_i fd hf
        obtain ⟨v', h1, h2⟩ := partV_ok (P := P) (w := w) hc h
        refine ⟨v', h1, ?_⟩
        simpa [Instr.field, run_underlying hu, hf, asAgg] using h2
      · cases h
    · cases h
  · cases h
theorem iaV_ok {t : TypeId} {x ix x' i' v : Value} (h : iaV P t x ix = some v) (hx : renV σ x = some x') (hi : renV σ ix = some i') : ∃ v', renV σ v = some v' ∧ (Instr.indexAt t x' i').run P w = .ok v' w := by
  unfold iaV at h
  split at h
  · rename_i e n o len c k i hu
    simp only [renV, Option.some.injEq] at hi
    subst hi
    split at h
    · rename_i m ie hm hie
      cases h
      obtain ⟨h1, h2, rfl⟩ := ixV_ok hm
      obtain ⟨p, c', hb, _, rfl⟩ := renV_slice hx
      refine ⟨_, renV_ptr_mk hb, ?_⟩
      simp [Instr.indexAt, run_underlying hu, asIntOf, h1, h2, sizeOf, typeInfo, hie, addr_add, Nat.add_assoc]
    · cases h
  · rename_i l e n o k i hu
    simp only [renV, Option.some.injEq] at hi
    subst hi
    split at h
    · rename_i m ie hm hie
      cases h
      obtain ⟨h1, h2, rfl⟩ := ixV_ok hm
      obtain ⟨p, hb, rfl⟩ := renV_ptr hx
      refine ⟨_, renV_ptr_mk hb, ?_⟩
      simp [Instr.indexAt, run_underlying hu, asIntOf, Instr.sureAddr, h1, h2, sizeOf, typeInfo, hie, addr_add, Nat.add_assoc]
    · cases h
  · cases h
theorem indexV_ok {t : TypeId} {x ix x' i' v : Value} (h : indexV P t x ix = some v) (hx : renV σ x = some x') (hi : renV σ ix = some i') : ∃ v', renV σ v = some v' ∧ (Instr.index t x' i').run P w = .ok v' w := by
  unfold indexV at h
  split at h
  · rename_i l e cs k i hu
    simp only [renV, Option.some.injEq] at hi
    subst hi
    split at h
    · rename_i m ie hm hie
      obtain ⟨h1, h2, rfl⟩ := ixV_ok hm
      obtain ⟨c', rfl, hc⟩ := renV_agg hx
      obtain ⟨v', h3, h4⟩ := partV_ok (P := P) (w := w) hc h
      refine ⟨v', h3, ?_⟩
      simpa [Instr.index, run_underlying hu, asIntOf, h1, h2, sizeOf, typeInfo, hie] using h4
    · cases h
  · rename_i s k i hu
    simp only [renV, Option.some.injEq] at hi hx
    subst hi; subst hx
    by_cases h0 : 0 ≤ i
    · simp only [h0, decide_true, cond_true] at h
      split at h
      · rename_i b hb
        cases h
        refine ⟨_, rfl, ?_⟩
        have hb2 : s[i.toNat]? = some b := by
          have hlt := (List.getElem?_eq_some_iff.1 hb).1
          have hlt' : i.toNat < s.size := by simpa using hlt
          rw [getElem?_pos s i.toNat hlt']
          have := (List.getElem?_eq_some_iff.1 hb).2
          simp only [Array.getElem_toList] at this
          rw [← this]; rfl
        simp [Instr.index, run_underlying hu, asIntOf, h0, hb2]
      · cases h
    · simp only [h0, decide_false, cond_false] at h; cases h
  · cases h
theorem exV_ok {i : Nat} {x x' v : Value} (h : exV i x = some v) (hx : renV σ x = some x') : ∃ v', renV σ v = some v' ∧ (Instr.extract x' i).run P w = .ok v' w := by
  unfold exV at h
  split at h
  · obtain ⟨c', rfl, hc⟩ := renV_tuple hx
    obtain ⟨v', h1, h2⟩ := renL_get hc i v h
    refine ⟨v', h2, ?_⟩
    simp only [Array.getElem?_toList] at h1
    simp [Instr.extract, h1]
  · cases h
theorem s2aV_ok {t : TypeId} {x x' v : Value} (h : s2aV P t x = some v) (hx : renV σ x = some x') : ∃ v', renV σ v = some v' ∧ (Instr.arrayAt t x').run P w = .ok v' w := by
  unfold s2aV at h
  split at h
  · rename_i ad len c
    split at h
    · rename_i n e hu
      cases hb : Nat.ble n len with
      | false => rw [hb] at h; cases h
      | true =>
        rw [hb] at h
        cases h
        have hle := Nat.le_of_ble_eq_true hb
        simp only [renV] at hx ⊢
        split at hx
        · rename_i a' c' ha hc
          cases hx
          refine ⟨_, by rw [ha], ?_⟩
          simp [Instr.arrayAt, run_underlying hu, Nat.not_lt.2 hle]
        · cases hx
    · cases h
  · cases h
theorem lenV_ok {t ty : TypeId} {x x' v : Value} (ts : Array TypeId) (ht : ts[0]? = some t) (h : lenV P t x = some v) (hx : renV σ x = some x') : renV σ v = some v ∧ (Builtin.len_ ts ty #[x']).run P w = .ok v w := by
  unfold lenV at h
  split at h
  · rename_i s hu
    cases h
    simp only [renV, Option.some.injEq] at hx
    subst hx
    refine ⟨rfl, ?_⟩
    simp [Builtin.len_, ht, run_underlying hu, goInt]
  · rename_i n e hu
    cases h
    refine ⟨rfl, ?_⟩
    simp [Builtin.len_, ht, run_underlying hu, goInt]
  · rename_i e ad n c hu
    cases h
    cases ad with
    | none => simp only [renV, Option.some.injEq] at hx; subst hx; exact ⟨rfl, by simp [Builtin.len_, ht, run_underlying hu, goInt]⟩
    | some ad => obtain ⟨b, c', rfl⟩ := renV_slice_some hx; exact ⟨rfl, by simp [Builtin.len_, ht, run_underlying hu, goInt]⟩
  · rename_i arr hu
    split at h
    · rename_i n e ha
      cases h
      exact ⟨rfl, by simp [Builtin.len_, ht, run_underlying hu, run_underlying ha, goInt]⟩
    · cases h
  · cases h
theorem capV_ok {t ty : TypeId} {x x' v : Value} (ts : Array TypeId) (ht : ts[0]? = some t) (h : capV P t x = some v) (hx : renV σ x = some x') : renV σ v = some v ∧ (Builtin.cap_ ts ty #[x']).run P w = .ok v w := by
  unfold capV at h
  split at h
  · rename_i n e hu
    cases h
    exact ⟨rfl, by simp [Builtin.cap_, ht, run_underlying hu, goInt]⟩
  · rename_i e l n hu
    cases h
    simp only [renV, Option.some.injEq] at hx
    subst hx
    exact ⟨rfl, by simp [Builtin.cap_, ht, run_underlying hu, goInt]⟩
  · rename_i e ad l n hu
    cases hb : Nat.blt n capBig with
    | false => rw [hb] at h; cases h
    | true =>
      rw [hb] at h
      cases h
      have hlt := cpR_low hb
      simp only [renV] at hx
      rw [cpR_of hlt (Nat.le_refl _)] at hx
      split at hx
      · rename_i a' c' ha hc
        cases hc
        cases hx
        exact ⟨rfl, by simp [Builtin.cap_, ht, run_underlying hu, goInt]⟩
      · cases hx
  · cases h
theorem biV_ok {b : Builtin} {ts : Array TypeId} {ty : TypeId} {cb : Array Bool} {args args' : List Value} {v : Value} (h : biV P b ts args = some v) (ha : renL σ args = some args') :
    renV σ v = some v ∧ (builtin b ts ty cb args'.toArray).run P w = .ok (.value v) w := by
  unfold biV at h
  split at h
  · rename_i x
    obtain ⟨x', t', hx, ht', rfl⟩ := renL_cons ha
    simp only [renL, Option.some.injEq] at ht'
    subst ht'
    split at h
    · rename_i t ht
      obtain ⟨h1, h2⟩ := lenV_ok (P := P) (σ := σ) (w := w) (ty := ty) ts ht h hx
      exact ⟨h1, by simp [builtin, h2]⟩
    · cases h
  · rename_i x
    obtain ⟨x', t', hx, ht', rfl⟩ := renL_cons ha
    simp only [renL, Option.some.injEq] at ht'
    subst ht'
    split at h
    · rename_i t ht
      obtain ⟨h1, h2⟩ := capV_ok (P := P) (σ := σ) (w := w) (ty := ty) ts ht h hx
      exact ⟨h1, by simp [builtin, h2]⟩
    · cases h
  · cases h
    simp only [renL, renV, Option.some.injEq] at ha
    subst ha
    exact ⟨rfl, by simp [builtin, Builtin.min_, Builtin.min2]⟩
  · cases h
    simp only [renL, renV, Option.some.injEq] at ha
    subst ha
    exact ⟨rfl, by simp [builtin, Builtin.max_, Builtin.max2]⟩
  · cases h
theorem pureV_ok (hR : Rl W σ h w) (H : Evs σ ev a) {o : Oper} {v : Value} (hv : pureV P ev h o.op = some v) : ∃ v', renV σ v = some v' ∧ (execOp a.eval o).run P w = .ok (.value v') w := by
  obtain ⟨dst, op, type, pos, after, guard⟩ := o
  have lift : ∀ {s : Sem Value} {v' : Value}, s.run P w = .ok v' w → (do pure (Next.value (← s)) : Sem Next).run P w = .ok (.value v') w := fun e => by simp [e]
  cases op <;> simp only [pureV] at hv <;> simp only [execOp] <;> try (cases hv; done)
  case move x => exact ⟨_, H x v hv, rfl⟩
  case assign x => exact ⟨_, H x v hv, rfl⟩
  case pick c x y =>
    split at hv
    · rename_i t hc
      split at hv
      · rename_i va vb hx hy
        cases hv
        rw [pickV_eq]
        have hc' := H c _ hc
        simp only [renV, Option.some.injEq] at hc'
        refine ⟨if t then a.eval x else a.eval y, ?_, ?_⟩
        · cases t
          · exact H y _ hy
          · exact H x _ hx
        · rw [← hc']; simp [asBool]
      · cases hv
    · cases hv
  case load t x =>
    split at hv
    · rename_i n o hx
      split at hv
      · rename_i r hr
        have hx' := H x _ hx
        obtain ⟨p, hb, hp⟩ := renV_ptr hx'
        obtain ⟨p', vs, hb', h2, h3⟩ := hR.cell hr
        rw [hb] at hb'
        cases hb'
        obtain ⟨v', h4, h5⟩ := loadV_ok (P := P) h2 h3 hv
        refine ⟨v', h4, ?_⟩
        rw [hp]
        refine lift ?_
        simpa [Instr.loadAt, Instr.sureAddr] using h5
      · cases hv
    · cases hv
  case nilCheck x =>
    split at hv
    · rename_i u hx
      obtain ⟨h1, b, hb⟩ := nilV_ok hv (H x _ hx)
      refine ⟨_, h1, ?_⟩
      rw [hb]; rfl
    · cases hv
  case binOp op t x y yt =>
    split at hv
    · rename_i u1 u2 hx hy
      obtain ⟨v', h1, h2⟩ := binV_ok (P := P) (w := w) (ox := x) (oy := y) hv (H x _ hx) (H y _ hy)
      exact ⟨v', h1, lift h2⟩
    · cases hv
  case unOp op t x =>
    split at hv
    · rename_i u hx
      obtain ⟨v', h1, h2⟩ := unV_ok (P := P) (w := w) hv (H x _ hx)
      exact ⟨v', h1, lift h2⟩
    · cases hv
  case convert s d x =>
    split at hv
    · rename_i u hx
      obtain ⟨v', h1, h2⟩ := cvV_ok hR hv (H x _ hx)
      exact ⟨v', h1, lift h2⟩
    · cases hv
  case slice t x lo hi mx =>
    split at hv
    · rename_i u l z m hx hl hz hm
      have ol := evO_ok H hl
      have oz := evO_ok H hz
      have om := evO_ok H hm
      split at hv
      · rename_i r hr
        cases hv
        obtain ⟨v', h1, h2⟩ := slV_ok (P := P) (w := w) hr (H x _ hx) ol.1 ol.2 oz.1 oz.2 om.1 om.2
        exact ⟨v', h1, lift h2⟩
      · obtain ⟨v', h1, h2⟩ := slRV_ok (P := P) hR hv (H x _ hx) ol.2 oz.1 om.2
        exact ⟨v', h1, lift h2⟩
    · cases hv
  case fieldAddr s x f =>
    split at hv
    · rename_i u hx
      obtain ⟨v', h1, h2⟩ := faV_ok (P := P) (w := w) hv (H x _ hx)
      exact ⟨v', h1, lift h2⟩
    · cases hv
  case field s x f =>
    split at hv
    · rename_i u hx
      obtain ⟨v', h1, h2⟩ := fieldV_ok (P := P) (w := w) hv (H x _ hx)
      exact ⟨v', h1, lift h2⟩
    · cases hv
  case indexAddr t x i =>
    split at hv
    · rename_i u1 u2 hx hy
      obtain ⟨v', h1, h2⟩ := iaV_ok (P := P) (w := w) hv (H x _ hx) (H i _ hy)
      exact ⟨v', h1, lift h2⟩
    · cases hv
  case index t x i =>
    split at hv
    · rename_i u1 u2 hx hy
      obtain ⟨v', h1, h2⟩ := indexV_ok (P := P) (w := w) hv (H x _ hx) (H i _ hy)
      exact ⟨v', h1, lift h2⟩
    · cases hv
  case extract x i =>
    split at hv
    · rename_i u hx
      obtain ⟨v', h1, h2⟩ := exV_ok (P := P) (w := w) hv (H x _ hx)
      exact ⟨v', h1, lift h2⟩
    · cases hv
  case build t parts =>
    split at hv
    · rename_i ps hp
      split at hv
      · rename_i cs hcs
        rw [frc_eq] at hv
        cases hv
        obtain ⟨vs, h1, h2⟩ := bld_ok (P := P) (evP_ok H hp) hcs
        refine ⟨.agg ⟨vs⟩, renV_agg_mk h1, lift ?_⟩
        refine run_build w t _ _ ?_
        simpa using h2
      · cases hv
    · cases hv
  case makeFunc fn fs cs =>
    cases hf : fnB fn with
    | false => rw [hf] at hv; cases hv
    | true =>
      rw [hf] at hv
      simp only [cond_true] at hv
      split at hv
      · rename_i x y hx hy
        cases hv
        refine ⟨.func fn ⟨fs.toList.map a.eval⟩ ⟨cs.toList.map a.eval⟩, ?_, lift ?_⟩
        · have e1 : renA σ ⟨x⟩ = some ⟨fs.toList.map a.eval⟩ := renA_mk (evL_ok H hx)
          have e2 : renA σ ⟨y⟩ = some ⟨cs.toList.map a.eval⟩ := renA_mk (evL_ok H hy)
          simp only [renV, fnB_ok hf, e1, e2]
        · have e1 : fs.map a.eval = ⟨fs.toList.map a.eval⟩ := by apply Array.toList_inj.1; simp
          have e2 : cs.map a.eval = ⟨cs.toList.map a.eval⟩ := by apply Array.toList_inj.1; simp
          rw [e1, e2]; rfl
      · cases hv
  case sliceToArrayPointer t x =>
    split at hv
    · rename_i u hx
      obtain ⟨v', h1, h2⟩ := s2aV_ok (P := P) (w := w) hv (H x _ hx)
      exact ⟨v', h1, lift h2⟩
    · cases hv
  case call c =>
    obtain ⟨callee, args, ts⟩ := c
    simp only at hv
    split at hv
    · rename_i b
      split at hv
      · rename_i vs hvs
        have ha := evL_ok H hvs
        obtain ⟨h1, h2⟩ := biV_ok (P := P) (w := w) (ty := type) (cb := args.map fun | .const _ => true | _ => false) hv ha
        refine ⟨v, h1, ?_⟩
        have e1 : args.map a.eval = (args.toList.map a.eval).toArray := by apply Array.toList_inj.1; simp
        simp only [resolve, Sem.run_bind, Sem.run_pure, Result.andThen_ok, invoke, e1]
        exact h2
      · cases hv
    · cases hv
end
end Go.Proofs.Ytcahhoemlmbnaaa
