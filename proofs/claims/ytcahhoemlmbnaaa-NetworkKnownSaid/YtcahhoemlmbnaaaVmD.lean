/-
  The machine that runs in the kernel, part D: the value of an operation that only reads.
-/
import Derived.Test.YtcahhoemlmbnaaaVmC
namespace Go.Proofs.Ytcahhoemlmbnaaa
set_option linter.unusedSimpArgs false
set_option linter.unusedVariables false
set_option linter.unusedSectionVars false
open Go Go.RowKit

section
variable {P : Program} {σ : Sg} {w : World}
theorem binS_ok {op : BinOp} {t : TypeId} {x y : ByteArray} {v : Value} (h : binS op x y = some v) : (binOp op t (.string x) (.string y)).run P w = .ok v w ∧ renV σ v = some v := by
  have e1 : ∀ a : ByteArray, a.toList = a.data.toList := fun a => ByteArray.toList_eq a
  have hb : binOp op t (.string x) (.string y) = Op.stringOp op x y := by cases op <;> rfl
  rw [hb]
  cases op <;> simp only [binS] at h <;> try (cases h; done)
  case add =>
    cases hc : Nat.ble (x.data.toList.length + y.data.toList.length) 9223372036854775807 with
    | false => rw [hc] at h; cases h
    | true =>
      rw [hc] at h
      simp only [cond_true, Option.some.injEq] at h
      subst h
      refine ⟨?_, rfl⟩
      have h2 := Nat.le_of_ble_eq_true hc
      simp only [Array.length_toList] at h2
      have hs : ¬ (((x.size + y.size : Nat) : Int) > IntKind.i64.max) := by
        have : IntKind.i64.max = 9223372036854775807 := by decide
        rw [this]
        show ¬ ((x.data.size + y.data.size : Nat) : Int) > 9223372036854775807
        omega
      have ha : x ++ y = ⟨(x.data.toList ++ y.data.toList).toArray⟩ := by
        apply ByteArray.ext
        simp
      unfold Op.stringOp
      simp only [hs, if_false, Sem.run_pure, ha]
  all_goals
    simp only [Option.some.injEq] at h
    subst h
    refine ⟨?_, rfl⟩
    unfold Op.stringOp
    simp only [e1, Sem.run_pure, strEq]
theorem shV_ok {op : BinOp} {t : TypeId} {k yk : IntKind} {x y : Int} {v : Value} (hop : op = .shl ∨ op = .shr) (h : shV op k x y = some v) : (binOp op t (.int k x) (.int yk y)).run P w = .ok v w ∧ renV σ v = some v := by
  unfold shV at h
  by_cases hy : y < 0
  · simp [hy] at h
  · simp only [hy, decide_false, cond_false] at h
    rcases hop with rfl | rfl
    all_goals
      simp only [Option.some.injEq] at h
      subst h
      refine ⟨?_, rfl⟩
      simp [binOp, Op.shift, hy]
theorem eqGuard_ok {op : BinOp} {t : TypeId} {x y : Operand} {a b a' : Value} (h : guardFree P t a = true) (ha : renV σ a = some a') : (eqGuard op t x y a' b).run P w = .ok () w := by
  cases a with
  | agg c =>
    obtain ⟨c', rfl, _⟩ := renV_agg ha
    simp only [guardFree, Bool.not_eq_true'] at h
    cases b with
    | agg d => exact run_eqGuard_agg w op t x y c' d h
    | _ => cases op <;> rfl
  | nilIface => simp [guardFree] at h
  | tuple c => obtain ⟨c', rfl, _⟩ := renV_tuple ha; cases op <;> rfl
  | pointer p => cases p <;> simp only [renV] at ha <;> (try split at ha) <;> cases ha <;> cases op <;> rfl
  | slice p l c => cases p <;> simp only [renV] at ha <;> (try split at ha) <;> cases ha <;> cases op <;> rfl
  | map p => cases p <;> simp only [renV] at ha <;> (try split at ha) <;> cases ha <;> cases op <;> rfl
  | chan p => cases p <;> simp only [renV] at ha <;> cases ha <;> cases op <;> rfl
  | func fn f c => obtain ⟨_, f', c', rfl, _⟩ := renV_func ha; cases op <;> rfl
  | iface t v => simp only [renV] at ha; split at ha <;> cases ha; cases op <;> rfl
  | _ => simp only [renV, Option.some.injEq] at ha; subst ha; cases op <;> rfl
theorem binEq_ok {op : BinOp} {t : TypeId} {x y x' y' : Value} {r : Bool} (hx : renV σ x = some x') (hy : renV σ y = some y') (h : eqV P 10000 t x y = some r)
    (hni : ∀ k a k' b, x = .int k a → y = .int k' b → False) (hns : ∀ a b, x = .string a → y = .string b → False) :
    (binOp .eql t x' y').run P w = .ok (.bool r) w ∧ (binOp .neq t x' y').run P w = .ok (.bool (!r)) w := by
  have he : (Op.equal t x' y').run P w = .ok r w := eqV_ok (P := P) (σ := σ) (w := w) 10000 t x y x' y' r h hx hy
  have key : ∀ op', (op' = BinOp.eql ∨ op' = BinOp.neq) → binOp op' t x' y' = (match op' with | .eql => do pure (.bool (← Op.equal t x' y')) | _ => do pure (.bool (!(← Op.equal t x' y')))) := by
    intro op' hop
    unfold eqV at h
    split at h
    all_goals try (cases h; done)
    · rename_i a b hu; simp only [renV, Option.some.injEq] at hx hy; subst hx; subst hy; rcases hop with rfl | rfl <;> rfl
    · rename_i k k1 a k2 b hu; exact (hni _ _ _ _ rfl rfl).elim
    · exact (hns _ _ rfl rfl).elim
    · obtain ⟨us, rfl, _⟩ := renV_agg hx; obtain ⟨vs, rfl, _⟩ := renV_agg hy; rcases hop with rfl | rfl <;> rfl
    · obtain ⟨us, rfl, _⟩ := renV_agg hx; obtain ⟨vs, rfl, _⟩ := renV_agg hy; rcases hop with rfl | rfl <;> rfl
    · rename_i e b hu
      simp only [renV, Option.some.injEq] at hx; subst hx
      cases b with
      | none => simp only [renV, Option.some.injEq] at hy; subst hy; rcases hop with rfl | rfl <;> rfl
      | some b => obtain ⟨b', rfl⟩ := renV_ptr_some hy; rcases hop with rfl | rfl <;> rfl
    · obtain ⟨a', rfl⟩ := renV_ptr_some hx; simp only [renV, Option.some.injEq] at hy; subst hy; rcases hop with rfl | rfl <;> rfl
    · rename_i e l c b l' c' hu
      simp only [renV, Option.some.injEq] at hx; subst hx
      cases b with
      | none => simp only [renV, Option.some.injEq] at hy; subst hy; rcases hop with rfl | rfl <;> rfl
      | some b => obtain ⟨b', c'', rfl⟩ := renV_slice_some hy; rcases hop with rfl | rfl <;> rfl
    · obtain ⟨a', c'', rfl⟩ := renV_slice_some hx; simp only [renV, Option.some.injEq] at hy; subst hy; rcases hop with rfl | rfl <;> rfl
    · simp only [renV, Option.some.injEq] at hx hy; subst hx; subst hy; rcases hop with rfl | rfl <;> rfl
    · simp only [renV, Option.some.injEq] at hx; subst hx; obtain ⟨_, f', c', rfl, _⟩ := renV_func hy; rcases hop with rfl | rfl <;> rfl
    · simp only [renV, Option.some.injEq] at hy; subst hy; obtain ⟨_, f', c', rfl, _⟩ := renV_func hx; rcases hop with rfl | rfl <;> rfl
  constructor
  · rw [key .eql (.inl rfl)]; simp [he]
  · rw [key .neq (.inr rfl)]; simp [he]
theorem binV_ok {op : BinOp} {t : TypeId} {x y : Value} {ox oy : Operand} {x' y' v : Value} (h : binV P op t x y = some v) (hx : renV σ x = some x') (hy : renV σ y = some y') :
    ∃ v', renV σ v = some v' ∧ (do eqGuard op t ox oy x' y'; binOp op t x' y' : Sem Value).run P w = .ok v' w := by
  unfold binV at h
  split at h
  · rename_i k a k' b
    simp only [renV, Option.some.injEq] at hx hy
    subst hx; subst hy
    have hg : (eqGuard op t ox oy (.int k a) (.int k' b)).run P w = .ok () w := by rw [eqGuard_at_int]; rfl
    refine ⟨v, ?_⟩
    split at h
    · obtain ⟨h1, h2⟩ := shV_ok (P := P) (σ := σ) (w := w) (t := t) (yk := k') (.inl rfl) h
      exact ⟨h2, by rw [Sem.run_bind, hg]; exact h1⟩
    · obtain ⟨h1, h2⟩ := shV_ok (P := P) (σ := σ) (w := w) (t := t) (yk := k') (.inr rfl) h
      exact ⟨h2, by rw [Sem.run_bind, hg]; exact h1⟩
    · rename_i n1 n2
      by_cases hk : k = k'
      · subst hk
        simp only [decide_true, cond_true] at h
        obtain ⟨h1, h2⟩ := binI_ok (P := P) (t := t) (w := w) ⟨n1, n2⟩ h
        exact ⟨h2 σ, by rw [Sem.run_bind, hg]; exact h1⟩
      · simp only [hk, decide_false, cond_false] at h; cases h
  · rename_i a b
    simp only [renV, Option.some.injEq] at hx hy
    subst hx; subst hy
    obtain ⟨h1, h2⟩ := binS_ok (P := P) (σ := σ) (w := w) (t := t) h
    exact ⟨v, h2, by rw [Sem.run_bind, eqGuard_at_string]; exact h1⟩
  · rename_i n1 n2
    cases hgf : guardFree P t x with
    | false => rw [hgf] at h; cases h
    | true =>
      rw [hgf] at h
      simp only [cond_true] at h
      have hg := eqGuard_ok (P := P) (σ := σ) (w := w) (op := op) (x := ox) (y := oy) (b := y') hgf hx
      split at h
      · split at h
        · rename_i r hr
          cases h
          exact ⟨.bool r, rfl, by rw [Sem.run_bind, hg]; exact (binEq_ok (op := .eql) (w := w) hx hy hr (fun k a k' b e1 e2 => n1 k a k' b e1 e2) (fun a b e1 e2 => n2 a b e1 e2)).1⟩
        · cases h
      · split at h
        · rename_i r hr
          cases h
          exact ⟨.bool (!r), rfl, by rw [Sem.run_bind, hg]; exact (binEq_ok (op := .neq) (w := w) hx hy hr (fun k a k' b e1 e2 => n1 k a k' b e1 e2) (fun a b e1 e2 => n2 a b e1 e2)).2⟩
        · cases h
      · cases h
def unV (op : UnOp) : Value → Option Value
  | .int k n => match op with
    | .neg => some (.int k (k.wrap (0 - n)))
    | .xor => binI .xor k (bif k.signed then -1 else k.max) n
    | _ => none
  | .bool b => match op with
    | .not => some (.bool (!b))
    | _ => none
  | _ => none
theorem unV_ok {op : UnOp} {x x' v : Value} (h : unV op x = some v) (hx : renV σ x = some x') : ∃ v', renV σ v = some v' ∧ (Op.unary op x').run P w = .ok v' w := by
  unfold unV at h
  split at h
  · rename_i k n
    simp only [renV, Option.some.injEq] at hx
    subst hx
    split at h
    · simp only [Option.some.injEq] at h; subst h; exact ⟨_, rfl, rfl⟩
    · simp only [binI, Option.some.injEq] at h; subst h; refine ⟨_, rfl, ?_⟩; cases hs : k.signed <;> simp [Op.unary, Op.intBits, hs]
    · cases h
  · simp only [renV, Option.some.injEq] at hx
    subst hx
    split at h
    · simp only [Option.some.injEq] at h; subst h; exact ⟨_, rfl, rfl⟩
    · cases h
  · cases h
end
end Go.Proofs.Ytcahhoemlmbnaaa
