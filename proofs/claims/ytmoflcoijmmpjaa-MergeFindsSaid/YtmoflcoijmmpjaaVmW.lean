/-
  The machine that runs in the kernel, part W: functions of other make that read memory.
-/
import Derived.Test.YtmoflcoijmmpjaaVmV
import Derived.Lib.BytesEntry
namespace Go.Proofs.Ytmoflcoijmmpjaa
set_option linter.unusedSimpArgs false
set_option linter.unusedVariables false
set_option linter.unusedSectionVars false
open Go Go.RowKit

def intsV : Nat → List Value → Option (List Int)
  | 0, _ => some []
  | n + 1, .int .u8 x :: vs => bif decide (0 ≤ x ∧ x < 256) then (match intsV n vs with | some l => some (x :: l) | none => none) else none
  | _, _ => none
def bytesV (h : Hp) : Value → Option (List Int)
  | .slice none _ _ => some []
  | .slice (some ⟨n, o, none⟩) len _ => match lk h n with
    | some r => intsV len (r.cs.drop o)
    | none => none
  | _ => none
theorem intsV_ok {σ : Sg} : ∀ {n : Nat} {vs vs' : List Value} {l : List Int}, intsV n vs = some l → renL σ vs = some vs' → l.length = n ∧ (∀ (j : Nat) (x : Int), l[j]? = some x → vs'[j]? = some (Value.int .u8 x)) ∧ ∀ x ∈ l, 0 ≤ x ∧ x < 256
  | 0, vs, vs', l, h, hr => by simp only [intsV, Option.some.injEq] at h; subst h; exact ⟨rfl, fun j x e => by simp at e, fun x hx => by cases hx⟩
  | n + 1, [], vs', l, h, hr => by simp [intsV] at h
  | n + 1, v :: vs, vs', l, h, hr => by
      obtain ⟨a, b, h1, h2, rfl⟩ := renL_cons hr
      unfold intsV at h
      split at h
      · rename_i e; cases e
      · rename_i n' x us e1 e2
        cases e1
        cases e2
        obtain ⟨hb, h⟩ := bif_of h
        have hb := of_decide_eq_true hb
        split at h
        · rename_i l' hl
          cases h
          obtain ⟨i1, i2, i3⟩ := intsV_ok hl h2
          simp only [renV, Option.some.injEq] at h1
          subst h1
          refine ⟨by simp [i1], fun j y e => ?_, fun y hy => ?_⟩
          · cases j with
            | zero => simp at e; subst e; rfl
            | succ j => simp at e ⊢; exact i2 j y e
          · rcases List.mem_cons.1 hy with rfl | hy
            · exact hb
            · exact i3 y hy
        · cases h
      · cases h
theorem bytesV_ok {P : Program} {W : World} {σ : Sg} {h : Hp} {w : World} (hR : Rl W σ h w) {v v' : Value} {l : List Int} (hv : bytesV h v = some l) (hr : renV σ v = some v') : (Extern.Bytes.bytesOf v').run P w = .ok ⟨(Lib.bytesOf l).toArray⟩ w ∧ ∀ x ∈ l, 0 ≤ x ∧ x < 256 := by
  unfold bytesV at hv
  split at hv
  · simp only [renV, Option.some.injEq] at hr
    cases hv
    subst hr
    exact ⟨rfl, fun x hx => by cases hx⟩
  · rename_i n o len c
    split at hv
    · rename_i r hl
      obtain ⟨q, vs, hb', hvs, hc⟩ := hR.cell hl
      obtain ⟨i1, i2, i3⟩ := intsV_ok hv (renL_drop o hvs)
      rcases renV_slice hr with ⟨p, c', hb, _, rfl, _⟩ | ⟨_, rfl, _, rfl⟩
      case inr =>
        obtain rfl := List.eq_nil_of_length_eq_zero i1
        refine ⟨?_, fun x hx => by cases hx⟩
        cases σ.e n <;> rfl
      have e0 : q = p := by rw [hb] at hb'; exact (Option.some.inj hb').symm
      subst e0
      refine ⟨?_, i3⟩
      have := Lib.run_loadBytesX (P := P) w l ⟨q.1, q.2 + o, none⟩ .empty (fun j x hj => by
        have e : (⟨q.1, q.2 + o, none⟩ : Addr).add j = ⟨q.1, q.2 + (o + j), none⟩ := by unfold Addr.add; split <;> simp_all [Nat.add_assoc]
        rw [e]
        refine hc (o + j) _ ?_
        have := i2 j x hj
        rw [List.getElem?_drop] at this
        exact this)
      rw [i1] at this
      show (Extern.Bytes.loadBytes ⟨q.1, q.2 + o, none⟩ len .empty).run P w = _
      rw [this]
      simp
    · cases hv
  · cases hv
def cmpI : List Int → List Int → Int
  | [], [] => 0
  | [], _ :: _ => -1
  | _ :: _, [] => 1
  | a :: as, b :: bs => bif decide (a < b) then -1 else bif decide (b < a) then 1 else cmpI as bs
theorem u8_lt {a b : Int} (ha : 0 ≤ a ∧ a < 256) (hb : 0 ≤ b ∧ b < 256) : (a.toNat.toUInt8 < b.toNat.toUInt8) = (a < b) := by
  rw [eq_iff_iff, UInt8.lt_iff_toNat_lt]
  have e1 : (a.toNat.toUInt8).toNat = a.toNat % 256 := by simp
  have e2 : (b.toNat.toUInt8).toNat = b.toNat % 256 := by simp
  rw [e1, e2]
  omega
theorem cmpI_eq : ∀ (xs ys : List Int), (∀ x ∈ xs, 0 ≤ x ∧ x < 256) → (∀ x ∈ ys, 0 ≤ x ∧ x < 256) → cmpI xs ys = Lib.compareBytes (Lib.bytesOf xs) (Lib.bytesOf ys)
  | [], [], _, _ => by simp [cmpI, Lib.compareBytes, Lib.bytesOf]
  | [], _ :: _, _, _ => by simp [cmpI, Lib.compareBytes, Lib.bytesOf]
  | _ :: _, [], _, _ => by simp [cmpI, Lib.compareBytes, Lib.bytesOf]
  | a :: as, b :: bs, hx, hy => by
      have ih := cmpI_eq as bs (fun x h => hx x (by simp [h])) (fun x h => hy x (by simp [h]))
      have h1 := u8_lt (hx a (by simp)) (hy b (by simp))
      have h2 := u8_lt (hy b (by simp)) (hx a (by simp))
      simp only [cmpI, Lib.bytesOf, List.map_cons, Lib.compareBytes, h1, h2] at ih ⊢
      rw [← ih]
      by_cases e1 : a < b <;> by_cases e2 : b < a <;> simp [e1, e2]
theorem cmp_def (a b : Value) : Extern.BytealgCompare.compare #[a, b] = (do pure (goInt (Extern.BytealgCompare.cmp (← Extern.Bytes.bytesOf a) (← Extern.Bytes.bytesOf b)))) := rfl
def cmpX (f0 : FuncId) (f : FuncId) (args : List Value) (h : Hp) : Option Value :=
  bif Nat.beq f f0 then (match args with
  | [a, b] => match bytesV h a, bytesV h b with
    | some xs, some ys => some (.int .i64 (cmpI xs ys))
    | _, _ => none
  | _ => none) else none
theorem cmp_one {P : Program} {f0 : FuncId} (hrun : ∀ args w, (callFunc f0 args).run P w = ((Extern.BytealgCompare.compare args).run P w).andThen fun v w' => .ok (.value v) w') : XOne P (cmpX f0) := by
  intro f args h v hv W σ w args' hR ha
  simp only [cmpX] at hv
  obtain ⟨hf, h1⟩ := bif_of hv
  clear hv
  obtain rfl := Nat.eq_of_beq_eq_true hf
  split at h1
  · rename_i a b
    split at h1
    · rename_i xs ys hx hy
      cases h1
      obtain ⟨a', l, ea, el, rfl⟩ := renL_cons ha
      obtain ⟨b', l', eb, el', rfl⟩ := renL_cons el
      simp only [renL, Option.some.injEq] at el'
      subst el'
      obtain ⟨r1, k1⟩ := bytesV_ok (P := P) hR hx ea
      obtain ⟨r2, k2⟩ := bytesV_ok (P := P) hR hy eb
      refine ⟨rfl, ?_⟩
      rw [hrun]
      have ea' : [a', b'].toArray = #[a', b'] := rfl
      rw [ea', cmp_def]
      simp only [Sem.run_bind, r1, r2, Result.andThen_ok, Sem.run_pure]
      rw [Lib.cmp_eq, cmpI_eq xs ys k1 k2]
      rfl
    · cases h1
  · cases h1
end Go.Proofs.Ytmoflcoijmmpjaa
