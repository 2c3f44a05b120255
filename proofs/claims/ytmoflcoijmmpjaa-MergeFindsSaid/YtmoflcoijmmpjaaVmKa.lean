/-
  The machine that runs in the kernel, part Ka: rows that are no cells; maps; further cuts and appends of grown slices; clear.
-/
import Derived.Test.YtmoflcoijmmpjaaVmGq
import Derived.Test.YtmoflcoijmmpjaaGenq
import Derived.LoopNIn
import Derived.MapKept
import Derived.Lib.AppendZerosOnto
namespace Go.Proofs.Ytmoflcoijmmpjaa
set_option linter.unusedSimpArgs false
set_option linter.unusedVariables false
set_option linter.unusedSectionVars false
open Go Go.RowKit

section
variable {W : World} {lo hi : Nat} {σ τ : Sg} {h h1 : Hp} {w w1 : World}
theorem Stp.allocO (hR : Rl W σ h w) {nx : Nat} (hf : Fresh σ nx (nx + 1)) (o : Obj) (kd : Kd) (hk : KdOk W (σ.bind nx (w.heap.size, 0)) (w.alloc o) nx w.heap.size 0 [] kd) :
    Stp W nx (nx + 1) σ h w (σ.bind nx (w.heap.size, 0)) ((nx, ⟨kd, []⟩) :: h) (w.alloc o) := by
  have hle : σ.le (σ.bind nx (w.heap.size, 0)) := Sg.le_bind (hf nx (Nat.le_refl _) (by omega)).1
  have hblk : ∀ b, b < w.heap.size → (w.alloc o).heap[b]? = w.heap[b]? := fun b hb => Below.block ((Ext.refl w).alloc _) b hb
  refine Stp0.up ⟨hle, fun n hn => ?_, ⟨hR.ext.alloc _, fun n r hl => ?_, fun n m r s p q hn hm hr hs hp hq e => ?_⟩, by simp, fun b hb _ => hblk b hb, fun n r p hl ho hb => ?_⟩ hR.shr hR.wf (bind_shr hR.shr)
  · simp only [Sg.bind, and_true]; rw [if_neg (by omega)]
  · rw [lk_cons] at hl
    split at hl
    · rename_i e; subst e
      cases hl
      exact ⟨w.heap.size, 0, [], by simp [Sg.bind], rfl, hk⟩
    · exact hR.keepA hl hle hblk
  · rw [lk_cons] at hn hm
    simp only [Sg.bind] at hp hq
    split at hn
    · rename_i e1; subst e1
      split at hm
      · assumption
      · rename_i e2
        rw [if_neg (Ne.symm e2)] at hq
        rw [if_pos rfl] at hp
        have := hR.lt hm hs hq
        simp only [Option.some.injEq] at hp
        subst hp
        simp at e; omega
    · rename_i e1
      rw [if_neg (Ne.symm e1)] at hp
      split at hm
      · rename_i e2; subst e2
        rw [if_pos rfl] at hq
        have := hR.lt hn hr hp
        simp only [Option.some.injEq] at hq
        subst hq
        simp at e; omega
      · rename_i e2
        rw [if_neg (Ne.symm e2)] at hq
        exact hR.inj n m r s p q hn hm hr hs hp hq e
  · rw [lk_cons] at hl
    simp only [Sg.bind] at hb
    split at hl
    · rename_i e; subst e; rw [if_pos rfl] at hb; simp only [Option.some.injEq] at hb; subst hb; exact .inl (Nat.le_refl _)
    · rename_i e; rw [if_neg (Ne.symm e)] at hb; exact .inr ⟨n, r, p, hl, ho, hb, rfl⟩
theorem Rl.others (hR : Rl W σ h w) {n : Nat} {r : Rw} (hl : lk h n = some r) (ho : r.own) {p : Nat × Nat} (hb : σ.b n = some p) (o : Obj) {m : Nat} {s : Rw} (hm : lk h m = some s) (hne : m ≠ n) : RowOk W σ (w.putObj p.1 o) m s :=
  hR.keepW hl ho hb hm hne (Sg.le.refl σ) fun b hb' => World.putObj_heap_other hb'
theorem Ext.putObj (hx : Ext W w) {b : Nat} (hb : W.heap.size ≤ b) (o : Obj) : Ext W (w.putObj b o) :=
  Ext.grown hx (grownBy_putObj' w b o) fun r e => by cases e; exact hb
theorem Stp.wipe (hR : Rl W σ h w) {n : Nat} {r : Rw} (hl : lk h n = some r) (ho : r.own) {p : Nat × Nat} (hb : σ.b n = some p) (o : Obj) (lo : Nat) : Stp W lo lo σ h w σ (delH h n) (w.putObj p.1 o) := by
  have hd : ∀ m s, lk (delH h n) m = some s → lk h m = some s ∧ m ≠ n := fun m s e => by
    rw [lk_delH] at e
    split at e
    · cases e
    · rename_i hne; exact ⟨e, Ne.symm hne⟩
  exact Stp0.up ⟨Sg.le.refl σ, fun _ _ => ⟨rfl, rfl⟩, ⟨Ext.putObj hR.ext (hR.ge hl ho hb).1 o, fun m s e => hR.others hl ho hb o (hd m s e).1 (hd m s e).2, fun m k s t p q a b => hR.inj m k s t p q (hd _ _ a).1 (hd _ _ b).1⟩,
    by simp, fun b hb' hno => World.putObj_heap_other fun e => hno n r p hl ho hb e.symm, fun m s q e hs hq => .inr ⟨m, s, q, (hd _ _ e).1, hs, hq, rfl⟩⟩ hR.shr hR.wf (hR.shr.sub fun m s e => ⟨s, (hd _ _ e).1, fun h => h⟩)
theorem Stp.turn (hR : Rl W σ h w) {n : Nat} {r : Rw} (hl : lk h n = some r) (ho : r.own) {p : Nat × Nat} (hb : σ.b n = some p) (o : Obj) (kd : Kd) (hkd : ¬ ShKd kd) (hk : KdOk W σ (w.putObj p.1 o) n p.1 p.2 [] kd) (lo : Nat) :
    Stp W lo lo σ h w σ (setH h n ⟨kd, []⟩) (w.putObj p.1 o) := by
  have hd : ∀ m s, lk (setH h n ⟨kd, []⟩) m = some s → (m = n ∧ s = ⟨kd, []⟩) ∨ (lk h m = some s ∧ m ≠ n) := fun m s e => by
    rw [lk_setH] at e
    split at e
    · rename_i hm; cases e; exact .inl ⟨hm.symm, rfl⟩
    · rename_i hne; exact .inr ⟨e, Ne.symm hne⟩
  have conv : ∀ m s, lk (setH h n ⟨kd, []⟩) m = some s → s.own → ∃ s', lk h m = some s' ∧ s'.own := fun m s e hs => by
    rcases hd m s e with ⟨rfl, _⟩ | ⟨e, _⟩
    · exact ⟨r, hl, ho⟩
    · exact ⟨s, e, hs⟩
  refine Stp0.up ⟨Sg.le.refl σ, fun _ _ => ⟨rfl, rfl⟩, ⟨Ext.putObj hR.ext (hR.ge hl ho hb).1 o, fun m s e => ?_, fun m k s t p q a b hs ht c d e => ?_⟩,
    by simp, fun b hb' hno => World.putObj_heap_other fun e => hno n r p hl ho hb e.symm, fun m s q e hs hq => ?_⟩ hR.shr hR.wf (setH_shr hR.shr hl ho)
  · rcases hd m s e with ⟨rfl, rfl⟩ | ⟨e, hne⟩
    · exact ⟨p.1, p.2, [], hb, rfl, hk⟩
    · exact hR.others hl ho hb o e hne
  · obtain ⟨s', a', hs'⟩ := conv m s a hs
    obtain ⟨t', b', ht'⟩ := conv k t b ht
    exact hR.inj m k s' t' p q a' b' hs' ht' c d e
  · obtain ⟨s', a', hs'⟩ := conv m s e hs
    exact .inr ⟨m, s', q, a', hs', hq, rfl⟩
end

def fixK : Value → Bool
  | .agg ⟨[.int _ _, .int _ _]⟩ => true
  | _ => false
theorem fixK_ren (σ : Sg) {k : Value} (h : fixK k = true) : renV σ k = some k := by
  unfold fixK at h
  split at h
  · exact renV_agg_mk rfl
  · cases h
def keyT (P : Program) (t : TypeId) : Bool := match P.underlying t with
  | some (.array 2 e) => match P.underlying e, P.info? e with
    | some (.int _), some i => Nat.beq i.size 1
    | _, _ => false
  | _ => false
def findV (P : Program) (t : TypeId) (k : Value) : List (Value × Value) → Option (Option Value)
  | [] => some none
  | (k', v) :: es => bif fixK k' then (match eqV P 10000 t k k' with
    | some true => some (some v)
    | some false => findV P t k es
    | none => none) else none
section
variable {P : Program} {w : World}
theorem keyT_ok {t : TypeId} (h : keyT P t = true) : ∃ e k i, P.underlying t = some (.array 2 e) ∧ P.underlying e = some (.int k) ∧ P.info? e = some i ∧ i.size = 1 := by
  unfold keyT at h
  split at h
  · rename_i e hu
    split at h
    · rename_i k i hu2 hi
      exact ⟨e, k, i, hu, hu2, hi, Nat.eq_of_beq_eq_true h⟩
    · cases h
  · cases h
theorem check_ok {t : TypeId} (h : keyT P t = true) {k : Value} (hk : fixK k = true) (b : Bool) : (Instr.checkKey b 10000 t k).run P w = .ok () w := by
  obtain ⟨e, kk, i, h1, h2, h3, h4⟩ := keyT_ok h
  unfold fixK at hk
  split at hk
  case h_2 => cases hk
  rename_i k1 a k2 c
  have hc : ∀ v : Value, (∃ k n, v = .int k n) → (Instr.checkKey b 9999 e v).run P w = .ok () w := by
    rintro v ⟨k, n, rfl⟩
    unfold Instr.checkKey
    simp [run_underlying h2]
  have h5 := hc (.int k1 a) ⟨_, _, rfl⟩
  have h6 := hc (.int k2 c) ⟨_, _, rfl⟩
  unfold Instr.checkKey
  simp [run_underlying h1, run_underlying h2, sizeOf, typeInfo, h3, h4, part, isAgg, Std.Legacy.Range.forIn_eq_forIn_range', List.range'_succ, h5, h6]
theorem ask_ok {t : TypeId} {k : Value} (hk : fixK k = true) : ∀ (A : List MapEntry) (j : Nat) (r : Option Value), findV P t k (A.map fun e => (e.key, e.val)) = some r → (match r with
    | none => (Instr.findAsking t k A j).run P w = .ok none w
    | some v => ∃ i, (Instr.findAsking t k A j).run P w = .ok (some (i, v)) w)
  | [], j, r, h => by
      simp only [List.map_nil, findV, Option.some.injEq] at h
      subst h
      rfl
  | a :: A, j, r, h => by
      simp only [List.map_cons, findV] at h
      cases hf : fixK a.key with
      | false => rw [hf] at h; cases h
      | true =>
        rw [hf] at h
        simp only [cond_true] at h
        split at h
        · rename_i he
          cases h
          have := eqV_ok (P := P) (σ := ⟨fun _ => none, fun _ => none, fun _ => none, fun _ => none, true⟩) (w := w) 10000 t k a.key k a.key true he (fixK_ren _ hk) (fixK_ren _ hf)
          have e2 : (Op.equal t k a.key).run P w = .ok true w := this
          exact ⟨j, by simp [Instr.findAsking, e2]⟩
        · rename_i he
          have := eqV_ok (P := P) (σ := ⟨fun _ => none, fun _ => none, fun _ => none, fun _ => none, true⟩) (w := w) 10000 t k a.key k a.key false he (fixK_ren _ hk) (fixK_ren _ hf)
          have e2 : (Op.equal t k a.key).run P w = .ok false w := this
          have ih := ask_ok hk A (j + 1) r h
          cases r with
          | none => simpa [Instr.findAsking, e2] using ih
          | some v => simpa [Instr.findAsking, e2] using ih
        · cases h
theorem find_ok {t : TypeId} (ht : keyT P t = true) {k : Value} (hk : fixK k = true) {A : List MapEntry} {r : Option Value} (h : findV P t k (A.map fun e => (e.key, e.val)) = some r) : (match r with
    | none => (Instr.findKey t k A).run P w = .ok none w
    | some v => ∃ i, (Instr.findKey t k A).run P w = .ok (some (i, v)) w) := by
  obtain ⟨e, kk, i, h1, h2, h3, h4⟩ := keyT_ok ht
  have key : (Instr.findKey t k A).run P w = (Instr.findAsking t k A 0).run P w := by
    cases A with
    | nil => simp [Instr.findKey, run_underlying h1, Instr.findNow, Instr.findAsking]
    | cons a A => simp [Instr.findKey, run_underlying h1, Instr.findNow, Instr.sameNow]
  have := ask_ok (P := P) (w := w) hk A 0 r h
  cases r with
  | none => rw [key]; exact this
  | some v => obtain ⟨i, hi⟩ := this; exact ⟨i, by rw [key]; exact hi⟩
end
def mapEs (h : Hp) : Value → Option (List (Value × Value))
  | .map none => some []
  | .map (some n) => match lk h n with
    | some ⟨.mp es, _⟩ => some es
    | _ => none
  | _ => none
def lookV (P : Program) (h : Hp) (t : TypeId) (x i : Value) (ok : Bool) : Option Value :=
  match P.underlying t with
  | some (.map kt et) => match mapEs h x, P.info? et with
    | some es, some inf => bif keyT P kt && fixK i then (match findV P kt i es, inf.zero with
      | some (some v), _ => bif noAd v then some (bif ok then .tuple ⟨[v, .bool true]⟩ else v) else none
      | some none, some z => bif noAd z then some (bif ok then .tuple ⟨[z, .bool false]⟩ else z) else none
      | _, _ => none) else none
    | _, _ => none
  | _ => none
section
variable {P : Program} {W : World} {σ : Sg} {h : Hp} {w : World}
theorem mapEs_ok (hR : Rl W σ h w) {x x' : Value} {es : List (Value × Value)} (hm : mapEs h x = some es) (hx : renV σ x = some x') :
    (x' = .map none ∧ es = []) ∨ ∃ n r p A k, x = .map (some n) ∧ lk h n = some ⟨.mp es, r⟩ ∧ σ.b n = some p ∧ p.2 = 0 ∧ x' = .map (some p.1) ∧ w.heap[p.1]? = some (.map A k) ∧ A.toList.map (fun e => (e.key, e.val)) = es := by
  unfold mapEs at hm
  split at hm
  · cases hm
    simp only [renV, Option.some.injEq] at hx
    exact .inl ⟨hx.symm, rfl⟩
  · rename_i n
    split at hm
    · rename_i es' cs hl
      cases hm
      obtain ⟨b, s, vs, hb, hv, h1, h2, h3, A, k, e, h4⟩ := hR.row _ _ hl
      simp only [renV, hb, Option.some.injEq] at hx
      exact .inr ⟨n, cs, (b, s), A, k, rfl, hl, hb, h1, hx.symm, e, h4⟩
    · cases hm
  · cases hm
theorem lookV_ok (hR : Rl W σ h w) {t : TypeId} {x i x' i' v : Value} {ok : Bool} (hv : lookV P h t x i ok = some v) (hx : renV σ x = some x') (hi : renV σ i = some i') :
    renV σ v = some v ∧ (Instr.lookup t x' i' ok).run P w = .ok v w := by
  unfold lookV at hv
  split at hv
  case h_2 => cases hv
  rename_i kt et hu
  split at hv
  case h_2 => cases hv
  rename_i es inf hes hinf
  cases hg : (keyT P kt && fixK i) with
  | false => rw [hg] at hv; cases hv
  | true =>
    rw [hg] at hv
    simp only [cond_true] at hv
    simp only [Bool.and_eq_true] at hg
    have hkf := hg.2
    rw [fixK_ren σ hkf] at hi
    cases hi
    have hsrc : ∃ A : Array MapEntry, A.toList.map (fun e => (e.key, e.val)) = es ∧ ((x' = .map none ∧ A = #[]) ∨ ∃ r k, x' = .map (some r) ∧ w.heap[r]? = some (.map A k)) := by
      rcases mapEs_ok hR hes hx with ⟨rfl, rfl⟩ | ⟨n, r, p, A, k, _, _, _, _, rfl, hA, he⟩
      · exact ⟨#[], rfl, .inl ⟨rfl, rfl⟩⟩
      · exact ⟨A, he, .inr ⟨p.1, k, rfl, hA⟩⟩
    obtain ⟨A, hAe, hA⟩ := hsrc
    have hck := check_ok (P := P) (w := w) hg.1 hkf
    have hrun1 : ∀ v, findV P kt i es = some (some v) → (Instr.lookup t x' i ok).run P w = .ok (if ok then Value.tuple #[v, .bool true] else v) w := by
      intro v hr
      rw [← hAe] at hr
      obtain ⟨j, hj⟩ := find_ok (P := P) (w := w) hg.1 hkf hr
      rcases hA with ⟨rfl, rfl⟩ | ⟨r', k', rfl, hA⟩
      · simp [findV] at hr
      · simp [Instr.lookup, run_underlying hu, MapKept.run_getObj_map hA, hck, hj]
    have hrun2 : ∀ z, findV P kt i es = some none → inf.zero = some z → (Instr.lookup t x' i ok).run P w = .ok (if ok then Value.tuple #[z, .bool false] else z) w := by
      intro z hr hz
      rw [← hAe] at hr
      have hf := find_ok (P := P) (w := w) hg.1 hkf hr
      simp only at hf
      rcases hA with ⟨rfl, rfl⟩ | ⟨r', k', rfl, hA⟩
      · simp only [Array.toList_empty] at hf
        simp [Instr.lookup, run_underlying hu, hck, hf, zeroValue, typeInfo, hinf, hz]
      · simp [Instr.lookup, run_underlying hu, MapKept.run_getObj_map hA, hck, hf, zeroValue, typeInfo, hinf, hz]
    split at hv
    · rename_i u hf
      cases hn : noAd u with
      | false => rw [hn] at hv; cases hv
      | true =>
        rw [hn] at hv
        simp only [cond_true, Option.some.injEq] at hv
        subst hv
        have hu' := noAd_ren σ hn
        refine ⟨?_, ?_⟩
        · cases ok with
          | true => exact renV_tuple_mk (by simp only [renL, hu', renV, cond_true])
          | false => exact hu'
        · rw [hrun1 _ hf]
          cases ok <;> rfl
    · rename_i z hf hz
      cases hn : noAd z with
      | false => rw [hn] at hv; cases hv
      | true =>
        rw [hn] at hv
        simp only [cond_true, Option.some.injEq] at hv
        subst hv
        have hu' := noAd_ren σ hn
        refine ⟨?_, ?_⟩
        · cases ok with
          | true => exact renV_tuple_mk (by simp only [renL, hu', renV, cond_true])
          | false => exact hu'
        · rw [hrun2 _ hf hz]
          cases ok <;> rfl
    · cases hv
end
end Go.Proofs.Ytmoflcoijmmpjaa
