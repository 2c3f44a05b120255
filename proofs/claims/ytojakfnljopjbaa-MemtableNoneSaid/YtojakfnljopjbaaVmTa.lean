/-
  The machine that runs in the kernel, part Ta: loops over iterators: their records, the blocks for the rounds' deferred calls.
-/
import Derived.Test.YtojakfnljopjbaaVmMq
import Derived.LoopNIn
namespace Go.Proofs.Ytojakfnljopjbaa
set_option linter.unusedSimpArgs false
set_option linter.unusedVariables false
set_option linter.unusedSectionVars false
open Go Go.RowKit

section
variable {W : World} {lo hi : Nat} {σ τ : Sg} {h h1 : Hp} {w w1 : World}
/-- A new row of any kind. -/
theorem Stp.allocO (hR : Rl W σ h w) {nx : Nat} (hf : Fresh σ nx (nx + 1)) (o : Obj) (kd : Kd) (hk : KdOk W (σ.bind nx (w.heap.size, 0)) (w.alloc o) nx w.heap.size 0 [] kd) :
    Stp W nx (nx + 1) σ h w (σ.bind nx (w.heap.size, 0)) ((nx, ⟨kd, []⟩) :: h) (w.alloc o) := by
  have hle : σ.le (σ.bind nx (w.heap.size, 0)) := Sg.le_bind (hf nx (Nat.le_refl _) (by omega)).1
  have hblk : ∀ b, b < w.heap.size → (w.alloc o).heap[b]? = w.heap[b]? := fun b hb => Below.block ((Ext.refl w).alloc _) b hb
  refine ⟨hle, fun n hn => ?_, ⟨hR.ext.alloc _, fun n r hl => ?_, fun n m r s p q hn hm hr hs hp hq e => ?_⟩, by simp, fun b hb _ => hblk b hb, fun n r p hl ho hb => ?_⟩
  · simp only [Sg.bind, and_true]; rw [if_neg (by omega)]
  · rw [lk_cons] at hl
    split at hl
    · rename_i e; subst e
      cases hl
      exact ⟨w.heap.size, 0, [], by simp [Sg.bind], rfl, hk⟩
    · exact (hR.row n r hl).keep hle fun ho p hb => hblk _ (hR.lt hl hb)
  · rw [lk_cons] at hn hm
    simp only [Sg.bind] at hp hq
    split at hn
    · rename_i e1; subst e1
      split at hm
      · assumption
      · rename_i e2
        rw [if_neg (Ne.symm e2)] at hq
        rw [if_pos rfl] at hp
        have := hR.lt hm hq
        simp only [Option.some.injEq] at hp
        subst hp
        simp at e; omega
    · rename_i e1
      rw [if_neg (Ne.symm e1)] at hp
      split at hm
      · rename_i e2; subst e2
        rw [if_pos rfl] at hq
        have := hR.lt hn hp
        simp only [Option.some.injEq] at hq
        subst hq
        simp at e; omega
      · rename_i e2
        rw [if_neg (Ne.symm e2)] at hq
        exact hR.inj n m r s p q hn hm hr hs hp hq e
  · rw [lk_cons] at hl
    simp only [Sg.bind] at hb
    split at hl
    · rename_i e; subst e; rw [if_pos rfl] at hb; simp only [Option.some.injEq] at hb; subst hb; exact .inl (Nat.le_refl _)
    · rename_i e; rw [if_neg (Ne.symm e)] at hb; exact .inr ⟨n, r, p, hl, ho, hb, rfl⟩
/-- What a turn of a row's block leaves of the others. -/
theorem Rl.others (hR : Rl W σ h w) {n : Nat} {r : Rw} (hl : lk h n = some r) (ho : r.own) {p : Nat × Nat} (hb : σ.b n = some p) (o : Obj) {m : Nat} {s : Rw} (hm : lk h m = some s) (hne : m ≠ n) : RowOk W σ (w.putObj p.1 o) m s :=
  (hR.row m s hm).keep (Sg.le.refl σ) fun hs q hq => World.putObj_heap_other fun e => hne (hR.inj m n s r q p hm hl hs ho hq hb e)
theorem Ext.putObj (hx : Ext W w) {b : Nat} (hb : W.heap.size ≤ b) (o : Obj) : Ext W (w.putObj b o) :=
  Ext.grown hx (grownBy_putObj' w b o) fun r e => by cases e; exact hb
/-- A row's block turns, and the row is forgotten. -/
theorem Stp.wipe (hR : Rl W σ h w) {n : Nat} {r : Rw} (hl : lk h n = some r) (ho : r.own) {p : Nat × Nat} (hb : σ.b n = some p) (o : Obj) (lo : Nat) : Stp W lo lo σ h w σ (delH h n) (w.putObj p.1 o) := by
  have hd : ∀ m s, lk (delH h n) m = some s → lk h m = some s ∧ m ≠ n := fun m s e => by
    rw [lk_delH] at e
    split at e
    · cases e
    · rename_i hne; exact ⟨e, Ne.symm hne⟩
  exact ⟨Sg.le.refl σ, fun _ _ => ⟨rfl, rfl⟩, ⟨Ext.putObj hR.ext (hR.ge hl ho hb).1 o, fun m s e => hR.others hl ho hb o (hd m s e).1 (hd m s e).2, fun m k s t p q a b => hR.inj m k s t p q (hd _ _ a).1 (hd _ _ b).1⟩,
    by simp, fun b hb' hno => World.putObj_heap_other fun e => hno n r p hl ho hb e.symm, fun m s q e hs hq => .inr ⟨m, s, q, (hd _ _ e).1, hs, hq, rfl⟩⟩
/-- A row's block turns, and the row with it. -/
theorem Stp.turn (hR : Rl W σ h w) {n : Nat} {r : Rw} (hl : lk h n = some r) (ho : r.own) {p : Nat × Nat} (hb : σ.b n = some p) (o : Obj) (kd : Kd) (hkd : kd ≠ .old) (hk : KdOk W σ (w.putObj p.1 o) n p.1 p.2 [] kd) (lo : Nat) :
    Stp W lo lo σ h w σ (setH h n ⟨kd, []⟩) (w.putObj p.1 o) := by
  have hd : ∀ m s, lk (setH h n ⟨kd, []⟩) m = some s → (m = n ∧ s = ⟨kd, []⟩) ∨ (lk h m = some s ∧ m ≠ n) := fun m s e => by
    rw [lk_setH] at e
    split at e
    · rename_i hm; cases e; exact .inl ⟨hm.symm, rfl⟩
    · rename_i hne; exact .inr ⟨e, Ne.symm hne⟩
  have conv : ∀ m s, lk (setH h n ⟨kd, []⟩) m = some s → s.own → ∃ s', lk h m = some s' ∧ s'.own := fun m s e hs => by
    rcases hd m s e with ⟨rfl, _⟩ | ⟨e, _⟩
    · exact ⟨r, hl, ho⟩
    · exact ⟨s, e, hs⟩
  refine ⟨Sg.le.refl σ, fun _ _ => ⟨rfl, rfl⟩, ⟨Ext.putObj hR.ext (hR.ge hl ho hb).1 o, fun m s e => ?_, fun m k s t p q a b hs ht c d e => ?_⟩,
    by simp, fun b hb' hno => World.putObj_heap_other fun e => hno n r p hl ho hb e.symm, fun m s q e hs hq => ?_⟩
  · rcases hd m s e with ⟨rfl, rfl⟩ | ⟨e, hne⟩
    · exact ⟨p.1, p.2, [], hb, rfl, hk⟩
    · exact hR.others hl ho hb o e hne
  · obtain ⟨s', a', hs'⟩ := conv m s a hs
    obtain ⟨t', b', ht'⟩ := conv k t b ht
    exact hR.inj m k s' t' p q a' b' hs' ht' c d e
  · obtain ⟨s', a', hs'⟩ := conv m s e hs
    exact .inr ⟨m, s', q, a', hs', hq, rfl⟩
end

/-! ### temporaries as a list, and the round's own -/
def tmL (ts : Tm) : Nat → List Value → List Value
  | 0, acc => acc
  | k + 1, acc => match tg ts k with
    | some v => tmL ts k (v :: acc)
    | none => []
theorem tmL_ok {σ : Sg} {ts : Tm} {tmps : Array Value} (ht : RT σ ts tmps) {v : Value} {tm : List Value} : ∀ (k : Nat) (acc acc' : List Value), k ≤ tmps.size → renL σ acc = some acc' → tmL ts k acc = v :: tm → renL σ (v :: tm) = some (tmps.toList.take k ++ acc')
  | 0, acc, acc', _, h, e => by simp only [tmL] at e; rw [← e]; simpa using h
  | k + 1, acc, acc', hk, h, he => by
      have hlt : k < tmps.size := by omega
      have e : tmps.toList.take (k + 1) ++ acc' = tmps.toList.take k ++ (tmps[k] :: acc') := by
        rw [List.take_add_one]; simp [hlt]
      rw [e]
      simp only [tmL] at he
      split at he
      · rename_i u hu
        have h1 := ht.s k u hu
        simp only [Array.getD_eq_getD_getElem?, Array.getElem?_eq_getElem hlt, Option.getD_some] at h1
        exact tmL_ok ht k _ _ (by omega) (renL_mk h1 h) he
      · cases he
def putL : Tm → List Tmp → List Value → Tm
  | ts, t :: l, v :: vs => putL (tput ts t v) l vs
  | ts, _, _ => ts
def putA : Array Value → List Tmp → List Value → Array Value
  | a, t :: l, v :: vs => putA (a.setIfInBounds t v) l vs
  | a, _, _ => a
theorem putL_ok {σ : Sg} : ∀ {l : List Tmp} {vs vs' : List Value} {ts : Tm} {tmps : Array Value}, RT σ ts tmps → renL σ vs = some vs' → RT σ (putL ts l vs) (putA tmps l vs')
  | [], vs, vs', ts, tmps, h, hv => by simpa [putL, putA] using h
  | t :: l, [], vs', ts, tmps, h, hv => by simp only [renL, Option.some.injEq] at hv; subst hv; simpa [putL, putA] using h
  | t :: l, v :: vs, vs', ts, tmps, h, hv => by
      obtain ⟨a, b, h1, h2, rfl⟩ := renL_cons hv
      show RT σ (putL (tput ts t v) l vs) (putA (tmps.setIfInBounds t a) l b)
      exact putL_ok (h.put t h1) h2
theorem putA_eq : ∀ (l : List Tmp) (vs : List Value) (a : Array Value), (l.zip vs).foldl (fun tmps x => tmps.setIfInBounds x.1 x.2) a = putA a l vs
  | [], vs, a => by simp [putA]
  | t :: l, [], a => by simp [putA]
  | t :: l, v :: vs, a => by simpa [putA] using putA_eq l vs _

/-! ### marks -/
def dfR (σ : Sg) : List Nat → Option (List Deferred)
  | [] => some []
  | n :: ms => match σ.b n, dfR σ ms with | some p, some ds => some ({ target := .collected p.1, args := #[] } :: ds) | _, _ => none
theorem dfR_le {σ τ : Sg} (h : σ.le τ) : ∀ {ms : List Nat} {ds : List Deferred}, dfR σ ms = some ds → dfR τ ms = some ds
  | [], ds, e => e
  | n :: ms, ds, e => by
      simp only [dfR] at e ⊢
      split at e
      · rename_i p ds' h1 h2; rw [h.1 n p h1, dfR_le h h2]; exact e
      · cases e
theorem dfR_app {σ : Sg} : ∀ {ms ms' : List Nat} {ds ds' : List Deferred}, dfR σ ms = some ds → dfR σ ms' = some ds' → dfR σ (ms ++ ms') = some (ds ++ ds')
  | [], ms', ds, ds', h, h' => by simp only [dfR, Option.some.injEq] at h; subst h; simpa using h'
  | n :: ms, ms', ds, ds', h, h' => by
      simp only [dfR, List.cons_append] at h ⊢
      split at h
      · rename_i p d h1 h2; cases h; rw [h1, dfR_app h2 h']; rfl
      · cases h
def dropM : List Nat → Hp → Option Hp
  | [], h => some h
  | n :: ms, h => match lk h n with
    | some ⟨.marks, _⟩ => dropM ms (delH h n)
    | _ => none
theorem dropM_tidy {nx : Nat} : ∀ {ms : List Nat} {h h' : Hp}, dropM ms h = some h' → (∀ n, lk h n = none → lk h' n = none) ∧ (∀ n, n ∉ ms → lk h' n = lk h n)
  | [], h, h', e => by cases e; exact ⟨fun _ e => e, fun _ _ => rfl⟩
  | m :: ms, h, h', e => by
      simp only [dropM] at e
      split at e
      · obtain ⟨a, b⟩ := dropM_tidy (nx := nx) e
        refine ⟨fun n hn => a n (by rw [lk_delH]; split <;> simp [hn]), fun n hn => ?_⟩
        rw [b n (fun hm => hn (by simp [hm])), lk_delH, if_neg (fun e => hn (by simp [e]))]
      · cases e
theorem leaves_marks {P : Program} {F : Fence} {m : Nat} {fn : Func} {tmps : Array Value} {R : Ending → World → Prop} {W : World} {σ : Sg} (lo : Nat) : ∀ {ms : List Nat} {ds : List Deferred} {h h' : Hp} {w : World}, dropM ms h = some h' → dfR σ ms = some ds → Rl W σ h w →
    (∀ w', Stp W lo lo σ h w σ h' w' → LeavesInM F m P fn tmps R [] .returning w') → LeavesInM F m P fn tmps R ds .returning w
  | [], ds, h, h', w, hd, hf, hR, H => by
      simp only [dfR, Option.some.injEq] at hf
      subst hf
      cases hd
      exact H w (Stp.refl hR lo)
  | n :: ms, ds, h, h', w, hd, hf, hR, H => by
      simp only [dropM] at hd
      split at hd
      · rename_i cs hl
        simp only [dfR] at hf
        split at hf
        · rename_i p ds' h1 h2
          cases hf
          obtain ⟨b, s, vs, hb, _, hk⟩ := hR.row _ _ hl
          rw [h1] at hb
          cases hb
          have S := Stp.wipe hR hl (by simp [Rw.own]) h1 (.deferred none) lo
          exact ⟨by simp, .inl ⟨b, _, rfl, run_takeDeferred hk.2.2.2, leaves_marks lo hd h2 S.rl fun w' S' => H w' (S.trans S' (Nat.le_refl _) (Nat.le_refl _))⟩⟩
        · cases hf
      · cases hd
end Go.Proofs.Ytojakfnljopjbaa
