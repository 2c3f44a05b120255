/-
  The machine that runs in the kernel, part H: the operations that make rows, store, copy, append.
-/
import Derived.Test.YtcahhoemlmbnaaaVmG
import Derived.Deep.AppendSrc
import Derived.Test.YtcahhoemlmbnaaaMake
namespace Go.Proofs.Ytcahhoemlmbnaaa
set_option linter.unusedSimpArgs false
set_option linter.unusedVariables false
set_option linter.unusedSectionVars false
open Go Go.RowKit

def one1 : Value → Bool
  | .agg _ => false
  | .tuple _ => false
  | _ => true
def all1 : List Value → Bool
  | [] => true
  | v :: vs => bif one1 v then all1 vs else false
theorem one1_eq (v : Value) : one1 v = v.oneCell' := by cases v <;> rfl
theorem all1_ok {σ : Sg} : ∀ {l m : List Value}, all1 l = true → renL σ l = some m → ∀ u ∈ m, u.oneCell' = true
  | [], m, _, h => by simp [renL] at h; subst h; simp
  | v :: vs, m, ha, h => by
      obtain ⟨a, b, h1, h2, rfl⟩ := renL_cons h
      simp only [all1] at ha
      cases hv : one1 v with
      | false => rw [hv] at ha; cases ha
      | true =>
        rw [hv] at ha
        intro u hu
        rcases List.mem_cons.1 hu with rfl | hu
        · rw [(renV_cells h1).2, ← one1_eq]; exact hv
        · exact all1_ok ha h2 u hu
theorem isOwn_ok {r : Rw} (h : isOwn r.kd = true) : r.wr := h

inductive Mk where
  | ptr
  | sl (len cap : Nat)
def Mk.val : Mk → Nat → Value
  | .ptr, n => .pointer (some ⟨n, 0, none⟩)
  | .sl l c, n => .slice (some ⟨n, 0, none⟩) l c
def Mk.fine : Mk → Bool
  | .ptr => true
  | .sl _ c => Nat.blt c capBig
def zrep (zs : List Value) (n : Nat) : List Value :=
  match zs with
  | [z] => List.replicate n z
  | zs => (List.range n).map fun i => zs.getD (i % zs.length) undef
theorem zrep_ren (σ : Sg) {zs : List Value} (h : noAdL zs = true) (h0 : 0 < zs.length) (n : Nat) : renL σ (zrep zs n) = some (zrep zs n) := by
  have hz := noAdL_ren σ h
  have hg : ∀ i, renV σ (zs.getD (i % zs.length) undef) = some (zs.getD (i % zs.length) undef) := fun i => by
    have hlt : i % zs.length < zs.length := Nat.mod_lt _ h0
    obtain ⟨v', h1, h2⟩ := renL_get hz (i % zs.length) _ (List.getElem?_eq_getElem hlt)
    rw [List.getElem?_eq_getElem hlt] at h1
    cases h1
    simp only [List.getD, List.getElem?_eq_getElem hlt, Option.getD_some]
    exact h2
  unfold zrep
  split
  · rename_i z
    refine renL_rep ?_ n
    obtain ⟨a, b, h1, _, e⟩ := renL_cons hz
    cases e; exact h1
  · exact renL_id _ hg _
theorem zrep_made {z : Array Value} (h0 : 0 < z.size) (n : Nat) : (madeCells z n).toList = zrep z.toList n := by
  unfold zrep
  split
  · rename_i x hx
    have : z = #[x] := by apply Array.toList_inj.1; simpa using hx
    subst this
    exact madeCells_one x n
  · simp only [madeCells, Array.toList_map, Array.toList_range]
    apply List.map_congr_left
    intro i _
    have hlt : i % z.size < z.size := Nat.mod_lt _ h0
    simp [List.getD, hlt]

def newV (P : Program) (ev : Operand → Option Value) : Op → Option (List Value × Mk × TypeId)
  | .alloc t => match P.info? t with
    | some i => match i.zero with
      | some z => bif noAdL z.cells.toList then some (z.cells.toList, .ptr, t) else none
      | none => none
    | none => none
  | .box t x => match ev x with
    | some v => some (v.cells.toList, .ptr, t)
    | none => none
  | .buildSlice t len parts => match P.underlying t with
    | some (.slice e) => match P.info? e, evP ev parts.toList with
      | some i, some ps => match i.zero with
        | some z => bif noAdL z.cells.toList && Nat.ble 1 z.cells.toList.length && Nat.ble (len * i.size) 16777216 && Nat.blt len capBig then (match fillL (fun k => some (k * i.size, i.size)) (zrep z.cells.toList (len * i.size)) ps with
          | some cs => some (cs, .sl len len, e)
          | none => none) else none
        | none => none
      | _, _ => none
    | _ => none
  | .makeSlice t l c => match P.underlying t with
    | some (.slice e) => match P.info? e, ev l, ev c with
      | some i, some (.int _ l), some (.int _ c) => match i.zero with
        | some z => bif noAdL z.cells.toList && Nat.ble 1 z.cells.toList.length && decide (0 ≤ l ∧ l ≤ c ∧ (i.bytes : Int) * c ≤ 281474976710656 ∧ c ≤ 9223372036854775807) then some (zrep z.cells.toList (c.toNat * i.size), .sl l.toNat c.toNat, e) else none
        | none => none
      | _, _, _ => none
    | _ => none
  | _ => none
section
variable {P : Program} {W : World} {σ : Sg} {h : Hp} {w : World} {ev : Operand → Option Value} {a : Act}
theorem newV_ok (H : Evs σ ev a) {o : Oper} {cs : List Value} {m : Mk} {t : TypeId} (hn : newV P ev o.op = some (cs, m, t)) : (∃ vs, renL σ cs = some vs ∧ (execOp a.eval o).run P w = .ok (.value (m.val w.heap.size)) (w.alloc (.cells vs.toArray t))) ∧ (m.fine = true) := by
  obtain ⟨dst, op, type, pos, after, guard⟩ := o
  have lift : ∀ {s : Sem Value} {v' : Value} {w' : World}, s.run P w = .ok v' w' → (do pure (Next.value (← s)) : Sem Next).run P w = .ok (.value v') w' := fun e => by simp [e]
  cases op <;> simp only [newV] at hn <;> simp only [execOp] <;> try (cases hn; done)
  case alloc ty =>
    cases hi : P.info? ty with
    | none => rw [hi] at hn; cases hn
    | some i =>
      rw [hi] at hn
      simp only at hn
      cases hz : i.zero with
      | none => rw [hz] at hn; cases hn
      | some z =>
        rw [hz] at hn
        cases hc : noAdL z.cells.toList with
        | false => simp only [hc, cond_false] at hn; cases hn
        | true =>
          simp only [hc, cond_true, Option.some.injEq, Prod.mk.injEq] at hn
          obtain ⟨rfl, rfl, rfl⟩ := hn
          refine ⟨⟨z.cells.toList, noAdL_ren σ hc, lift ?_⟩, rfl⟩
          simp [Instr.alloc, zeroValue, typeInfo, hi, hz, newVar, newRow, Mk.val]
  case box ty x =>
    split at hn
    · rename_i v hv
      simp only [Option.some.injEq, Prod.mk.injEq] at hn
      obtain ⟨rfl, rfl, rfl⟩ := hn
      refine ⟨⟨_, (renV_cells (H x v hv)).1, lift ?_⟩, rfl⟩
      simp [Instr.box, newVar, newRow, Mk.val]
    · cases hn
  case buildSlice ty len parts =>
    split at hn
    · rename_i e hu
      split at hn
      · rename_i i ps hi hp
        cases hz : i.zero with
        | none => rw [hz] at hn; cases hn
        | some z =>
          rw [hz] at hn
          simp only at hn
          cases hg : (noAdL z.cells.toList && Nat.ble 1 z.cells.toList.length && Nat.ble (len * i.size) 16777216 && Nat.blt len capBig) with
          | false => rw [hg] at hn; cases hn
          | true =>
            rw [hg] at hn
            simp only [cond_true] at hn
            simp only [Bool.and_eq_true, Nat.ble_eq] at hg
            obtain ⟨⟨⟨g1, g2⟩, g3⟩, g4⟩ := hg
            split at hn
            · rename_i cs' hf
              simp only [Option.some.injEq, Prod.mk.injEq] at hn
              obtain ⟨rfl, rfl, rfl⟩ := hn
              have h0 : 0 < z.cells.size := by simp only [Array.length_toList] at g2; omega
              obtain ⟨vs, hv, hfill⟩ := fillL_ok _ (evP_ok H hp) (zrep_ren σ g1 (by omega) (len * i.size)) hf
              refine ⟨⟨vs, hv, lift ?_⟩, g4⟩
              have hmc : ∀ (q : Array Value), (len * i.size = 0 ∨ q = z.cells) → (Array.range (len * i.size)).map (fun x => q[x % q.size]!) = (zrep z.cells.toList (len * i.size)).toArray := by
                intro q hq
                rcases hq with e0 | rfl
                · rw [e0]; unfold zrep; split <;> simp
                · rw [← zrep_made h0]; apply Array.toList_inj.1; simp [madeCells]
              have hparts : (parts.map fun (x : Nat × Operand) => (x.1, a.eval x.2)).toList = parts.toList.map fun p => (p.1, a.eval p.2) := by simp
              have hle : ¬ (2 ^ 24 < len * i.size) := by omega
              simp only [Instr.buildSlice, Sem.run_bind, run_underlying hu, Result.andThen_ok, sizeOf, typeInfo, run_program, hi, Sem.run_pure]
              rw [if_neg (by simpa using hle)]
              by_cases e0 : len * i.size = 0
              · rw [if_pos e0]
                have hm := hmc #[] (.inl e0)
                simp only [Sem.run_bind, Sem.run_pure, Result.andThen_ok, hm, hparts, hfill, newRow, run_newObj, Mk.val]
                rfl
              · rw [if_neg e0]
                have hm := hmc z.cells (.inr rfl)
                have hzr : (zeroValue e).run P w = .ok z w := by simp [zeroValue, typeInfo, hi, hz]
                simp only [Sem.run_bind, Sem.run_pure, Result.andThen_ok, hzr, hm, hparts, hfill, newRow, run_newObj, Mk.val]
                rfl
            · cases hn
      · cases hn
    · cases hn
  case makeSlice ty ol oc =>
    split at hn
    · rename_i e hu
      split at hn
      · rename_i i k1 l k2 c hi hl hc
        cases hz : i.zero with
        | none => rw [hz] at hn; cases hn
        | some z =>
          rw [hz] at hn
          simp only at hn
          by_cases hb : 0 ≤ l ∧ l ≤ c ∧ (i.bytes : Int) * c ≤ 281474976710656 ∧ c ≤ 9223372036854775807
          case neg => simp only [hb, decide_false, Bool.and_false, cond_false] at hn; cases hn
          cases hg : (noAdL z.cells.toList && Nat.ble 1 z.cells.toList.length) with
          | false => simp only [hg, Bool.false_and, cond_false] at hn; cases hn
          | true =>
            simp only [hg, hb, and_self, decide_true, Bool.and_self, cond_true, Option.some.injEq, Prod.mk.injEq] at hn
            obtain ⟨rfl, rfl, rfl⟩ := hn
            simp only [Bool.and_eq_true, Nat.ble_eq] at hg
            have hl' := H ol _ hl
            have hc' := H oc _ hc
            simp only [renV, Option.some.injEq] at hl' hc'
            have h0 : 0 < z.cells.size := by have := hg.2; simp only [Array.length_toList] at this; omega
            refine ⟨⟨zrep z.cells.toList (c.toNat * i.size), zrep_ren σ hg.1 (by omega) _, lift ?_⟩, ?_⟩
            · rw [← hl', ← hc']
              have := run_make (P := P) w ty e i z hu hi hz k1 k2 l c hb.1 hb.2.1 hb.2.2.1 hb.2.2.2
              rw [this, ← zrep_made h0]
              simp [Mk.val]
            · show Nat.blt c.toNat capBig = true
              have : c.toNat < capBig := by unfold capBig; omega
              exact Nat.ble_eq_true_of_le this
      · cases hn
    · cases hn
theorem Mk.val_ren {m : Mk} (hf : m.fine = true) {n : Nat} {σ : Sg} {b : Nat} (hb : σ.b n = some (b, 0)) : renV σ (m.val n) = some (m.val b) := by
  cases m with
  | ptr => simpa [Mk.val] using renV_ptr_mk (o := 0) hb
  | sl l c =>
    have hlt := cpR_low hf
    simpa [Mk.val] using renV_slice_mk (o := 0) (l := l) hb (cpR_of (σ := σ) hlt (Nat.le_refl c))
end

/-! ### stores -/
def storeV (P : Program) (h : Hp) (t : TypeId) (x v : Value) : Option (Nat × Hp) :=
  match x with
  | .pointer (some ⟨n, o, none⟩) => match lk h n, P.info? t with
    | some r, some i => bif isOwn r.kd && Nat.beq v.cells.toList.length i.size && all1 v.cells.toList && Nat.ble (o + v.cells.toList.length) r.cs.length then (frc (splice r.cs o v.cells.toList) fun cs => some (n, setH h n ⟨r.kd, cs⟩)) else none
    | _, _ => none
  | _ => none
section
variable {P : Program} {W : World} {σ : Sg} {h : Hp} {w : World}
theorem storeV_ok (hR : Rl W σ h w) (lo : Nat) {t : TypeId} {x v x' v' : Value} {n : Nat} {h' : Hp} (hs : storeV P h t x v = some (n, h')) (hx : renV σ x = some x') (hv : renV σ v = some v') :
    ∃ w', Stp W lo lo σ h w σ h' w' ∧ (Instr.storeAt t x' v').run P w = .ok () w' := by
  unfold storeV at hs
  split at hs
  · rename_i m o
    split at hs
    · rename_i r i hl hi
      cases hg : (isOwn r.kd && Nat.beq v.cells.toList.length i.size && all1 v.cells.toList && Nat.ble (o + v.cells.toList.length) r.cs.length) with
      | false => rw [hg] at hs; cases hs
      | true =>
        rw [hg] at hs
        simp only [cond_true, frc_eq, Option.some.injEq, Prod.mk.injEq] at hs
        obtain ⟨rfl, rfl⟩ := hs
        simp only [Bool.and_eq_true, Nat.ble_eq] at hg
        obtain ⟨⟨⟨g1, g2⟩, g3⟩, g4⟩ := hg
        obtain ⟨p, hb, rfl⟩ := renV_ptr hx
        have ho := isOwn_ok g1
        have hvc := (renV_cells hv).1
        have hlen := renL_len hvc
        have h1 := all1_ok g3 hvc
        have hst := hR.put_cells (P := P) hl ho hb (o := o) (us := v'.cells.toList) h1 (by omega)
        refine ⟨_, Stp.put hR lo hl ho hb hvc g4, ?_⟩
        have e2 := Nat.eq_of_beq_eq_true g2
        simp only [Array.length_toList] at e2 hlen
        have e3 : v'.cells.size = i.size := by rw [hlen, e2]
        simp only [Instr.storeAt, Instr.sureAddr, Sem.run_bind, Sem.run_pure, Result.andThen_ok, storeVar, sizeOf, typeInfo, run_program, hi, e3]
        simpa using hst
    · cases hs
  · cases hs
end
end Go.Proofs.Ytcahhoemlmbnaaa
