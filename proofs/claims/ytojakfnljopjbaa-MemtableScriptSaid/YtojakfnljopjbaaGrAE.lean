/-
  The machine that runs in the kernel, part H: the operations that make rows, store, copy, append.
-/
import Derived.Test.YtojakfnljopjbaaGrAD
import Derived.Deep.AppendSrc
import Derived.Test.YtojakfnljopjbaaGrAA
import Derived.RangeFuncNested
import Derived.RangeFuncLeaves
import Derived.RangeFuncBound
import Derived.TacticsIn
import Derived.LoopIn
import Derived.WalkMore
namespace Go.Proofs.Ytojakfnljopjbaa
set_option linter.unusedSimpArgs false
set_option linter.unusedVariables false
set_option linter.unusedSectionVars false
open Go Go.RowKit

def one1 : Value → Bool
 | .agg _ => false
 | .tuple _ => false
 | _ => true
def all1 : List Value → Bool
 | [] => true
 | v :: vs => bif one1 v then all1 vs else false
theorem one1_eq (v : Value) : one1 v = v.oneCell' := by cases v <;> rfl
theorem Ma {σ : Sg} : ∀ {l m : List Value}, all1 l = true → renL σ l = some m → ∀ u ∈ m, u.oneCell' = true
 | [], m, _, h => by simp [renL] at h; subst h; simp
 | v :: vs, m, ha, h => by
   obtain ⟨a, b, h1, h2, rfl⟩ := B9 h
   simp only [all1] at ha
   cases hv : one1 v with
   | false => rw [hv] at ha; cases ha
   | true =>
    rw [hv] at ha
    intro u hu
    rcases List.mem_cons.1 hu with rfl | hu
    ·rw [(H8 h1).2, ← one1_eq]; exact hv
    ·exact Ma ha h2 u hu
theorem J8 {r : Rw} (h : I1 r.kd = true) : r.wr := h

inductive Mk where
 | ptr
 | sl (len cap : Nat)
def Mk.val : Mk → Nat → Value
 | .ptr, n => .pointer (some ⟨n, 0, none⟩)
 | .sl l c, n => .slice (some ⟨n, 0, none⟩) l c
def Mk.fine : Mk → Bool
 | .ptr => true
 | .sl l c => Nat.blt c B0 && Nat.ble l c
def zrep (zs : List Value) (n : Nat) : List Value :=
 match zs with
 | [z] => List.replicate n z
 | zs => (List.range n).map fun i => zs.getD (i % zs.length) undef
theorem zrep_ren (σ : Sg) {zs : List Value} (h : D5 zs = true) (h0 : 0 < zs.length) (n : Nat) : renL σ (zrep zs n) = some (zrep zs n) := by
 have hz := Cj σ h
 have hg : ∀ i, renV σ (zs.getD (i % zs.length) undef) = some (zs.getD (i % zs.length) undef) := fun i => by
  have hlt : i % zs.length < zs.length := Nat.mod_lt _ h0
  obtain ⟨v', h1, h2⟩ := Hw hz (i % zs.length) _ (List.getElem?_eq_getElem hlt)
  rw [List.getElem?_eq_getElem hlt] at h1
  cases h1
  simp only [List.getD, List.getElem?_eq_getElem hlt, Option.getD_some]
  exact h2
 unfold zrep
 split
 ·rename_i z
  refine renL_rep ?_ n
  obtain ⟨a, b, h1, _, e⟩ := B9 hz
  cases e; exact h1
 ·exact Jl _ hg _
theorem L7 {z : Array Value} (h0 : 0 < z.size) (n : Nat) : (madeCells z n).toList = zrep z.toList n := by
 unfold zrep
 split
 ·rename_i x hx
  have : z = #[x] := by apply Array.toList_inj.1; simpa using hx
  subst this
  exact madeCells_one x n
 ·simp only [madeCells, Array.toList_map, Array.toList_range]
  apply List.map_congr_left
  intro i _
  have hlt : i % z.size < z.size := Nat.mod_lt _ h0
  simp [List.getD, hlt]

def newV (P : Program) (ev : Operand → Option Value) : Op → Option (List Value × Mk × TypeId)
 | .alloc t => match P.info? t with
  | some i => match i.zero with
   | some z => bif D5 z.cells.toList then some (z.cells.toList, .ptr, t) else none
   | none => none
  | none => none
 | .box t x => match ev x with
  | some v => some (v.cells.toList, .ptr, t)
  | none => none
 | .buildSlice t len parts => match P.underlying t with
  | some (.slice e) => match P.info? e, evP ev parts.toList with
   | some i, some ps => match i.zero with
    | some z => bif D5 z.cells.toList && Nat.ble 1 z.cells.toList.length && Nat.ble (len * i.size) 16777216 && Nat.blt len B0 then (match fillL (fun k => some (k * i.size, i.size)) (zrep z.cells.toList (len * i.size)) ps with
     | some cs => some (cs, .sl len len, e)
     | none => none) else none
    | none => none
   | _, _ => none
  | _ => none
 | .makeSlice t l c => match P.underlying t with
  | some (.slice e) => match P.info? e, ev l, ev c with
   | some i, some (.int _ l), some (.int _ c) => match i.zero with
    | some z => bif D5 z.cells.toList && Nat.ble 1 z.cells.toList.length && decide (0 ≤ l ∧ l ≤ c ∧ (i.bytes : Int) * c ≤ 281474976710656 ∧ c ≤ 9223372036854775807) then some (zrep z.cells.toList (c.toNat * i.size), .sl l.toNat c.toNat, e) else none
    | none => none
   | _, _, _ => none
  | _ => none
 | _ => none
section
variable {P : Program} {W : World} {σ : Sg} {h : Hp} {w : World} {ev : Operand → Option Value} {a : Act}
theorem newV_ok (H : Evs σ ev a) {o : Oper} {cs : List Value} {m : Mk} {t : TypeId} (hn : newV P ev o.op = some (cs, m, t)) : (∃ vs, renL σ cs = some vs ∧ (execOp a.eval o).run P w = .ok (.value (m.val w.heap.size)) (w.alloc (.cells vs.toArray t))) ∧ (m.fine = true) := by
 obtain ⟨dst, op, type, pos, after, guard⟩ := o
 have lift : ∀ {s : Sem Value} {v' : Value} {w' : World}, s.run P w = .ok v' w' → (do pure (Next.value (← s)) : Sem Next).run P w = .ok (.value v') w' := fun e => by simp [e]
 cases op <;> simp only [newV] at hn <;> simp only [execOp] <;> try (cases hn; done)
 case alloc ty =>
  cases hi : P.info? ty with
  | none => rw [hi] at hn; cases hn
  | some i =>
   rw [hi] at hn
   simp only at hn
   cases hz : i.zero with
   | none => rw [hz] at hn; cases hn
   | some z =>
    rw [hz] at hn
    cases hc : D5 z.cells.toList with
    | false => simp only [hc, cond_false] at hn; cases hn
    | true =>
     simp only [hc, cond_true, oI, pI] at hn
     obtain ⟨rfl, rfl, rfl⟩ := hn
     refine ⟨⟨z.cells.toList, Cj σ hc, lift ?_⟩, rfl⟩
     simp [Instr.alloc, zeroValue, typeInfo, hi, hz, newVar, newRow, Mk.val]
 case box ty x =>
  split at hn
  ·rename_i v hv
   simp only [oI, pI] at hn
   obtain ⟨rfl, rfl, rfl⟩ := hn
   refine ⟨⟨_, (H8 (H x v hv)).1, lift ?_⟩, rfl⟩
   simp [Instr.box, newVar, newRow, Mk.val]
  ·cases hn
 case buildSlice ty len parts =>
  split at hn
  ·rename_i e hu
   split at hn
   ·rename_i i ps hi hp
    cases hz : i.zero with
    | none => rw [hz] at hn; cases hn
    | some z =>
     rw [hz] at hn
     simp only at hn
     cases hg : (D5 z.cells.toList && Nat.ble 1 z.cells.toList.length && Nat.ble (len * i.size) 16777216 && Nat.blt len B0) with
     | false => rw [hg] at hn; cases hn
     | true =>
      rw [hg] at hn
      simp only [cond_true] at hn
      simp only [Bool.and_eq_true, Nat.ble_eq] at hg
      obtain ⟨⟨⟨g1, g2⟩, g3⟩, g4⟩ := hg
      split at hn
      ·rename_i cs' hf
       simp only [oI, pI] at hn
       obtain ⟨rfl, rfl, rfl⟩ := hn
       have h0 : 0 < z.cells.size := by simp only [Array.length_toList] at g2; omega
       obtain ⟨vs, hv, hfill⟩ := Kp _ (evP_ok H hp) (zrep_ren σ g1 (by omega) (len * i.size)) hf
       refine ⟨⟨vs, hv, lift ?_⟩, by simp only [Mk.fine, g4, Bool.true_and]; exact Nat.ble_eq_true_of_le (Nat.le_refl _)⟩
       have hmc : ∀ (q : Array Value), (len * i.size = 0 ∨ q = z.cells) → (Array.range (len * i.size)).map (fun x => q[x % q.size]!) = (zrep z.cells.toList (len * i.size)).toArray := by
        intro q hq
        rcases hq with e0 | rfl
        ·rw [e0]; unfold zrep; split <;> simp
        ·rw [← L7 h0]; apply Array.toList_inj.1; simp [madeCells]
       have hparts : (parts.map fun (x : Nat × Operand) => (x.1, a.eval x.2)).toList = parts.toList.map fun p => (p.1, a.eval p.2) := by simp
       have hle : ¬ (2 ^ 24 < len * i.size) := by omega
       simp only [Instr.buildSlice, Sem.run_bind, run_underlying hu, Result.andThen_ok, sizeOf, typeInfo, run_program, hi, Sem.run_pure]
       rw [if_neg (by simpa using hle)]
       by_cases e0 : len * i.size = 0
       ·rw [if_pos e0]
        have hm := hmc #[] (.inl e0)
        simp only [Sem.run_bind, Sem.run_pure, Result.andThen_ok, hm, hparts, hfill, newRow, run_newObj, Mk.val]
        rfl
       ·rw [if_neg e0]
        have hm := hmc z.cells (.inr rfl)
        have hzr : (zeroValue e).run P w = .ok z w := by simp [zeroValue, typeInfo, hi, hz]
        simp only [Sem.run_bind, Sem.run_pure, Result.andThen_ok, hzr, hm, hparts, hfill, newRow, run_newObj, Mk.val]
        rfl
      ·cases hn
   ·cases hn
  ·cases hn
 case makeSlice ty ol oc =>
  split at hn
  ·rename_i e hu
   split at hn
   ·rename_i i k1 l k2 c hi hl hc
    cases hz : i.zero with
    | none => rw [hz] at hn; cases hn
    | some z =>
     rw [hz] at hn
     simp only at hn
     by_cases hb : 0 ≤ l ∧ l ≤ c ∧ (i.bytes : Int) * c ≤ 281474976710656 ∧ c ≤ 9223372036854775807
     case neg => simp only [hb, decide_false, Bool.and_false, cond_false] at hn; cases hn
     cases hg : (D5 z.cells.toList && Nat.ble 1 z.cells.toList.length) with
     | false => simp only [hg, Bool.false_and, cond_false] at hn; cases hn
     | true =>
      simp only [hg, hb, and_self, decide_true, Bool.and_self, cond_true, oI, pI] at hn
      obtain ⟨rfl, rfl, rfl⟩ := hn
      simp only [Bool.and_eq_true, Nat.ble_eq] at hg
      have hl' := H ol _ hl
      have hc' := H oc _ hc
      simp only [renV, oI] at hl' hc'
      have h0 : 0 < z.cells.size := by have := hg.2; simp only [Array.length_toList] at this; omega
      refine ⟨⟨zrep z.cells.toList (c.toNat * i.size), zrep_ren σ hg.1 (by omega) _, lift ?_⟩, ?_⟩
      ·rw [← hl', ← hc']
       have := run_make (P := P) w ty e i z hu hi hz k1 k2 l c hb.1 hb.2.1 hb.2.2.1 hb.2.2.2
       rw [this, ← L7 h0]
       simp [Mk.val]
      ·have : c.toNat < B0 := by unfold B0; omega
       have h1 : Nat.blt c.toNat B0 = true := Nat.ble_eq_true_of_le this
       have h2 : Nat.ble l.toNat c.toNat = true := Nat.ble_eq_true_of_le (by omega)
       simp only [Mk.fine, h1, h2, Bool.and_self]
   ·cases hn
  ·cases hn
theorem Mk.val_ren {m : Mk} (hf : m.fine = true) {n : Nat} {σ : Sg} {b : Nat} (hb : σ.b n = some (b, 0)) (hnn : σ.f n ≠ none) : renV σ (m.val n) = some (m.val b) := by
 cases m with
 | ptr => simpa [Mk.val] using Da (o := 0) hb hnn
 | sl l c =>
  simp only [Mk.fine, Bool.and_eq_true] at hf
  have hlt := In hf.1
  simpa [Mk.val] using B5 (o := 0) (l := l) hb (E8 (σ := σ) hlt (Nat.le_refl c)) hnn (.inr (Nat.le_of_ble_eq_true hf.2))
end

def Jy (P : Program) (h : Hp) (t : TypeId) (x v : Value) : Option (Nat × Hp) :=
 match x with
 | .pointer (some ⟨n, o, none⟩) => match lk h n, P.info? t with
  | some r, some i => bif I1 r.kd && Nat.beq v.cells.toList.length i.size && all1 v.cells.toList && Nat.ble (o + v.cells.toList.length) r.cs.length then (frc (Bg r.cs o v.cells.toList) fun cs => some (n, setH h n ⟨r.kd, cs⟩)) else none
  | _, _ => none
 | _ => none
section
variable {P : Program} {W : World} {σ : Sg} {h : Hp} {w : World}
theorem storeV_ok (hR : Rl W σ h w) (lo : Nat) {t : TypeId} {x v x' v' : Value} {n : Nat} {h' : Hp} (hs : Jy P h t x v = some (n, h')) (hx : renV σ x = some x') (hv : renV σ v = some v') :
  ∃ w', Stp W lo lo σ h w σ h' w' ∧ (Instr.storeAt t x' v').run P w = .ok () w' := by
 unfold Jy at hs
 split at hs
 ·rename_i m o
  split at hs
  ·rename_i r i hl hi
   cases hg : (I1 r.kd && Nat.beq v.cells.toList.length i.size && all1 v.cells.toList && Nat.ble (o + v.cells.toList.length) r.cs.length) with
   | false => rw [hg] at hs; cases hs
   | true =>
    rw [hg] at hs
    simp only [cond_true, Cz, oI, pI] at hs
    obtain ⟨rfl, rfl⟩ := hs
    simp only [Bool.and_eq_true, Nat.ble_eq] at hg
    obtain ⟨⟨⟨g1, g2⟩, g3⟩, g4⟩ := hg
    obtain ⟨p, hb, rfl, hnn⟩ := E4 hx
    have ho := J8 g1
    have hvc := (H8 hv).1
    have hlen := Bn hvc
    have h1 := Ma g3 hvc
    have hst := hR.put_cells (P := P) hl ho hb (o := o) (us := v'.cells.toList) h1 (by omega)
    refine ⟨_, Stp.put hR lo hl ho hb hvc g4, ?_⟩
    have e2 := Nat.eq_of_beq_eq_true g2
    simp only [Array.length_toList] at e2 hlen
    have e3 : v'.cells.size = i.size := by rw [hlen, e2]
    simp only [Instr.storeAt, Instr.sureAddr, Sem.run_bind, Sem.run_pure, Result.andThen_ok, storeVar, sizeOf, typeInfo, run_program, hi, e3]
    simpa using hst
  ·cases hs
 ·cases hs
end
def srcV (P : Program) (h : Hp) (size : Nat) (tx : TypeId) (x : Value) : Option (Nat × List Value) :=
 match P.underlying tx, x with
 | some (.slice _), .slice none n _ => bif Nat.beq n 0 then some (0, []) else none
 | some (.slice _), .slice (some ⟨m, o, none⟩) n _ => match Ej h m o (n * size) with
  | some cs => bif all1 cs then some (n, cs) else none
  | none => bif Nat.beq n 0 then some (0, []) else none
 | some .string, .string s => bif Nat.beq size 1 then some (s.data.toList.length, s.data.toList.map fun b => Value.int .u8 b.toNat) else none
 | _, _ => none
section
variable {P : Program} {W : World} {σ : Sg} {h : Hp} {w : World}
theorem Src.ofEmpty (w : World) {size : Nat} {tx e : TypeId} (hu : P.underlying tx = some (.slice e)) (a : Option Addr) (c : Nat) : Src P size tx (.slice a 0 c) 0 [] w := by
 cases a with
 | none => exact Src.ofNil w hu c
 | some a => exact Src.ofSlice w hu a 0 c [] (by simp) (fun j u hj => by simp at hj) (fun u hu => by cases hu)
theorem D9 (w : World) (size : Nat) (a : Option Addr) (c : Nat) : (Builtin.firstCells size 0 (.slice a 0 c)).run P w = .ok ([] : List Value).toArray w := by
 cases a with
 | none => exact run_firstCells_none w size 0 0 c
 | some a => exact run_firstCells_some (P := P) w size 0 a 0 c [] (by simp) (fun j u hj => by simp at hj)
theorem Dz (hR : Rl W σ h w) {size : Nat} {tx : TypeId} {x x' : Value} {n : Nat} {cs : List Value} (hs : srcV P h size tx x = some (n, cs)) (hx : renV σ x = some x') :
  ∃ us, renL σ cs = some us ∧ Src P size tx x' n us w := by
 unfold srcV at hs
 split at hs
 ·rename_i e n' c hu
  cases hz : Nat.beq n' 0 with
  | false => rw [hz] at hs; cases hs
  | true =>
   rw [hz] at hs
   cases hs
   have e0 := Nat.eq_of_beq_eq_true hz
   subst e0
   simp only [renV, oI] at hx
   subst hx
   exact ⟨[], rfl, Src.ofNil w hu c⟩
 ·rename_i e m o n' c hu
  split at hs
  ·rename_i cs' hc
   cases ha : all1 cs' with
   | false => rw [ha] at hs; cases hs
   | true =>
    rw [ha] at hs
    cases hs
    rcases B7 hx with ⟨p, c', hb, _, rfl, _⟩ | ⟨_, rfl, _, rfl⟩
    case inr =>
     obtain ⟨p', us, hb', h2, h3, h4, h5⟩ := D0 hR hc
     obtain rfl := List.eq_nil_of_length_eq_zero (h4.trans (Nat.zero_mul _))
     exact ⟨[], rfl, Src.ofEmpty w hu _ 0⟩
    obtain ⟨p', us, hb', h2, h3, h4, h5⟩ := D0 hR hc
    rw [hb] at hb'
    cases hb'
    exact ⟨us, h2, Src.ofSlice w hu ⟨p.1, p.2 + o, none⟩ _ c' us h3 (fun j u hj => by rw [C3]; exact h5 j u hj) (Ma ha h2)⟩
  ·cases hz : Nat.beq n' 0 with
   | false => rw [hz] at hs; cases hs
   | true =>
    rw [hz] at hs
    cases hs
    have e0 := Nat.eq_of_beq_eq_true hz
    subst e0
    rcases B7 hx with ⟨p, c', hb, _, rfl, _⟩ | ⟨_, _, _, rfl⟩
    case inr => exact ⟨[], rfl, Src.ofEmpty w hu _ 0⟩
    exact ⟨[], rfl, Src.ofSlice w hu ⟨p.1, p.2 + o, none⟩ 0 c' [] (by simp) (fun j u hj => by simp at hj) (fun u hu => by cases hu)⟩
 ·rename_i s hu
  cases hz : Nat.beq size 1 with
  | false => rw [hz] at hs; cases hs
  | true =>
   rw [hz] at hs
   cases hs
   have e0 := Nat.eq_of_beq_eq_true hz
   subst e0
   simp only [renV, oI] at hx
   subst hx
   refine ⟨byteCells s, Jl _ (fun _ => rfl) _, ?_⟩
   have := Src.ofString w hu s
   have e : s.data.toList.length = s.size := by simp
   rw [e]
   exact this
 ·cases hs
theorem run_copy_src {t tx ty e : TypeId} {i : TypeInfo} (ht : P.underlying t = some (.slice e)) (hi : P.info? e = some i) {b off off' dl dc : Nat} {x : Value} {m : Nat} {news : List Value} (hl : (Builtin.lenOf x).run P w = .ok m w)
  (hc : (Builtin.firstCells i.size (Nat.min m dl) x).run P w = .ok news.toArray w) (hst : (storeCells ⟨b, off, none⟩ news).run P w = .ok () (w.setCells b off' news)) :
  (Builtin.copy_ #[t, tx] ty #[.slice (some ⟨b, off, none⟩) dl dc, x]).run P w = .ok (goInt (Nat.min m dl)) (w.setCells b off' news) := by
 simp [Builtin.copy_, run_underlying ht, hl, sizeOf, typeInfo, hi, hc, hst]
def copyV (P : Program) (h : Hp) (t tx : TypeId) (d x : Value) : Option (Value × Hp × List Nat) :=
 match P.underlying t, d with
 | some (.slice e), .slice (some ⟨n, o, none⟩) dl _ => match P.info? e, lk h n with
  | some i, some r => match srcV P h i.size tx x with
   | some (m, cs) => bif I1 r.kd && Nat.ble (o + (cs.take (Nat.min m dl * i.size)).length) r.cs.length then some (.int .i64 (Nat.min m dl : Nat), setH h n ⟨r.kd, Bg r.cs o (cs.take (Nat.min m dl * i.size))⟩, [n]) else none
   | none => none
  | _, _ => none
 | some (.slice e), .slice none dl _ => bif Nat.beq dl 0 then (match P.info? e with
   | some i => match srcV P h i.size tx x with
    | some _ => some (.int .i64 (0 : Nat), h, [])
    | none => none
   | none => none) else none
 | _, _ => none
theorem Iu {size n k : Nat} {tx : TypeId} {x : Value} {us : List Value} (hs : Src P size tx x n us w) (hx : (∃ a c, x = .slice a n c) ∨ (∃ s, x = .string s ∧ size = 1)) (hk : k ≤ n)
  (hc : ∀ a c, x = .slice (some a) n c → ∀ j u, us[j]? = some u → w.cell? (a.add j) = some u) : (Builtin.firstCells size k x).run P w = .ok (us.take (k * size)).toArray w := by
 rcases hx with ⟨a, c, rfl⟩ | ⟨s, rfl, rfl⟩
 ·cases a with
  | none =>
   have h1 := hs.cells
   rw [run_firstCells_none] at h1
   have : us = [] := by
    have := (Result.ok.inj h1).1
    have := congrArg Array.toList this
    simpa using this.symm
   subst this
   rw [run_firstCells_none]; simp
  | some a =>
   refine run_firstCells_some (P := P) w size k a n c (us.take (k * size)) ?_ fun j u hj => ?_
   ·rw [List.length_take, hs.newsLen]; exact Nat.min_eq_left (Nat.mul_le_mul_right _ hk)
   ·rw [List.getElem?_take] at hj
    split at hj
    ·exact hc a c rfl j u hj
    ·cases hj
 ·have h1 := hs.cells
  have hl := hs.newsLen
  rw [Nat.mul_one] at hl ⊢
  simp only [Builtin.firstCells, Sem.run_pure, Result.ok.injEq, and_true] at h1 ⊢
  have h2 := congrArg Array.toList h1
  simp only [Array.toList_map] at h2
  apply Array.toList_inj.1
  have h3 : (s.extract 0 n).data.toList.take k = (s.extract 0 k).data.toList := by
   simp [List.extract_eq_take_drop, List.take_take, Nat.min_eq_left hk]
  simp only [Array.toList_map]
  rw [← h3, List.map_take, h2]
theorem srcV_cells (hR : Rl W σ h w) {size : Nat} {tx : TypeId} {x x' : Value} {n : Nat} {cs us : List Value} (hs : srcV P h size tx x = some (n, cs)) (hx : renV σ x = some x') (hu' : renL σ cs = some us) :
  ((∃ a c, x' = .slice a n c) ∨ (∃ s, x' = .string s ∧ size = 1)) ∧ ∀ a c, x' = .slice (some a) n c → ∀ j u, us[j]? = some u → w.cell? (a.add j) = some u := by
 unfold srcV at hs
 split at hs
 ·rename_i e n' c hu
  cases hz : Nat.beq n' 0 with
  | false => rw [hz] at hs; cases hs
  | true =>
   rw [hz] at hs; cases hs
   have := Nat.eq_of_beq_eq_true hz; subst this
   simp only [renV, oI] at hx
   subst hx
   exact ⟨.inl ⟨_, _, rfl⟩, fun a c e => by cases e⟩
 ·rename_i e m o n' c hu
  split at hs
  ·rename_i cs' hc
   cases ha : all1 cs' with
   | false => rw [ha] at hs; cases hs
   | true =>
    rw [ha] at hs; cases hs
    rcases B7 hx with ⟨p, c', hb, _, rfl, _⟩ | ⟨_, rfl, _, rfl⟩
    case inr =>
     obtain ⟨p', vs, hb', h2, h3, h4, h5⟩ := D0 hR hc
     obtain rfl := List.eq_nil_of_length_eq_zero (h4.trans (Nat.zero_mul _))
     simp only [renL, oI] at hu'
     subst hu'
     exact ⟨.inl ⟨_, _, rfl⟩, fun a c e j u hj => by simp at hj⟩
    obtain ⟨p', vs, hb', h2, h3, h4, h5⟩ := D0 hR hc
    rw [hb] at hb'
    cases hb'
    rw [hu'] at h2
    cases h2
    refine ⟨.inl ⟨_, _, rfl⟩, fun a c e j u hj => ?_⟩
    cases e
    rw [C3]; exact h5 j u hj
  ·cases hz : Nat.beq n' 0 with
   | false => rw [hz] at hs; cases hs
   | true =>
    rw [hz] at hs; cases hs
    have := Nat.eq_of_beq_eq_true hz; subst this
    rcases B7 hx with ⟨p, c', hb, _, rfl, _⟩ | ⟨_, _, _, rfl⟩
    case inr =>
     simp only [renL, oI] at hu'
     subst hu'
     exact ⟨.inl ⟨_, _, rfl⟩, fun a c e j u hj => by simp at hj⟩
    simp only [renL, oI] at hu'
    subst hu'
    exact ⟨.inl ⟨_, _, rfl⟩, fun a c e j u hj => by simp at hj⟩
 ·cases hz : Nat.beq size 1 with
  | false => rw [hz] at hs; cases hs
  | true =>
   rw [hz] at hs; cases hs
   simp only [renV, oI] at hx
   subst hx
   exact ⟨.inr ⟨_, rfl, Nat.eq_of_beq_eq_true hz⟩, fun a c e => by cases e⟩
 ·cases hs
theorem all1_of {l m : List Value} (h1 : ∀ u ∈ m, u.oneCell' = true) (k : Nat) : ∀ u ∈ m.take k, u.oneCell' = true := fun u hu => h1 u (List.mem_of_mem_take hu)
theorem copyV_ok (hR : Rl W σ h w) (lo : Nat) {t tx ty : TypeId} {d x d' x' v : Value} {h' : Hp} {dd : List Nat} (hc : copyV P h t tx d x = some (v, h', dd)) (hd : renV σ d = some d') (hx : renV σ x = some x') :
  ∃ w', Stp W lo lo σ h w σ h' w' ∧ renV σ v = some v ∧ (Builtin.copy_ #[t, tx] ty #[d', x']).run P w = .ok v w' ∧ ∀ n, n ∉ dd → lk h' n = lk h n := by
 unfold copyV at hc
 split at hc
 ·rename_i e n o dl dc hu
  split at hc
  ·rename_i i r hi hl
   split at hc
   ·rename_i m cs hs
    cases hg : (I1 r.kd && Nat.ble (o + (cs.take (Nat.min m dl * i.size)).length) r.cs.length) with
    | false => rw [hg] at hc; cases hc
    | true =>
     rw [hg] at hc
     simp only [cond_true, oI, pI] at hc
     obtain ⟨rfl, rfl, rfl⟩ := hc
     simp only [Bool.and_eq_true, Nat.ble_eq] at hg
     rcases B7 hd with ⟨p, c', hb, _, rfl, _⟩ | ⟨hnn, _, _, _⟩
     case inr => exact (hR.shr.1 n r hl (J8 hg.1).own hnn).elim
     obtain ⟨us, h2, hsrc⟩ := Dz hR hs hx
     obtain ⟨hf1, hf2⟩ := srcV_cells hR hs hx h2
     have ho := J8 hg.1
     have htk := Dw (Nat.min m dl * i.size) h2
     have hfc := Iu (P := P) (w := w) hsrc hf1 (Nat.min_le_left m dl) hf2
     have hlen := Bn htk
     have hst := hR.put_cells (P := P) hl ho hb (o := o) (us := us.take (Nat.min m dl * i.size)) (all1_of (l := []) hsrc.one _) (by rw [hlen]; exact hg.2)
     refine ⟨_, Stp.put hR lo hl ho hb htk hg.2, rfl, run_copy_src hu hi (hsrc.len w) hfc hst, fun k hk => ?_⟩
     rw [Bo, if_neg (fun e => hk (by simp [e]))]
   ·cases hc
  ·cases hc
 ·rename_i e dl dc hu
  cases hz : Nat.beq dl 0 with
  | false => rw [hz] at hc; cases hc
  | true =>
   rw [hz] at hc
   simp only [cond_true] at hc
   split at hc
   ·rename_i i hi
    split at hc
    ·rename_i q hs
     obtain ⟨m, cs⟩ := q
     cases hc
     have := Nat.eq_of_beq_eq_true hz
     subst this
     simp only [renV, oI] at hd
     subst hd
     obtain ⟨us, h2, hsrc⟩ := Dz hR hs hx
     obtain ⟨hf1, hf2⟩ := srcV_cells hR hs hx h2
     have hfc := Iu (P := P) (w := w) hsrc hf1 (Nat.zero_le m) hf2
     refine ⟨w, Stp.refl hR lo, rfl, ?_, fun _ _ => rfl⟩
     have hm : Nat.min m 0 = 0 := Nat.min_zero m
     simp [Builtin.copy_, run_underlying hu, hsrc.len w, sizeOf, typeInfo, hi, hm, hfc, goInt]
    ·cases hc
   ·cases hc
 ·cases hc
end
def Sg.bindc (σ : Sg) (n : Nat) (p : Nat × Nat) (c : Nat) : Sg := ⟨fun m => if m = n then some p else σ.b m, fun m => if m = n then some c else σ.c m, fun m => if m = n then some ([], []) else σ.f m, σ.e, σ.w⟩
section
variable {P : Program} {W : World} {σ : Sg} {h : Hp} {w : World}
theorem Sg.le_bindc {n : Nat} {p : Nat × Nat} {c : Nat} (hf : σ.b n = none ∧ σ.c n = none) : σ.le (σ.bindc n p c) := by
 refine ⟨fun m q e => ?_, fun m q e => ?_, fun m q e => ?_⟩
 ·simp only [Sg.bindc]
  split
  ·rename_i hm; subst hm; rw [hf.1] at e; cases e
  ·exact e
 ·simp only [Sg.bindc]
  split
  ·rename_i hm; subst hm; rw [hf.2] at e; cases e
  ·exact e
 ·simp only [Sg.bindc]
  split
  ·rename_i hm; subst hm; rw [hf.1] at e; cases e
  ·simp
theorem Lm {nx : Nat} {p : Nat × Nat} {c : Nat} {r0 : Rw} {hp h' : Hp} (hS : Shr σ hp w) (hs : ∀ n r, lk h' n = some r → lk hp n = some r) : Up σ hp (σ.bindc nx p c) ((nx, r0) :: h') := fun n r hl => by
 simp only [sh, ex, Sg.bindc]
 rw [B3] at hl
 split at hl
 ·rename_i e; rw [if_pos e.symm]; exact ⟨fun _ e => (by cases e), fun k hk => (by cases hk), fun k hk => (by cases hk)⟩
 ·rename_i e; rw [if_neg (Ne.symm e)]; exact ⟨fun ho => hS.1 n r (hs _ _ hl) ho, fun k hk => ⟨n, r, hs _ _ hl, hk⟩, fun k hk => ⟨r, hs _ _ hl, hk⟩⟩
theorem Ht {z : Array Value} {n : Nat} : ∀ x ∈ (Builtin.zeroCells z n).toList, x ∈ z.toList := by
 intro x hx
 simp only [Builtin.zeroCells, Array.toList_map, List.mem_map, Array.mem_toList_iff, Array.mem_range] at hx
 obtain ⟨i, hi, rfl⟩ := hx
 have h0 : 0 < z.size := by
  rcases Nat.eq_zero_or_pos z.size with h | h
  ·rw [h] at hi; simp at hi
  ·exact h
 have := Nat.mod_lt i h0
 rw [getElem!_pos z (i % z.size) this]; simp
theorem Stp.grow (hR : Rl W σ h w) {nx : Nat} (hf : Fresh σ nx (nx + 1)) {cs vs rest : List Value} (hv : renL σ cs = some vs) (t : TypeId) {size c : Nat} (hl : (vs ++ rest).length = c * size) (hc : c ≤ maxLen) {z : List Value} (hz : ∀ x ∈ rest, x ∈ z) :
  Stp W nx (nx + 1) σ h w (σ.bindc nx (w.heap.size, 0) c) ((nx, ⟨.room size z, cs⟩) :: h) (w.alloc (.cells (vs ++ rest).toArray t)) := by
 have hle : σ.le (σ.bindc nx (w.heap.size, 0) c) := Sg.le_bindc (hf nx (Nat.le_refl _) (by omega))
 have hblk : ∀ b, b < w.heap.size → (w.alloc (.cells (vs ++ rest).toArray t)).heap[b]? = w.heap[b]? := fun b hb => by
  exact Below.block ((Ext.refl w).alloc _) b hb
 refine Stp0.up ⟨hle, fun n hn => ?_, ⟨hR.ext.alloc _, fun n r hl' => ?_, fun n m r s p q hn hm hr hs hp hq e => ?_⟩, by simp, fun b hb _ _ => hblk b hb, fun n r p hl' ho hb => ?_⟩ hR.shr hR.wf (Lm hR.shr fun _ _ h => h)
 ·simp only [Sg.bindc]; rw [if_neg (by omega), if_neg (by omega)]; exact ⟨rfl, rfl⟩
 ·rw [B3] at hl'
  split at hl'
  ·rename_i e; subst e
   cases hl'
   exact ⟨w.heap.size, 0, vs, by simp [Sg.bindc], Cf hle _ _ hv, rfl, hR.ext.size, t, rest, c, by simp [Sg.bindc], heap_alloc_new w _, hl, hc, hz⟩
  ·exact hR.keepA hl' hle hblk
 ·rw [B3] at hn hm
  simp only [Sg.bindc] at hp hq
  split at hn
  ·rename_i e1; subst e1
   split at hm
   ·assumption
   ·rename_i e2
    rw [if_neg (Ne.symm e2)] at hq
    rw [if_pos rfl] at hp
    have := hR.lt hm hs hq
    simp only [oI] at hp
    subst hp
    simp at e; omega
  ·rename_i e1
   rw [if_neg (Ne.symm e1)] at hp
   split at hm
   ·rename_i e2; subst e2
    rw [if_pos rfl] at hq
    have := hR.lt hn hr hp
    simp only [oI] at hq
    subst hq
    simp at e; omega
   ·rename_i e2
    rw [if_neg (Ne.symm e2)] at hq
    exact hR.inj n m r s p q hn hm hr hs hp hq e
 ·rw [B3] at hl'
  simp only [Sg.bindc] at hb
  split at hl'
  ·rename_i e; subst e; rw [if_pos rfl] at hb; simp only [oI] at hb; subst hb; exact .inl (Nat.le_refl _)
  ·rename_i e; rw [if_neg (Ne.symm e)] at hb; exact .inr ⟨n, r, p, hl', ho, hb, rfl⟩
theorem Stp.lend (hR : Rl W σ h w) {nx : Nat} (hf : Fresh σ nx (nx + 1)) {cs vs rest : List Value} (hv : renL σ cs = some vs) (t : TypeId) (fr : Nat × Nat) (c : Nat) :
  Stp W nx (nx + 1) σ h w (σ.bindc nx (w.heap.size, 0) c) ((nx, ⟨.lent, cs⟩) :: h) (w.alloc (.cells (vs ++ rest).toArray t fr)) := by
 have hle : σ.le (σ.bindc nx (w.heap.size, 0) c) := Sg.le_bindc (hf nx (Nat.le_refl _) (by omega))
 have hblk : ∀ b, b < w.heap.size → (w.alloc (.cells (vs ++ rest).toArray t fr)).heap[b]? = w.heap[b]? := fun b hb => by
  exact Below.block ((Ext.refl w).alloc _) b hb
 refine Stp0.up ⟨hle, fun n hn => ?_, ⟨hR.ext.alloc _, fun n r hl' => ?_, fun n m r s p q hn hm hr hs hp hq e => ?_⟩, by simp, fun b hb _ _ => hblk b hb, fun n r p hl' ho hb => ?_⟩ hR.shr hR.wf (Lm hR.shr fun _ _ h => h)
 ·simp only [Sg.bindc]; rw [if_neg (by omega), if_neg (by omega)]; exact ⟨rfl, rfl⟩
 ·rw [B3] at hl'
  split at hl'
  ·rename_i e; subst e
   cases hl'
   exact ⟨w.heap.size, 0, vs, by simp [Sg.bindc], Cf hle _ _ hv, rfl, hR.ext.size, t, rest, fr, heap_alloc_new w _⟩
  ·exact hR.keepA hl' hle hblk
 ·rw [B3] at hn hm
  simp only [Sg.bindc] at hp hq
  split at hn
  ·rename_i e1; subst e1
   split at hm
   ·assumption
   ·rename_i e2
    rw [if_neg (Ne.symm e2)] at hq
    rw [if_pos rfl] at hp
    have := hR.lt hm hs hq
    simp only [oI] at hp
    subst hp
    simp at e; omega
  ·rename_i e1
   rw [if_neg (Ne.symm e1)] at hp
   split at hm
   ·rename_i e2; subst e2
    rw [if_pos rfl] at hq
    have := hR.lt hn hr hp
    simp only [oI] at hq
    subst hq
    simp at e; omega
   ·rename_i e2
    rw [if_neg (Ne.symm e2)] at hq
    exact hR.inj n m r s p q hn hm hr hs hp hq e
 ·rw [B3] at hl'
  simp only [Sg.bindc] at hb
  split at hl'
  ·rename_i e; subst e; rw [if_pos rfl] at hb; simp only [oI] at hb; subst hb; exact .inl (Nat.le_refl _)
  ·rename_i e; rw [if_neg (Ne.symm e)] at hb; exact .inr ⟨n, r, p, hl', ho, hb, rfl⟩
theorem Stp.into (hR : Rl W σ h w) {nx n : Nat} (hf : Fresh σ nx (nx + 1)) {size : Nat} {z : List Value} {cs : List Value} (hl : lk h n = some ⟨.room size z, cs⟩) {p : Nat × Nat} {c : Nat} (hb : σ.b n = some p) (hc : σ.c n = some c) {xs us : List Value} (hx : renL σ xs = some us)
  (hle : cs.length + xs.length ≤ c * size) :
  Stp W nx (nx + 1) σ h w (σ.bindc nx p c) ((nx, ⟨.room size z, cs ++ xs⟩) :: delH h n) (w.setCells p.1 cs.length us) := by
 have hge := hR.ge hl (fun e => by cases e) hb
 have hlts : σ.le (σ.bindc nx p c) := Sg.le_bindc (hf nx (Nat.le_refl _) (by omega))
 have hnn : n ≠ nx := fun e => by subst e; rw [(hf _ (Nat.le_refl _) (by omega)).1] at hb; cases hb
 have hxl := Bn hx
 obtain ⟨b, s, vs, hb', hv, h1, h2, t, rest, c', hc', e, h3, h4, h5⟩ := hR.row _ _ hl
 rw [hb] at hb'
 obtain rfl : p = (b, s) := by simpa using hb'
 rw [hc] at hc'
 cases hc'
 subst h1
 have hvl : vs.length = cs.length := Bn hv
 have hsp : Bg (vs ++ rest) vs.length us = vs ++ us ++ rest.drop us.length := D7 us vs rest (by
  have := h3
  simp only [List.length_append] at this
  omega)
 have hother : ∀ m s q, lk h m = some s → s.own → σ.b m = some q → m ≠ n → (w.setCells b cs.length us).heap[q.1]? = w.heap[q.1]? := fun m s q hm hs hq hmn =>
  Bu us w b cs.length q.1 fun e => hmn (hR.inj m n s _ q _ hm hl hs (fun e => by cases e) hq hb e)
 have hdel : ∀ m r, lk (delH h n) m = some r → lk h m = some r ∧ m ≠ n := fun m r hm => by
  rw [Bf] at hm
  split at hm
  ·cases hm
  ·rename_i e; exact ⟨hm, Ne.symm e⟩
 refine Stp0.up ⟨hlts, fun m hm => ?_, ⟨Cl us hR.ext h2 _, fun m r hm => ?_, fun m m' r r' q q' hm hm' hr hr' hq hq' e => ?_⟩, by rw [Cc]; exact Nat.le_refl _, fun k hk hno _ => Bu us w b _ k (fun e => hno n _ _ hl (fun e => by cases e) hb e.symm), fun m r q hm hr hq => ?_⟩ hR.shr hR.wf (Lm hR.shr fun m r hm => (hdel m r hm).1)
 ·simp only [Sg.bindc]; rw [if_neg (by omega), if_neg (by omega)]; exact ⟨rfl, rfl⟩
 ·rw [B3] at hm
  split at hm
  ·rename_i e; subst e
   cases hm
   refine ⟨b, 0, vs ++ us, by simp [Sg.bindc], C7 (Cf hlts _ _ hv) (Cf hlts _ _ hx), rfl, h2, t, rest.drop us.length, c, by simp [Sg.bindc], ?_, ?_, h4, fun x hx => h5 x (List.mem_of_mem_drop hx)⟩
   ·have := Cd us w b cs.length _ t e
    simp only at this
    rw [← hvl, hsp] at this
    rw [← hvl]
    exact this
   ·have := h3
    simp only [List.length_append, List.length_drop] at this ⊢
    omega
  ·obtain ⟨hm1, hm2⟩ := hdel m r hm
   exact hR.keepW hl (fun e => by cases e) hb hm1 hm2 hlts fun b' hb' => Bu us w b cs.length b' hb'
 ·rw [B3] at hm hm'
  simp only [Sg.bindc] at hq hq'
  split at hm
  ·rename_i e1; subst e1
   split at hm'
   ·assumption
   ·rename_i e2
    rw [if_neg (Ne.symm e2)] at hq'
    rw [if_pos rfl] at hq
    cases hq
    obtain ⟨a1, a2⟩ := hdel m' r' hm'
    exact (a2 (hR.inj m' n r' _ q' _ a1 hl hr' (fun e => by cases e) hq' hb e.symm)).elim
  ·rename_i e1
   rw [if_neg (Ne.symm e1)] at hq
   obtain ⟨a1, a2⟩ := hdel m r hm
   split at hm'
   ·rename_i e2; subst e2
    rw [if_pos rfl] at hq'
    cases hq'
    exact (a2 (hR.inj m n r _ q _ a1 hl hr (fun e => by cases e) hq hb e)).elim
   ·rename_i e2
    rw [if_neg (Ne.symm e2)] at hq'
    obtain ⟨b1, b2⟩ := hdel m' r' hm'
    exact hR.inj m m' r r' q q' a1 b1 hr hr' hq hq' e
 ·rw [B3] at hm
  simp only [Sg.bindc] at hq
  split at hm
  ·rename_i e; subst e; rw [if_pos rfl] at hq; cases hq; exact .inr ⟨n, _, _, hl, (fun e => by cases e), hb, rfl⟩
  ·rename_i e; rw [if_neg (Ne.symm e)] at hq; exact .inr ⟨m, r, q, (hdel m r hm).1, hr, hq, rfl⟩

theorem Bq (n : Nat) : cpR σ (B0 + n) = σ.c n := by
 unfold cpR
 rw [if_neg (by omega), Nat.add_sub_cancel_left]
theorem Ip {n : Nat} {b c l : Nat} (hl : l ≤ c) : renV (σ.bindc n (b, 0) c) (.slice (some ⟨n, 0, none⟩) l (B0 + n)) = some (.slice (some ⟨b, 0, none⟩) l c) := by
 have h1 : (σ.bindc n (b, 0) c).b n = some (b, 0) := by simp [Sg.bindc]
 have h2 : cpR (σ.bindc n (b, 0) c) (B0 + n) = some c := by rw [Bq]; simp [Sg.bindc]
 simpa using B5 (o := 0) (l := l) h1 h2 (by simp [Sg.bindc]) (.inr hl)
def lendV (P : Program) (src dst : TypeId) (x : Value) : Option (List Value × Nat) :=
 match P.underlying src, P.underlying dst, x with
 | some .string, some (.slice e), .string s => match P.underlying e with
  | some (.int .u8) => some (s.data.toList.map fun b => Value.int .u8 b.toNat, s.data.toList.length)
  | _ => none
 | _, _, _ => none
theorem lendV_ok (hR : Rl W σ h w) {nx : Nat} (hf : Fresh σ nx (nx + 1)) {src dst : TypeId} {x x' : Value} {cs : List Value} {n : Nat} (hv : lendV P src dst x = some (cs, n)) (hx : renV σ x = some x') :
  ∃ σ' w' v', Stp W nx (nx + 1) σ h w σ' ((nx, ⟨.lent, cs⟩) :: h) w' ∧ renV σ' (.slice (some ⟨nx, 0, none⟩) n (B0 + nx)) = some v' ∧ (convert src dst x').run P w = .ok v' w' := by
 unfold lendV at hv
 split at hv
 ·rename_i e s hs hd
  split at hv
  ·rename_i he
   simp only [oI, pI] at hv
   obtain ⟨rfl, rfl⟩ := hv
   simp only [renV, oI] at hx
   subst hx
   have hd2 := Stp.drew hR nx
   have hr := run_bytes_of_string (P := P) w src dst e s hs hd he
   have hrow : bytesRow s (grownCap w s.size 0 e) = ((s.data.toList.map fun (b : UInt8) => Value.int .u8 b.toNat) ++ List.replicate (grownCap w s.size 0 e - s.size) (Value.int .u8 0)).toArray := by
    apply Array.toList_inj.1
    simp [bytesRow]
   have hsz : s.data.toList.length = s.size := by simp
   rw [hrow] at hr
   generalize hC : (s.data.toList.map fun (b : UInt8) => Value.int .u8 b.toNat) ++ List.replicate (grownCap w s.size 0 e - s.size) (Value.int .u8 0) = C at hr
   have hl := Stp.lend hd2.rl hf (cs := s.data.toList.map fun (b : UInt8) => Value.int .u8 b.toNat) (vs := s.data.toList.map fun (b : UInt8) => Value.int .u8 b.toNat) (Jl _ (fun _ => rfl) _) e (rest := List.replicate (grownCap w s.size 0 e - s.size) (Value.int .u8 0)) (C.toArray.size, C.toArray.size + 1) (grownCap w s.size 0 e)
   rw [hC] at hl
   exact ⟨_, _, _, hd2.trans hl (Nat.le_refl _) (by omega), by rw [hsz]; exact Ip (grownCap_ge w s.size 0 e), hr⟩
  ·cases hv
 ·cases hv
def Cy : Kd → Option (Nat × List Value)
 | .room s z => some (s, z)
 | _ => none
def beqZ : Value → Value → Bool
 | .bool a, .bool b => a == b
 | .int k a, .int k' b => decide (k = k') && a == b
 | .string a, .string b => Cp a b
 | .pointer none, .pointer none => true
 | .slice none l c, .slice none l' c' => Nat.beq l l' && Nat.beq c c'
 | .map none, .map none => true
 | .chan none, .chan none => true
 | .nilFunc, .nilFunc => true
 | .nilIface, .nilIface => true
 | _, _ => false
theorem beqZ_ok {a b : Value} (h : beqZ a b = true) : a = b := by
 unfold beqZ at h
 split at h
 ·simp only [beq_iff_eq] at h; rw [h]
 ·simp only [Bool.and_eq_true, decide_eq_true_eq, beq_iff_eq] at h; rw [h.1, h.2]
 ·rename_i a b
  obtain ⟨⟨l⟩⟩ := a
  obtain ⟨⟨m⟩⟩ := b
  simp only [Cp, beq_iff_eq] at h
  rw [h]
 ·rfl
 ·simp only [Bool.and_eq_true] at h; rw [Nat.eq_of_beq_eq_true h.1, Nat.eq_of_beq_eq_true h.2]
 ·rfl
 ·rfl
 ·rfl
 ·rfl
 ·cases h
def Iv : List Value → List Value → Bool
 | [], [] => true
 | a :: l, b :: m => bif beqZ a b then Iv l m else false
 | _, _ => false
theorem Er : ∀ {l m : List Value}, Iv l m = true → l = m
 | [], [], _ => rfl
 | a :: l, b :: m, h => by
   simp only [Iv] at h
   cases hb : beqZ a b with
   | false => rw [hb] at h; cases h
   | true => rw [hb] at h; rw [beqZ_ok hb, Er h]
 | [], _ :: _, h => by cases h
 | _ :: _, [], h => by cases h
def appV (P : Program) (h : Hp) (nx : Nat) (t tx : TypeId) (s x : Value) : Option (Value × Hp × Nat × List Nat) :=
 match P.underlying t with
 | some (.slice e) => match P.info? e with
  | some i => match srcV P h i.size tx x with
   | some (n, news) => match i.zero with
    | some z => bif Nat.beq z.cells.toList.length i.size && Nat.ble 1 i.size then (match s with
     | .slice none len cap => bif Nat.beq len 0 && Nat.beq cap 0 then (bif Nat.beq n 0 then some (.slice none 0 0, h, nx, []) else
       bif Nat.ble (n * i.bytes) 140737488355328 && Nat.ble n 9223372036854775807 then some (.slice (some ⟨nx, 0, none⟩) n (B0 + nx), (nx, ⟨.room i.size z.cells.toList, news⟩) :: h, nx + 1, []) else none) else none
     | .slice (some ⟨m, o, none⟩) len cap => bif Nat.blt cap B0 then
       (bif Nat.ble (len + n) cap then
        (match lk h m with
        | some r => bif I1 r.kd && Nat.ble (o + len * i.size + news.length) r.cs.length then some (.slice (some ⟨m, o, none⟩) (len + n) cap, setH h m ⟨r.kd, Bg r.cs (o + len * i.size) news⟩, nx, [m]) else none
        | none => none)
       else (match Ej h m o (len * i.size) with
        | some olds => bif Nat.ble ((len + n) * i.bytes) 140737488355328 && Nat.ble (len + n) 9223372036854775807 then some (.slice (some ⟨nx, 0, none⟩) (len + n) (B0 + nx), (nx, ⟨.room i.size z.cells.toList, olds ++ news⟩) :: h, nx + 1, []) else none
        | none => none))
       else (match lk h m with
        | some r => match Cy r.kd with
         | some (sz, zz) => bif Nat.beq (B0 + m) cap && Nat.beq o 0 && (Nat.beq sz i.size && Iv zz z.cells.toList) && Nat.beq r.cs.length (len * i.size) && Nat.ble ((len + n) * i.bytes) 140737488355328 && Nat.ble (len + n) 9223372036854775807 then
           some (.slice (some ⟨nx, 0, none⟩) (len + n) (B0 + nx), (nx, ⟨.room i.size z.cells.toList, r.cs ++ news⟩) :: delH h m, nx + 1, [m]) else none
         | none => none
        | none => none)
     | _ => none) else none
    | none => none
   | none => none
  | none => none
 | _ => none
theorem Kx (hR : Rl W σ h w) {nx : Nat} (hf : Fresh σ nx (nx + 1)) {t tx ty e : TypeId} {i : TypeInfo} {z : Value} (ht : P.underlying t = some (.slice e)) (hi : P.info? e = some i) (hz : i.zero = some z) (hzs : z.cells.size = i.size)
  {base : Option Addr} {sLen sCap n : Nat} {olds news vo vn : List Value} {x : Value} (hold : (Builtin.firstCells i.size sLen (.slice base sLen sCap)).run P w.drew = .ok vo.toArray w.drew) (ho : renL σ olds = some vo) (hol : vo.length = sLen * i.size)
  (hn : renL σ news = some vn) (hs : Src P i.size tx x n vn w) (hg : sCap < sLen + n) (h63 : sLen + n ≤ 9223372036854775807) (hb : (sLen + n) * i.bytes ≤ 140737488355328) :
  ∃ σ' w' v', Stp W nx (nx + 1) σ h w σ' ((nx, ⟨.room i.size z.cells.toList, olds ++ news⟩) :: h) w' ∧ renV σ' (.slice (some ⟨nx, 0, none⟩) (sLen + n) (B0 + nx)) = some v' ∧ (Builtin.append_ #[t, tx] ty #[.slice base sLen sCap, x]).run P w = .ok v' w' := by
 have hrun := run_append_grow_src (P := P) w t tx ty e i z ht hi hz base sLen sCap vo hold x n vn hs hg (by omega) (growslice_fits hg hb)
 have hge := grownCap_ge w (sLen + n) sCap e
 have hle := grownCap_le_maxLen w (sLen + n) sCap e (by unfold maxLen; omega)
 have hd := Stp.drew hR nx
 have hlen : (vo ++ vn ++ (Builtin.zeroCells z.cells (grownCap w (sLen + n) sCap e - (sLen + n))).toList).length = grownCap w (sLen + n) sCap e * i.size := by
  rw [List.length_append, List.length_append, hol, hs.newsLen, Array.length_toList, size_zeroCells, hzs, ← Nat.add_mul, ← Nat.add_mul]
  congr 1
  omega
 have hgw := Stp.grow hd.rl hf (C7 ho hn) e (rest := (Builtin.zeroCells z.cells (grownCap w (sLen + n) sCap e - (sLen + n))).toList) hlen hle (z := z.cells.toList) Ht
 refine ⟨_, _, _, hd.trans hgw (Nat.le_refl _) (by omega), Ip (by omega), ?_⟩
 rw [hrun]
 congr 2
 apply congrArg (fun q => Obj.cells q e (0, 0))
 apply Array.toList_inj.1
 simp
theorem Rl.room (hR : Rl W σ h w) {n size : Nat} {z : List Value} {cs : List Value} (hl : lk h n = some ⟨.room size z, cs⟩) : ∃ b c vs rest t, σ.b n = some (b, 0) ∧ σ.c n = some c ∧ renL σ cs = some vs ∧ w.heap[b]? = some (.cells (vs ++ rest).toArray t (0, 0)) ∧ (vs ++ rest).length = c * size ∧ c ≤ maxLen := by
 obtain ⟨b, s, vs, hb, hv, h1, h2, t, rest, c, hc, e, h3, h4, h5⟩ := hR.row _ _ hl
 subst h1
 exact ⟨b, c, vs, rest, t, hb, hc, hv, e, h3, h4⟩
theorem Ky (hR : Rl W σ h w) {nx nx' : Nat} {t tx ty : TypeId} {s x s' x' v : Value} {h' : Hp} {dd : List Nat} (hc : appV P h nx t tx s x = some (v, h', nx', dd)) (hf : Fresh σ nx nx') (hs : renV σ s = some s') (hx : renV σ x = some x') :
  ∃ σ' w' v', Stp W nx nx' σ h w σ' h' w' ∧ renV σ' v = some v' ∧ (Builtin.append_ #[t, tx] ty #[s', x']).run P w = .ok v' w' := by
 unfold appV at hc
 split at hc
 case h_2 => cases hc
 rename_i e ht
 split at hc
 case h_2 => cases hc
 rename_i i hi
 split at hc
 case h_2 => cases hc
 rename_i n news hsrcV
 split at hc
 case h_2 => cases hc
 rename_i z hz
 cases hzg : (Nat.beq z.cells.toList.length i.size && Nat.ble 1 i.size) with
 | false => rw [hzg] at hc; cases hc
 | true =>
  rw [hzg] at hc
  simp only [cond_true] at hc
  simp only [Bool.and_eq_true, Nat.ble_eq] at hzg
  have hzs : z.cells.size = i.size := by have := Nat.eq_of_beq_eq_true hzg.1; simpa using this
  obtain ⟨vn, hn, hsrc⟩ := Dz hR hsrcV hx
  have hnl := Bn hn
  split at hc
  ·rename_i len cap
   simp only [renV, oI] at hs
   subst hs
   cases hg : (Nat.beq len 0 && Nat.beq cap 0) with
   | false => rw [hg] at hc; cases hc
   | true =>
    rw [hg] at hc
    simp only [cond_true] at hc
    simp only [Bool.and_eq_true] at hg
    obtain rfl := Nat.eq_of_beq_eq_true hg.1
    obtain rfl := Nat.eq_of_beq_eq_true hg.2
    cases hn0 : Nat.beq n 0 with
    | true =>
     rw [hn0] at hc
     simp only [cond_true, oI, pI] at hc
     obtain ⟨rfl, rfl, rfl, rfl⟩ := hc
     obtain rfl := Nat.eq_of_beq_eq_true hn0
     refine ⟨σ, w, .slice none 0 0, Stp.refl hR nx, rfl, ?_⟩
     rcases hsrc.kind with ⟨e', hk⟩ | hk <;> simp [Builtin.append_, run_underlying ht, run_underlying hk, sizeOf, typeInfo, hi, hsrc.len, hsrc.cells]
    | false =>
     rw [hn0] at hc
     simp only [cond_false] at hc
     cases hg2 : (Nat.ble (n * i.bytes) 140737488355328 && Nat.ble n 9223372036854775807) with
     | false => rw [hg2] at hc; cases hc
     | true =>
      rw [hg2] at hc
      simp only [cond_true, oI, pI] at hc
      obtain ⟨rfl, rfl, rfl, rfl⟩ := hc
      simp only [Bool.and_eq_true, Nat.ble_eq] at hg2
      have hnp : 0 < n := by
       rcases Nat.eq_zero_or_pos n with e0 | h0
       ·rw [e0] at hn0; cases hn0
       ·exact h0
      have := Kx (P := P) (ty := ty) hR hf ht hi hz hzs (base := none) (sLen := 0) (sCap := 0) (olds := []) (vo := []) (run_firstCells_none w.drew i.size 0 0 0) rfl (by simp) hn hsrc (by omega) (by omega) (by rw [Nat.zero_add]; exact hg2.1)
      simpa using this
  ·rename_i m o len cap
   cases hcb : Nat.blt cap B0 with
   | true =>
    rw [hcb] at hc
    simp only [cond_true] at hc
    have hlt := In hcb
    rcases B7 hs with ⟨p, cap', hb, hcp, rfl, hnn⟩ | ⟨hnn, rfl, hcp, rfl⟩
    case inr =>
     rw [E8 hlt (Nat.le_refl _)] at hcp
     obtain rfl : cap = 0 := Option.some.inj hcp
     cases hroom : Nat.ble (0 + n) 0 with
     | true =>
      rw [hroom] at hc
      simp only [cond_true] at hc
      split at hc
      ·rename_i r hl
       obtain ⟨hg, _⟩ := bif_then hc
       simp only [Bool.and_eq_true] at hg
       exact (hR.shr.1 m r hl (J8 hg.1).own hnn).elim
      ·cases hc
     | false =>
      rw [hroom] at hc
      simp only [cond_false] at hc
      split at hc
      ·rename_i olds hcells
       obtain ⟨hg, hc⟩ := bif_then hc
       simp only [oI, pI] at hc
       obtain ⟨rfl, rfl, rfl, rfl⟩ := hc
       simp only [Bool.and_eq_true, Nat.ble_eq] at hg
       obtain ⟨p', vo, hb', hvo, hvl, hol, hcell⟩ := D0 hR hcells
       have hgt : 0 < n := by
        rcases Nat.eq_zero_or_pos n with h0 | h0
        ·subst h0; cases hroom
        ·exact h0
       obtain rfl := List.eq_nil_of_length_eq_zero (hol.trans (Nat.zero_mul _))
       have := Kx (P := P) (ty := ty) hR hf ht hi hz hzs (base := σ.e m) (sLen := 0) (sCap := 0) (olds := []) (vo := []) (D9 w.drew i.size _ 0) rfl (by simp) hn hsrc (by omega) (by omega) hg.1
       simpa using this
      ·cases hc
    rw [E8 hlt (Nat.le_refl _)] at hcp
    cases hcp
    cases hroom : Nat.ble (len + n) cap with
    | true =>
     rw [hroom] at hc
     simp only [cond_true] at hc
     split at hc
     ·rename_i r hl
      cases hg : (I1 r.kd && Nat.ble (o + len * i.size + news.length) r.cs.length) with
      | false => rw [hg] at hc; cases hc
      | true =>
       rw [hg] at hc
       simp only [cond_true, oI, pI] at hc
       obtain ⟨rfl, rfl, rfl, rfl⟩ := hc
       simp only [Bool.and_eq_true, Nat.ble_eq] at hg
       have ho := J8 hg.1
       have hge := hR.ge hl ho.own hb
       obtain ⟨p', vs, hb', hv, hcell⟩ := hR.cell hl
       rw [hb] at hb'
       cases hb'
       have hvl := Bn hv
       have hrun := run_append_room_src (P := P) w t tx ty e i ht hi p.1 (p.2 + o) len cap x' n vn hsrc (Nat.le_of_ble_eq_true hroom) (fun j hj => by
        have hlt2 : o + len * i.size + j < vs.length := by omega
        have := hcell _ _ (List.getElem?_eq_getElem hlt2)
        rw [show p.2 + o + len * i.size + j = p.2 + (o + len * i.size + j) by omega, this]; rfl) (fun j hj => hR.free hl ho hb _)
       refine ⟨σ, _, _, Stp.put hR nx hl ho hb hn hg.2, B5 hb (E8 hlt (Nat.le_refl _)) hnn (.inr (Nat.le_of_ble_eq_true hroom)), ?_⟩
       rw [hrun]
       have e2 : p.2 + o + len * i.size = o + len * i.size := by rw [hge.2]; omega
       rw [e2]
     ·cases hc
    | false =>
     rw [hroom] at hc
     simp only [cond_false] at hc
     split at hc
     ·rename_i olds hcells
      cases hg : (Nat.ble ((len + n) * i.bytes) 140737488355328 && Nat.ble (len + n) 9223372036854775807) with
      | false => rw [hg] at hc; cases hc
      | true =>
       rw [hg] at hc
       simp only [cond_true, oI, pI] at hc
       obtain ⟨rfl, rfl, rfl, rfl⟩ := hc
       simp only [Bool.and_eq_true, Nat.ble_eq] at hg
       obtain ⟨p', vo, hb', hvo, hvl, hol, hcell⟩ := D0 hR hcells
       rw [hb] at hb'
       cases hb'
       have hgt : cap < len + n := by
        rcases Nat.lt_or_ge cap (len + n) with h1 | h1
        ·exact h1
        ·rw [Nat.ble_eq_true_of_le h1] at hroom; cases hroom
       exact Kx (P := P) (ty := ty) hR hf ht hi hz hzs (run_firstCells_some (P := P) w.drew i.size len _ len cap vo hvl (fun j u hj => by rw [C3]; exact hcell j u hj)) hvo hvl hn hsrc hgt hg.2 hg.1
     ·cases hc
   | false =>
    rw [hcb] at hc
    simp only [cond_false] at hc
    split at hc
    ·rename_i r hl
     obtain ⟨kd, rcs⟩ := r
     split at hc
     ·rename_i sz zz hsz
      simp only at hsz hc
      cases kd with
      | shut => simp [Cy] at hsz
      | old => simp [Cy] at hsz
      | sd ds => simp [Cy] at hsz
      | dp sz3 zz3 ds => simp [Cy] at hsz
      | df sz3 zz3 ds => simp [Cy] at hsz
      | dw sz3 zz3 ds => simp [Cy] at hsz
      | of => simp [Cy] at hsz
      | ow => simp [Cy] at hsz
      | ox => simp [Cy] at hsz
      | dx d2 size2 zz2 ds => simp [Cy] at hsz
      | sw ds => simp [Cy] at hsz
      | lent => simp [Cy] at hsz
      | held m => simp [Cy] at hsz
      | round st pe tm ps as bd => simp [Cy] at hsz
      | marks => simp [Cy] at hsz
      | mp es => simp [Cy] at hsz
      | room sz' zz' =>
       simp only [Cy, oI, pI] at hsz
       obtain ⟨rfl, rfl⟩ := hsz
       cases hg : (Nat.beq (B0 + m) cap && Nat.beq o 0 && (Nat.beq sz' i.size && Iv zz' z.cells.toList) && Nat.beq rcs.length (len * i.size) && Nat.ble ((len + n) * i.bytes) 140737488355328 && Nat.ble (len + n) 9223372036854775807) with
       | false => rw [hg] at hc; cases hc
       | true =>
        rw [hg] at hc
        simp only [cond_true, oI, pI] at hc
        obtain ⟨rfl, rfl, rfl, rfl⟩ := hc
        simp only [Bool.and_eq_true, Nat.ble_eq] at hg
        obtain ⟨⟨⟨⟨⟨g1, g2⟩, g3⟩, g4⟩, g5⟩, g6⟩ := hg
        obtain rfl := Nat.eq_of_beq_eq_true g1
        obtain rfl := Nat.eq_of_beq_eq_true g2
        have gz := Er g3.2
        obtain rfl := Nat.eq_of_beq_eq_true g3.1
        subst gz
        have e4 := Nat.eq_of_beq_eq_true g4
        obtain ⟨b, c, vs, rest, tt, hb, hcm, hv, hblk, hrl, hcl⟩ := hR.room hl
        rcases B7 hs with ⟨p, c', hb', hcp, rfl, hnn⟩ | ⟨hnn, _, _, _⟩
        case inr => exact (hR.shr.1 m _ hl (fun e => by cases e) hnn).elim
        rw [hb] at hb'
        cases hb'
        rw [Bq, hcm] at hcp
        cases hcp
        have hvl := Bn hv
        have hcell : ∀ j, j < (vs ++ rest).length → w.cell? ⟨b, j, none⟩ = (vs ++ rest)[j]? := fun j hj => by
         rw [cell_of_row w b j _ tt _ hblk]; simp
        by_cases hroom : len + n ≤ c
        ·have hfit : rcs.length + news.length ≤ c * i.size := by
          rw [e4, ← hnl, hsrc.newsLen, ← Nat.add_mul]; exact Nat.mul_le_mul_right _ hroom
         have hrun := run_append_room_src (P := P) w t tx ty e i ht hi b (0 + 0) len c x' n vn hsrc hroom (fun j hj => by
          have hlt2 : len * i.size + j < (vs ++ rest).length := by omega
          rw [show 0 + 0 + len * i.size + j = len * i.size + j by omega, hcell _ hlt2, List.getElem?_eq_getElem hlt2]; rfl) (fun j hj => frozen_of_row w b _ _ tt hblk)
         refine ⟨_, _, _, Stp.into hR hf hl hb hcm hn hfit, Ip (by omega), ?_⟩
         rw [hrun, e4]
         simp
        ·have hg := Kx (P := P) (ty := ty) hR hf ht hi hz hzs (base := some ⟨b, 0 + 0, none⟩) (sLen := len) (sCap := c) (olds := rcs) (vo := vs) (run_firstCells_some (P := P) w.drew i.size len _ len c vs (by omega) (fun j u hj => by
          rw [C3]
          show w.cell? ⟨b, 0 + 0 + j, none⟩ = some u
          rw [show 0 + 0 + j = j by omega]
          have hjl := (List.getElem?_eq_some_iff.1 hj).1
          rw [hcell j (by simp; omega), List.getElem?_append_left hjl]
          exact hj)) hv (by omega) hn hsrc (by omega) g6 g5
         obtain ⟨σ', w', v', h1, h2, h3⟩ := hg
         refine ⟨σ', w', v', h1.less (fun k r hk => ?_), h2, h3⟩
         rw [B3] at hk ⊢
         split at hk
         ·rename_i e5; rw [if_pos e5]; exact hk
         ·rename_i e5
          rw [if_neg e5]
          rw [Bf] at hk
          split at hk
          ·cases hk
          ·exact hk
     ·cases hc
    ·cases hc
  ·cases hc
end
def Wide (F : Fence) : Prop := F.fn = (fun _ => True) ∧ F.depth = none ∧ F.alive = false
theorem wide_wide : Wide Fence.wide := ⟨rfl, rfl, rfl⟩
theorem Wide.fenced {F : Fence} (h : Wide F) (P : Program) : Machine.fenced P F = Machine.fenced P Fence.wide := by
 obtain ⟨h1, h2, h3⟩ := h
 funext m
 simp [Machine.fenced, Fence.room, h1, h2, h3, Fence.wide]
theorem Wide.calls {F : Fence} (h : Wide F) {n : Nat} {P : Program} {f : FuncId} {args : Array Value} {w : World} {R : Ending → World → Prop} (hc : Calls P f args w R) : CallsIn F n P f args w R := by
 have := (callsIn_wide (n := n)).2 hc
 refine ⟨by rw [h.1]; trivial, fun cs _ => ?_⟩
 rw [h.fenced P]
 exact this.2 cs (room_wide _)
theorem Wide.rows {F : Fence} (h : Wide F) {n : Nat} {P : Program} {row : String} {args : Array Value} {w : World} {R : Value → World → Prop} (hc : Rows P row args w R) : RowsIn F n P row args w R := by
 intro c cs _
 obtain ⟨v, w', h1, h2⟩ := hc c cs
 rw [h.fenced P]
 exact ⟨v, w', h1, stepsIn_wide.2 h2⟩
def Em (o : Oper) : Bool := match o.op with | .defer _ => false | _ => true
theorem semAt_same {o : Oper} (h : Em o = true) (ro : Option Nat) (ρ : Operand → Value) : o.semAt ro ρ = execOp ρ o := by
 refine Oper.semAt_eq ro ρ o fun c hc => ?_
 unfold Em at h
 rw [hc] at h
 cases h
theorem opIn {F : Fence} (hF : Wide F) {n : Nat} {P : Program} {o : Oper} {a : Act} {w : World} {K : Act → World → Prop} {Q : Exit → Act → World → Prop} (hd : Em o = true) (h : o.wp P a w K Q) : o.wpIn F n P a w K Q := by
 refine ⟨fun f _ => by rw [hF.1]; trivial, ?_⟩
 rw [semAt_same hd]
 unfold Oper.wp at h
 generalize (execOp a.eval o).run P w = r at *
 have hdep : F.depth.isSome = true → 1 ≤ n := fun h' => by rw [hF.2.1] at h'; cases h'
 cases r with
 | ok x w' =>
  cases x <;> simp only [Oper.upon] at h <;> simp only [Oper.uponIn] <;> first | exact h | exact ⟨hdep, hF.calls h⟩ | exact ⟨hdep, hF.rows h⟩
 | halt x w' =>
  cases x <;> simp only [Oper.upon] at h <;> simp only [Oper.uponIn] <;> exact h

section
variable {W w w' : World} {L : Ce}
theorem Ext.grown (h : Ext W w) {row : Option Nat} (hg : w.grownBy w' row) (hr : ∀ r, row = some r → W.heap.size ≤ r) : Ext W w' := Below.grown h hg (Ext.size h) hr
end
end Go.Proofs.Ytojakfnljopjbaa
