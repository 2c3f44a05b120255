/-
  Worlds that extend an older one: all older memory is as it was. Lemmas on allocation, draws, stores into new blocks, and on regions that draw their order while the calls in them make new memory only.
-/
import Derived.WalkKit
import Derived.ProofKit
import Derived.Carry
import Derived.Deep.QuietTactic
import Derived.BigQuiet
import Derived.Deep.Draws
import Derived.OpenShut
import Derived.ChangeArms
import Derived.ChangeShapes
import Derived.Deep.Slices
import Derived.Deep.MidRow
import Derived.Laws.Rows
import Derived.RangeFuncOwn
import Derived.StillTail
import Derived.Lib.Hide
import Derived.Maps.AppendAt
import Derived.Deep.AppendLies
import Derived.OwnWalk
namespace Go.Proofs.Ytojakfnljopjbaa
set_option linter.unusedSimpArgs false
set_option linter.unusedVariables false
set_option linter.unusedSectionVars false
open Go.RowKit

def Ext (a w : World) : Prop := Below a.heap.size a w

section
variable {a b c w : World}
theorem Ext.refl (w : World) : Ext w w := Below.refl _ _
theorem Ext.trans (h : Ext a b) (k : Ext b c) : Ext a c := Below.trans h (Below.mono k (Below.size h))
theorem Ext.alloc (h : Ext a w) (o : Obj) : Ext a (w.alloc o) := Below.alloc h (Below.size h) o
theorem Ext.setCell (h : Ext a w) {p : Addr} (hp : a.heap.size ≤ p.block) (u : Value) : Ext a (w.setCell p u) := Below.setCell h hp u
theorem Ext.drew (h : Ext a w) : Ext a w.drew := Below.drew h
theorem Ext.size (h : Ext a w) : a.heap.size ≤ w.heap.size := Below.size h
theorem Ext.cell (h : Ext a w) (k o : Nat) (hk : k < a.heap.size) : w.cell? ⟨k, o, none⟩ = a.cell? ⟨k, o, none⟩ := Below.cell (p := ⟨k, o, none⟩) h hk
end

section
variable {P : Program} {ops : Array Oper} {C : World → Prop} {Q : Act → Prop} {a : Act} {o : Oper} {rest : List Oper}
end
open Go.ChangeShapes Go.WideShapes Go.ChangeAt Go.RowKit

section
variable {w w' : World} {A : Option Addr} {n size : Nat} {xs : List Value}
end

section
variable {H : Type} {enc : TypeId × Value → H} {P : Program} {w : World}
end
open Go.ChangeShapes Go.WideShapes Go.ChangeAt Go.RowKit

section
variable {H : Type} {enc : TypeId × Value → H} {P : Program} {w : World} {base : Nat} {spare : Nat → Bool} {held : Bool}

end
open Go.ChangeShapes Go.WideShapes Go.ChangeAt Go.RowKit
section
variable {H : Type} {enc : TypeId × Value → H} {P : Program} {w : World} {base : Nat} {spare : Nat → Bool} {held : Bool}
end
open Go.RowKit

def Row (w : World) (b : Nat) (cs : List Value) : Prop := ∃ t, w.heap[b]? = some (.cells cs.toArray t (0, 0))
theorem Row.lt {w : World} {b : Nat} {cs : List Value} (h : Row w b cs) : b < w.heap.size := by
 obtain ⟨t, h⟩ := h
 rcases Nat.lt_or_ge b w.heap.size with h' | h'
 ·exact h'
 ·rw [Array.getElem?_eq_none h'] at h; cases h
theorem Row.cell {w : World} {b : Nat} {cs : List Value} (h : Row w b cs) (j : Nat) : w.cell? ⟨b, j, none⟩ = cs[j]? := by
 obtain ⟨t, h⟩ := h
 rw [cell_of_row w b j _ t _ h]
 simp
theorem Row.free {w : World} {b : Nat} {cs : List Value} (h : Row w b cs) (j : Nat) : w.frozen? ⟨b, j, none⟩ = false := by
 obtain ⟨t, h⟩ := h
 exact frozen_of_row w b j _ t h
theorem Row.ext {w w' : World} {b : Nat} {cs : List Value} (h : Row w b cs) (hx : Ext w w') : Row w' b cs := by
 have hl := h.lt
 obtain ⟨t, h⟩ := h
 exact ⟨t, by rw [Below.block hx b hl]; exact h⟩
theorem Row.set {w : World} {b : Nat} {cs : List Value} (h : Row w b cs) (j : Nat) (v : Value) : Row (w.setCell ⟨b, j, none⟩ v) b (cs.set j v) := by
 obtain ⟨t, h⟩ := h
 exact ⟨t, by rw [heap_setCell_same w b j _ t v h]; simp⟩
theorem Row.other {w : World} {b : Nat} {cs : List Value} (h : Row w b cs) {a : Addr} (hb : b ≠ a.block) (v : Value) : Row (w.setCell a v) b cs := by
 obtain ⟨t, h⟩ := h
 exact ⟨t, by rw [heap_setCell_other w a b v hb]; exact h⟩

def Has (B : Nat) (w : World) (L : List (Nat × List Value)) : Prop := (∀ p ∈ L, B ≤ p.1 ∧ Row w p.1 p.2) ∧ (L.map (·.1)).Nodup

section
variable {B : Nat} {w w' : World} {L : List (Nat × List Value)}
theorem Has.nil (B : Nat) (w : World) : Has B w [] := ⟨by simp, by simp⟩
theorem Has.ext (h : Has B w L) (hx : Ext w w') : Has B w' L := ⟨fun p hp => ⟨(h.1 p hp).1, (h.1 p hp).2.ext hx⟩, h.2⟩
theorem Has.row (h : Has B w L) {k b : Nat} {cs : List Value} (hk : L[k]? = some (b, cs)) : B ≤ b ∧ Row w b cs := h.1 (b, cs) (List.mem_of_getElem? hk)
theorem nodup_ne {k i b : Nat} {cs cs' : List Value} (hn : (L.map (·.1)).Nodup) (hk : L[k]? = some (b, cs)) (hi : L[i]? = some (b, cs')) : i = k := by
 obtain ⟨h1, e1⟩ := List.getElem?_eq_some_iff.1 hk
 obtain ⟨h2, e2⟩ := List.getElem?_eq_some_iff.1 hi
 have := (List.pairwise_iff_getElem (R := (fun x y : Nat => x ≠ y)) (l := L.map (fun x : Nat × List Value => x.1))).1 hn
 rcases Nat.lt_trichotomy i k with h | h | h
 ·exact (this i k (by simpa using h2) (by simpa using h1) h (by simp [e1, e2])).elim
 ·exact h
 ·exact (this k i (by simpa using h1) (by simpa using h2) h (by simp [e1, e2])).elim
theorem Has.set (h : Has B w L) {k b : Nat} {cs : List Value} (hk : L[k]? = some (b, cs)) (j : Nat) (v : Value) : Has B (w.setCell ⟨b, j, none⟩ v) (L.set k (b, cs.set j v)) := by
 have hkl : k < L.length := (List.getElem?_eq_some_iff.1 hk).1
 refine ⟨fun p hp => ?_, ?_⟩
 ·obtain ⟨i, hi, e⟩ := List.getElem_of_mem hp
  rw [List.getElem_set] at e
  split at e
  ·subst e; exact ⟨(h.row hk).1, (h.row hk).2.set j v⟩
  ·rename_i hki
   have hi' : i < L.length := by simpa using hi
   have hm : L[i]'hi' ∈ L := List.getElem_mem _
   rw [← e]
   refine ⟨(h.1 _ hm).1, (h.1 _ hm).2.other (fun hb => hki ?_) v⟩
   have hL : L[i]? = some (b, (L[i]'hi').2) := by
    rw [List.getElem?_eq_getElem hi']
    congr 1
    exact Prod.ext hb rfl
   exact (nodup_ne h.2 hk hL).symm
 ·have : (L.set k (b, cs.set j v)).map (·.1) = L.map (·.1) := by
   apply List.ext_getElem?
   intro i
   simp only [List.getElem?_map, List.getElem?_set]
   split
   ·rename_i e; subst e; rw [hk]; simp [hkl]
   ·rfl
  rw [this]; exact h.2
def Bg (cs : List Value) (j : Nat) : List Value → List Value
 | [] => cs
 | v :: vs => Bg (cs.set j v) (j + 1) vs
theorem Dj : ∀ (vs cs : List Value) (j : Nat), (Bg cs j vs).length = cs.length
 | [], _, _ => rfl
 | v :: vs, cs, j => by simp [Bg, Dj vs]
theorem Has.setCells : ∀ (vs : List Value) {w : World} {L : List (Nat × List Value)} (h : Has B w L) {k b : Nat} {cs : List Value} (hk : L[k]? = some (b, cs)) (j : Nat), Has B (w.setCells b j vs) (L.set k (b, Bg cs j vs))
 | [], w, L, h, k, b, cs, hk, j => by
   have hkl : k < L.length := (List.getElem?_eq_some_iff.1 hk).1
   have : L.set k (b, cs) = L := by
    apply List.ext_getElem?
    intro i
    rw [List.getElem?_set]
    split
    ·rename_i e; subst e; exact hk.symm
    ·rfl
   simpa [World.setCells, Bg, this] using h
 | v :: vs, w, L, h, k, b, cs, hk, j => by
   have hkl : k < L.length := (List.getElem?_eq_some_iff.1 hk).1
   have h1 := h.set hk j v
   have h2 := Has.setCells vs h1 (k := k) (b := b) (cs := cs.set j v) (by simp [hkl]) (j + 1)
   rw [List.set_set] at h2
   exact h2
theorem Cl {a : World} : ∀ (vs : List Value) {w : World} (h : Ext a w) {b : Nat} (hb : a.heap.size ≤ b) (j : Nat), Ext a (w.setCells b j vs)
 | [], _, h, _, _, _ => h
 | v :: vs, w, h, b, hb, j => Cl vs (h.setCell (p := ⟨b, j, none⟩) hb v) hb (j + 1)
end

def szB (P : Program) (t : TypeId) (n : Nat) : Bool := (P.info? t).map (·.size) == some n
def flatB (P : Program) (t : TypeId) : Bool := match P.underlying t with | some d => !d.isRow | none => false
theorem szB_of {P : Program} {t : TypeId} {n : Nat} (h : szB P t n = true) : (P.info? t).map (·.size) = some n := by simpa [szB] using h
theorem flatB_of {P : Program} {t : TypeId} (h : flatB P t = true) : ∃ d, P.underlying t = some d ∧ d.isRow = false := by
 unfold flatB at h
 split at h
 ·exact ⟨_, by assumption, by simpa using h⟩
 ·cases h

section
variable {P : Program} {w : World}
theorem isAgg_flat {t : TypeId} (h : flatB P t = true) (w : World) : (isAgg t).run P w = .ok false w := by
 obtain ⟨d, hu, hd⟩ := flatB_of h
 unfold isAgg
 rw [Sem.run_bind, run_underlying hu w]
 cases d <;> simp_all
theorem run_load1 {t : TypeId} (h : flatB P t = true) {b j : Nat} {v : Value} (hc : w.cell? ⟨b, j, none⟩ = some v) : (loadVar t ⟨b, j, none⟩).run P w = .ok v w := by
 unfold loadVar
 rw [Sem.run_bind, isAgg_flat h]
 simp [hc]
end

section
variable {P : Program} {o : Oper} {a : Act} {w : World} {K : Act → World → Prop} {Q : Exit → Act → World → Prop} {B : Nat} {L : List (Nat × List Value)}

theorem wp_load1_h (k : Nat) (hH : Has B w L) (t : TypeId) (x : Operand) (ho : o.op = .load t x) (hf : flatB P t = true) (b j : Nat) (hx : a.eval x = .pointer (some ⟨b, j, none⟩)) (cs : List Value) (hk : L[k]? = some (b, cs)) (v : Value) (hv : cs[j]? = some v)
  (h : K (a.put o.dst v) w) : o.wp P a w K Q := by
 have hc : w.cell? ⟨b, j, none⟩ = some v := by rw [(hH.row hk).2.cell]; exact hv
 unfold Oper.wp execOp
 simp only [ho, hx, Instr.loadAt, Instr.sureAddr, Sem.run_bind, Sem.run_pure, Result.andThen_ok, run_load1 hf hc]
 exact h
end

section
variable {P : Program} {o : Oper} {a : Act} {w0 wq : World} {B : Nat} {L : List (Nat × List Value)}
end
open Go

abbrev Ce := List (Nat × List Value)

section
variable {P : Program} {ops : Array Oper} {md : Region.Mode} {w0 : World} {Φ : Nat → Option (Value → Ce → Prop)}

end

section
variable {P : Program} {w0 : World} {o : Oper} {a : Act}
end
open Go

def St (W w : World) (L : Ce) : Prop := Ext W w ∧ Has W.heap.size w L
section
variable {W w w' : World} {L : Ce}
theorem St.refl (W : World) : St W W [] := ⟨Ext.refl W, Has.nil _ _⟩
theorem St.x (h : St W w L) : Ext W w := h.1
theorem St.ext (h : St W w L) (hx : Ext w w') : St W w' L := ⟨h.1.trans hx, h.2.ext hx⟩
theorem Has.tail {B : Nat} {p : Nat × List Value} (h : Has B w (p :: L)) : Has B w L := ⟨fun q hq => h.1 q (List.mem_cons_of_mem _ hq), (List.nodup_cons.1 (by simpa using h.2)).2⟩
theorem St.tail {p : Nat × List Value} (h : St W w (p :: L)) : St W w L := ⟨h.1, h.2.tail⟩
end

section
variable {P : Program} {o : Oper} {a : Act} {W w : World} {K : Act → World → Prop} {Q : Exit → Act → World → Prop} {L : Ce}
theorem s_load1 (k : Nat) (hS : St W w L) (t : TypeId) (x : Operand) (ho : o.op = .load t x) (b j : Nat) (hx : a.eval x = .pointer (some ⟨b, j, none⟩)) (cs : List Value) (hk : L[k]? = some (b, cs)) (v : Value) (hv : cs[j]? = some v) (hf : flatB P t = true)
  (h : K (a.put o.dst v) w) : o.wp P a w K Q := wp_load1_h k hS.2 t x ho hf b j hx cs hk v hv h
end

section
variable {P : Program} {o : Oper} {a : Act} {W w0 : World} {L : Ce}
end
def entB (P : Program) (f : FuncId) : Bool := match P.funcs[f]? with | some fn => !(fn.name == "runtime.NumGoroutine") && fn.body.isSome | none => false
theorem run_enter {P : Program} {f : FuncId} (h : entB P f = true) (args : Array Value) (w : World) : (callFunc f args).run P w = .ok (.enter f args) w := by
 unfold entB at h
 split at h
 ·rename_i fn hf
  simp only [Bool.and_eq_true, Bool.not_eq_true'] at h
  have h2 : fn.body.isNone = false := by simpa using h.2
  show ((Sem.program Sem.pure).bind _).run P w = _
  simp only [Sem.bind, Sem.run, hf]
  simp only [h.1, h2, Bool.false_eq_true, if_false]
  rfl
 ·cases h
section
variable {P : Program} {d : Option Tmp} {ty : TypeId} {pos : String} {af : Array Edge} {g : Option (Nat × Bool)} {a : Act} {w : World} {K : Act → World → Prop} {Q : Exit → Act → World → Prop}
theorem g_load {t : TypeId} {x : Operand} (h : Oper.wp P ⟨d, .load t x, ty, pos, af, g⟩ a w K Q) : Oper.wp P ⟨d, .load t x, ty, pos, af, g⟩ a w K Q := h
theorem g_store {t : TypeId} {x y : Operand} (h : Oper.wp P ⟨d, .store t x y, ty, pos, af, g⟩ a w K Q) : Oper.wp P ⟨d, .store t x y, ty, pos, af, g⟩ a w K Q := h
end
open Go.RowKit

section
variable {P : Program} {w : World} {ops : Array Oper} {rest : List Oper} {o : Oper} {a : Act} {Q : Exit → Act → World → Prop}

end
open Go

section
variable {W w w' : World} {L : Ce}
theorem D7 : ∀ (ys xs zs : List Value), ys.length ≤ zs.length → Bg (xs ++ zs) xs.length ys = xs ++ ys ++ zs.drop ys.length
 | [], xs, zs, _ => by simp [Bg]
 | y :: ys, xs, zs, h => by
   cases zs with
   | nil => simp at h
   | cons z zs =>
    have ih := D7 ys (xs ++ [y]) zs (by simpa using h)
    simp only [Bg, List.length_append, List.length_singleton, List.append_assoc, List.singleton_append] at ih ⊢
    rw [List.set_append_right _ _ (Nat.le_refl _), Nat.sub_self, List.set_cons_zero]
    simpa using ih
end

section
variable {P : Program} {w : World}
end

section
variable {P : Program} {o : Oper} {a : Act} {W w : World} {K : Act → World → Prop} {Q : Exit → Act → World → Prop} {R L : Ce}
end

section
variable {P : Program} {o : Oper} {a : Act} {W w : World} {K : Act → World → Prop} {Q : Exit → Act → World → Prop} {R LL : Ce}
end
section
variable {P : Program} {d : Option Tmp} {ty : TypeId} {pos : String} {af : Array Edge} {g : Option (Nat × Bool)} {a : Act} {w : World} {K : Act → World → Prop} {Q : Exit → Act → World → Prop}
end
end Go.Proofs.Ytojakfnljopjbaa
