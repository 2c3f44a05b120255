/-
  A law's frame: a call that returns true and leaves all older memory as it was gives the given statement's post-condition. Conditions: the parameters' types can be read again (a closed check), one bool result, no listed variables.
-/
import Derived.WalkKit
import Derived.ProofKit
import Derived.OpenShut
import Derived.Lib.SmallJoins
import Derived.JoinedCond
import Derived.Carry
import Derived.Deep.QuietTactic
import Derived.BigQuiet
import Derived.Deep.Draws
import Derived.Maps.AppendAt
import Derived.Deep.AppendLies
import Derived.OwnWalk
import Derived.ChangeArms
import Derived.ChangeShapes
import Derived.Deep.Slices
import Derived.Deep.MidRow
import Derived.Laws.Rows
import Derived.RangeFuncOwn
import Derived.StillTail
import Derived.Lib.Hide
import Derived.RangeFuncNested
import Derived.RangeFuncLeaves
import Derived.RangeFuncBound
import Derived.TacticsIn
import Derived.LoopIn
import Derived.WalkMore
import Derived.Laws.MakeOwn
import Derived.Laws.IdiomCopy
namespace Go.Proofs.Ytmoflcoijmmpjaa
set_option linter.unusedSimpArgs false
set_option linter.unusedVariables false
set_option linter.unusedSectionVars false
open Go.ChangeShapes Go.WideShapes Go.ChangeAt Go.RowKit

section
variable {H : Type} {enc : TypeId × Value → H} {P : Program}

theorem trodAll_stays (hl : laidOutB P = true) {W W' : World} (hb : Below W.heap.size W W') {sp : Nat → Bool} :
    ∀ (ts : List TypeId) (vs : List Value) (ds : List (DataW H)) (ps : List MemPlace),
    (∀ t ∈ ts, P.readableRec t = true ∧ t < P.types.size) →
    DataW.TrodAll enc P W 0 (fun _ => true) true ts vs ds ps → (∀ x ∈ ps, x.block < W.heap.size) → (∀ p ∈ ps, sp p.block = true) →
    DataW.TrodAll enc P W' 0 sp true ts vs ds ps
  | [], [], [], _, _, h, _, _ => h
  | [], _ :: _, _, _, _, h, _, _ => by simp [DataW.TrodAll] at h
  | [], [], _ :: _, _, _, h, _, _ => by simp [DataW.TrodAll] at h
  | _ :: _, [], _, _, _, h, _, _ => by simp [DataW.TrodAll] at h
  | _ :: _, _ :: _, [], _, _, h, _, _ => by simp [DataW.TrodAll] at h
  | t :: ts, v :: vs, d :: ds, ps, hr, h, hlt, hs => by
      obtain ⟨p, q, h1, h2, e⟩ := h
      subst e
      exact ⟨p, q, WideElems.Trod_stays hl (hr t (by simp)).1 (hr t (by simp)).2 h1 (fun x hx => hb.same (hlt x (by simp [hx]))) (fun x hx => hs x (by simp [hx])),
        trodAll_stays hl hb ts vs ds q (fun t' ht' => hr t' (by simp [ht'])) h2 (fun x hx => hlt x (by simp [hx])) (fun x hx => hs x (by simp [hx])), rfl⟩

theorem trodAll_len {W : World} {b : Nat} {sp : Nat → Bool} {hd : Bool} : ∀ {ts : List TypeId} {vs : List Value} {ds : List (DataW H)} {ps : List MemPlace}, DataW.TrodAll enc P W b sp hd ts vs ds ps → ds.length = ts.length
  | [], [], [], _, _ => rfl
  | [], _ :: _, _, _, h => by simp [DataW.TrodAll] at h
  | [], [], _ :: _, _, h => by simp [DataW.TrodAll] at h
  | _ :: _, [], _, _, h => by simp [DataW.TrodAll] at h
  | _ :: _, _ :: _, [], _, h => by simp [DataW.TrodAll] at h
  | t :: ts, v :: vs, d :: ds, ps, h => by
      obtain ⟨p, q, h1, h2, e⟩ := h
      simp [trodAll_len h2]

def paramsFine (P : Program) (f : Func) : Bool := laidOutB P && f.params.toList.all (fun t => P.readableRec t && decide (t < P.types.size))

theorem law_post {f : Func} {s : ChangeSpec} {tb : TypeId} {apart fresh handsOn again : Bool} {W W' : World} {args : Array Value} {ds gs : List (DataW H)} {before : List MemPlace}
    (hfine : paramsFine P f = true) (hres : f.resultTypes = #[tb]) (htb : P.underlying tb = some .bool) (hvars : s.vars = [])
    (hspec : s.fn H (ds ++ []) = { results := [.lit (.bool true)], args := ds })
    (hW : DataW.Whole enc P f.params.toList s.vars apart W args.toList ds gs before)
    (hb : Below W.heap.size W W') : s.post enc P f apart fresh handsOn again W args (.bool true) W' := by
  have hW' := hW
  have hlt : ∀ p ∈ before, p.block < W.heap.size := fun p hp => hW.lt p hp
  obtain ⟨p, q, hA, hV, hpq, hz, hn⟩ := hW
  rw [hvars] at hV
  obtain ⟨rfl, rfl⟩ := trodVars_none hV
  obtain rfl : before = p := by simpa using hpq
  simp only [paramsFine, Bool.and_eq_true, List.all_eq_true, decide_eq_true_eq] at hfine
  have hargs : ∀ sp : Nat → Bool, (∀ x ∈ before, sp x.block = true) → DataW.TrodAll enc P W' 0 sp true f.params.toList args.toList ds before :=
    fun sp hsp => trodAll_stays hfine.1 hb _ _ _ _ hfine.2 hA hlt hsp
  have hresT : ∀ (b : Nat) (sp : Nat → Bool) (hd : Bool), DataW.TrodAll enc P W' b sp hd f.resultTypes.toList ((Value.bool true).resultList f.resultTypes.size) [.lit (.bool true)] [] := by
    intro b sp hd
    rw [hres]
    exact trodAll_cons_mk (shut_bool htb _) trodAll_mk0
  have hold : ∀ x ∈ before, (fun b => decide (b < W.heap.size)) x.block = true := fun x hx => by simpa using hlt x hx
  have hvT : ∀ sp : Nat → Bool, DataW.TrodVars enc P W' sp s.vars (s.fn H (ds ++ [])).vars [] := fun sp => by rw [hvars, hspec]; rfl
  refine ⟨ds, [], before, [], before, [], hW', ?_, ?_, hvT _, World.keptBut_mono (fun x hx => ⟨hx, .inr (.inl hx)⟩) (hb.frame (· ∈ before)), fun _ => ?_⟩
  · rw [hspec]; exact hresT _ _ _
  · rw [hspec]; exact hargs _ hold
  · refine ⟨ok_one hres rfl (okWide_bool_mk htb _), [.lit (.bool true)] ++ ds, [], ([] ++ before) ++ [], ⟨[] ++ before, [], trodAll_append (hargs _ (fun _ _ => rfl)) (hresT _ _ _), (by rw [hvars]; rfl), rfl, ?_, ?_⟩, ?_⟩
    · intro b off hp
      have hin : MemPlace.cell b off ∈ before := by simpa using hp
      rw [hb.frozen (hlt _ hin)]
      exact hz b off hin
    · intro ha
      simpa using hn ha
    · intro x hx _
      simpa using hx
end
end Go.Proofs.Ytmoflcoijmmpjaa
/-
  Worlds that extend an older one: all older memory is as it was. Lemmas on allocation, draws, stores into new blocks, and on regions that draw their order while the calls in them make new memory only.
-/
namespace Go.Proofs.Ytmoflcoijmmpjaa
set_option linter.unusedSimpArgs false
set_option linter.unusedVariables false
set_option linter.unusedSectionVars false
open Go.RowKit

def Ext (a w : World) : Prop := Below a.heap.size a w

section
variable {a b c w : World}
theorem Ext.refl (w : World) : Ext w w := Below.refl _ _
theorem Ext.trans (h : Ext a b) (k : Ext b c) : Ext a c := Below.trans h (Below.mono k (Below.size h))
theorem Ext.alloc (h : Ext a w) (o : Obj) : Ext a (w.alloc o) := Below.alloc h (Below.size h) o
theorem Ext.setCell (h : Ext a w) {p : Addr} (hp : a.heap.size ≤ p.block) (u : Value) : Ext a (w.setCell p u) := Below.setCell h hp u
theorem Ext.drew (h : Ext a w) : Ext a w.drew := Below.drew h
theorem Ext.lt (h : Ext a w) {k : Nat} (hk : k < a.heap.size) : k < w.heap.size := Nat.lt_of_lt_of_le hk (Below.size h)
theorem Ext.size (h : Ext a w) : a.heap.size ≤ w.heap.size := Below.size h
theorem Ext.cell (h : Ext a w) (k o : Nat) (hk : k < a.heap.size) : w.cell? ⟨k, o, none⟩ = a.cell? ⟨k, o, none⟩ := Below.cell (p := ⟨k, o, none⟩) h hk
theorem Ext.frozen (h : Ext a w) (k o : Nat) (hk : k < a.heap.size) : w.frozen? ⟨k, o, none⟩ = a.frozen? ⟨k, o, none⟩ := Below.frozen (p := ⟨k, o, none⟩) h hk
theorem Ext.facts (h : Ext a w) : (∀ k o, k < a.heap.size → w.cell? ⟨k, o, none⟩ = a.cell? ⟨k, o, none⟩) ∧ (∀ k o, k < a.heap.size → w.frozen? ⟨k, o, none⟩ = a.frozen? ⟨k, o, none⟩) ∧ a.heap.size ≤ w.heap.size :=
  ⟨h.cell, h.frozen, h.size⟩
end

section
variable {P : Program} {ops : Array Oper} {C : World → Prop} {Q : Act → Prop} {a : Act} {o : Oper} {rest : List Oper}
end
end Go.Proofs.Ytmoflcoijmmpjaa
/-
  Slices that come in, read as lists: nil, empty and other slices alike; kept in every later world. Opening of an argument that is a slice of integers.
-/
namespace Go.Proofs.Ytmoflcoijmmpjaa
set_option linter.unusedSimpArgs false
set_option linter.unusedVariables false
set_option linter.unusedSectionVars false
open Go.ChangeShapes Go.WideShapes Go.ChangeAt Go.RowKit

def Sl (w : World) (A : Option Addr) (n size : Nat) (xs : List Value) : Prop :=
  xs.length = n * size ∧ (0 < n → ∃ b off, A = some ⟨b, off, none⟩ ∧ b < w.heap.size ∧ ∀ j u, xs[j]? = some u → w.cell? ⟨b, off + j, none⟩ = some u)

section
variable {w w' : World} {A : Option Addr} {n size : Nat} {xs : List Value}
theorem Sl.ext (h : Sl w A n size xs) (hx : Ext w w') : Sl w' A n size xs :=
  ⟨h.1, fun hn => by
    obtain ⟨b, off, e, hb, hc⟩ := h.2 hn
    exact ⟨b, off, e, hx.lt hb, fun j u hu => (hx.cell b _ hb).trans (hc j u hu)⟩⟩
theorem Sl.nil (w : World) (size : Nat) : Sl w none 0 size [] := ⟨by simp, fun h => absurd h (by omega)⟩
end

theorem Sl.new (w : World) (cs : Array Value) (t : TypeId) (n size : Nat) (h : cs.size = n * size) : Sl (w.alloc (.cells cs t)) (some ⟨w.heap.size, 0, none⟩) n size cs.toList := by
  refine ⟨by simpa using h, fun _ => ⟨w.heap.size, 0, rfl, by simp, fun j u hu => ?_⟩⟩
  rw [World.cell?_alloc_at _ _ _ _ (by simp)]
  simpa using hu
def cellsOf (k : IntKind) (zs : List Int) : List Value := zs.map (Value.int k)

section
variable {H : Type} {enc : TypeId × Value → H} {P : Program} {w : World}
end
end Go.Proofs.Ytmoflcoijmmpjaa
/-
  Slices that the call makes itself: 'append' of one element onto an owned row, in terms of later worlds.
-/
namespace Go.Proofs.Ytmoflcoijmmpjaa
set_option linter.unusedSimpArgs false
set_option linter.unusedVariables false
set_option linter.unusedSectionVars false
open Go.RowKit

section
variable {P : Program} {w : World} {ops : Array Oper} {rest : List Oper} {o : Oper} {a : Act} {Q : Exit → Act → World → Prop}

end

end Go.Proofs.Ytmoflcoijmmpjaa
/-
  Arguments that are structs or arrays of integers, whatever their nesting: their cells are one flat list of integers, each fitting its kind.
-/
namespace Go.Proofs.Ytmoflcoijmmpjaa
set_option linter.unusedSimpArgs false
set_option linter.unusedVariables false
set_option linter.unusedSectionVars false
open Go.ChangeShapes Go.WideShapes Go.ChangeAt Go.RowKit

def cellsK : List IntKind → List Int → List Value
  | k :: ks, z :: zs => .int k z :: cellsK ks zs
  | _, _ => []
def AllWf : List IntKind → List Int → Prop
  | [], [] => True
  | k :: ks, z :: zs => (Lit.int k z).wf = true ∧ AllWf ks zs
  | _, _ => False
theorem AllWf.len : ∀ {ks : List IntKind} {zs : List Int}, AllWf ks zs → zs.length = ks.length
  | [], [], _ => rfl
  | _ :: _, _ :: _, h => by simp [AllWf.len h.2]
  | [], _ :: _, h => h.elim
  | _ :: _, [], h => h.elim
theorem AllWf.app : ∀ {ks ks' : List IntKind} {zs zs' : List Int}, AllWf ks zs → AllWf ks' zs' → AllWf (ks ++ ks') (zs ++ zs') ∧ cellsK (ks ++ ks') (zs ++ zs') = cellsK ks zs ++ cellsK ks' zs'
  | [], _, [], _, _, h' => ⟨h', rfl⟩
  | _ :: _, _, _ :: _, _, h, h' => by
      obtain ⟨h1, h2⟩ := AllWf.app h.2 h'
      exact ⟨⟨h.1, h1⟩, by simp [cellsK, h2]⟩
  | [], _, _ :: _, _, h, _ => h.elim
  | _ :: _, _, [], _, h, _ => h.elim
section
variable {H : Type} {enc : TypeId × Value → H} {P : Program} {w : World} {base : Nat} {spare : Nat → Bool} {held : Bool}

end
end Go.Proofs.Ytmoflcoijmmpjaa
/-
  The call's own blocks, held as a list of whole blocks: laws of the operations that make, read and write them, in terms of worlds that are letters.
-/
namespace Go.Proofs.Ytmoflcoijmmpjaa
set_option linter.unusedSimpArgs false
set_option linter.unusedVariables false
set_option linter.unusedSectionVars false
open Go.RowKit

def Row (w : World) (b : Nat) (cs : List Value) : Prop := ∃ t, w.heap[b]? = some (.cells cs.toArray t (0, 0))
theorem Row.lt {w : World} {b : Nat} {cs : List Value} (h : Row w b cs) : b < w.heap.size := by
  obtain ⟨t, h⟩ := h
  rcases Nat.lt_or_ge b w.heap.size with h' | h'
  · exact h'
  · rw [Array.getElem?_eq_none h'] at h; cases h
theorem Row.cell {w : World} {b : Nat} {cs : List Value} (h : Row w b cs) (j : Nat) : w.cell? ⟨b, j, none⟩ = cs[j]? := by
  obtain ⟨t, h⟩ := h
  rw [cell_of_row w b j _ t _ h]
  simp
theorem Row.free {w : World} {b : Nat} {cs : List Value} (h : Row w b cs) (j : Nat) : w.frozen? ⟨b, j, none⟩ = false := by
  obtain ⟨t, h⟩ := h
  exact frozen_of_row w b j _ t h
theorem Row.ext {w w' : World} {b : Nat} {cs : List Value} (h : Row w b cs) (hx : Ext w w') : Row w' b cs := by
  have hl := h.lt
  obtain ⟨t, h⟩ := h
  exact ⟨t, by rw [Below.block hx b hl]; exact h⟩
theorem Row.new (w : World) (cs : List Value) (t : TypeId) : Row (w.alloc (.cells cs.toArray t)) w.heap.size cs := ⟨t, heap_alloc_new w _⟩
theorem Row.set {w : World} {b : Nat} {cs : List Value} (h : Row w b cs) (j : Nat) (v : Value) : Row (w.setCell ⟨b, j, none⟩ v) b (cs.set j v) := by
  obtain ⟨t, h⟩ := h
  exact ⟨t, by rw [heap_setCell_same w b j _ t v h]; simp⟩
theorem Row.other {w : World} {b : Nat} {cs : List Value} (h : Row w b cs) {a : Addr} (hb : b ≠ a.block) (v : Value) : Row (w.setCell a v) b cs := by
  obtain ⟨t, h⟩ := h
  exact ⟨t, by rw [heap_setCell_other w a b v hb]; exact h⟩

def Has (B : Nat) (w : World) (L : List (Nat × List Value)) : Prop := (∀ p ∈ L, B ≤ p.1 ∧ Row w p.1 p.2) ∧ (L.map (·.1)).Nodup

section
variable {B : Nat} {w w' : World} {L : List (Nat × List Value)}
theorem Has.nil (B : Nat) (w : World) : Has B w [] := ⟨by simp, by simp⟩
theorem Has.ext (h : Has B w L) (hx : Ext w w') : Has B w' L := ⟨fun p hp => ⟨(h.1 p hp).1, (h.1 p hp).2.ext hx⟩, h.2⟩
theorem Has.row (h : Has B w L) {k b : Nat} {cs : List Value} (hk : L[k]? = some (b, cs)) : B ≤ b ∧ Row w b cs := h.1 (b, cs) (List.mem_of_getElem? hk)
theorem Has.alloc (h : Has B w L) (hB : B ≤ w.heap.size) (cs : List Value) (t : TypeId) : Has B (w.alloc (.cells cs.toArray t)) ((w.heap.size, cs) :: L) := by
  refine ⟨fun p hp => ?_, ?_⟩
  · rcases List.mem_cons.1 hp with rfl | hp
    · exact ⟨hB, Row.new w cs t⟩
    · exact ⟨(h.1 p hp).1, (h.1 p hp).2.ext ((Ext.refl w).alloc _)⟩
  · rw [List.map_cons, List.nodup_cons]
    refine ⟨fun hm => ?_, h.2⟩
    obtain ⟨p, hp, e⟩ := List.mem_map.1 hm
    have := (h.1 p hp).2.lt
    omega
theorem nodup_ne {k i b : Nat} {cs cs' : List Value} (hn : (L.map (·.1)).Nodup) (hk : L[k]? = some (b, cs)) (hi : L[i]? = some (b, cs')) : i = k := by
  obtain ⟨h1, e1⟩ := List.getElem?_eq_some_iff.1 hk
  obtain ⟨h2, e2⟩ := List.getElem?_eq_some_iff.1 hi
  have := (List.pairwise_iff_getElem (R := (fun x y : Nat => x ≠ y)) (l := L.map (fun x : Nat × List Value => x.1))).1 hn
  rcases Nat.lt_trichotomy i k with h | h | h
  · exact (this i k (by simpa using h2) (by simpa using h1) h (by simp [e1, e2])).elim
  · exact h
  · exact (this k i (by simpa using h1) (by simpa using h2) h (by simp [e1, e2])).elim
theorem Has.set (h : Has B w L) {k b : Nat} {cs : List Value} (hk : L[k]? = some (b, cs)) (j : Nat) (v : Value) : Has B (w.setCell ⟨b, j, none⟩ v) (L.set k (b, cs.set j v)) := by
  have hkl : k < L.length := (List.getElem?_eq_some_iff.1 hk).1
  refine ⟨fun p hp => ?_, ?_⟩
  · obtain ⟨i, hi, e⟩ := List.getElem_of_mem hp
    rw [List.getElem_set] at e
    split at e
    · subst e; exact ⟨(h.row hk).1, (h.row hk).2.set j v⟩
    · rename_i hki
      have hi' : i < L.length := by simpa using hi
      have hm : L[i]'hi' ∈ L := List.getElem_mem _
      rw [← e]
      refine ⟨(h.1 _ hm).1, (h.1 _ hm).2.other (fun hb => hki ?_) v⟩
      have hL : L[i]? = some (b, (L[i]'hi').2) := by
        rw [List.getElem?_eq_getElem hi']
        congr 1
        exact Prod.ext hb rfl
      exact (nodup_ne h.2 hk hL).symm
  · have : (L.set k (b, cs.set j v)).map (·.1) = L.map (·.1) := by
      apply List.ext_getElem?
      intro i
      simp only [List.getElem?_map, List.getElem?_set]
      split
      · rename_i e; subst e; rw [hk]; simp [hkl]
      · rfl
    rw [this]; exact h.2
def splice (cs : List Value) (j : Nat) : List Value → List Value
  | [] => cs
  | v :: vs => splice (cs.set j v) (j + 1) vs
theorem splice_length : ∀ (vs cs : List Value) (j : Nat), (splice cs j vs).length = cs.length
  | [], _, _ => rfl
  | v :: vs, cs, j => by simp [splice, splice_length vs]
theorem Has.setCells : ∀ (vs : List Value) {w : World} {L : List (Nat × List Value)} (h : Has B w L) {k b : Nat} {cs : List Value} (hk : L[k]? = some (b, cs)) (j : Nat), Has B (w.setCells b j vs) (L.set k (b, splice cs j vs))
  | [], w, L, h, k, b, cs, hk, j => by
      have hkl : k < L.length := (List.getElem?_eq_some_iff.1 hk).1
      have : L.set k (b, cs) = L := by
        apply List.ext_getElem?
        intro i
        rw [List.getElem?_set]
        split
        · rename_i e; subst e; exact hk.symm
        · rfl
      simpa [World.setCells, splice, this] using h
  | v :: vs, w, L, h, k, b, cs, hk, j => by
      have hkl : k < L.length := (List.getElem?_eq_some_iff.1 hk).1
      have h1 := h.set hk j v
      have h2 := Has.setCells vs h1 (k := k) (b := b) (cs := cs.set j v) (by simp [hkl]) (j + 1)
      rw [List.set_set] at h2
      exact h2
theorem ext_setCells {a : World} : ∀ (vs : List Value) {w : World} (h : Ext a w) {b : Nat} (hb : a.heap.size ≤ b) (j : Nat), Ext a (w.setCells b j vs)
  | [], _, h, _, _, _ => h
  | v :: vs, w, h, b, hb, j => ext_setCells vs (h.setCell (p := ⟨b, j, none⟩) hb v) hb (j + 1)
end

def Adv (W w w' : World) : Prop := KeepsOthers w w' ∧ Below W.heap.size w w'
theorem Adv.refl (W w : World) : Adv W w w := ⟨KeepsOthers.refl _, Below.refl _ _⟩
theorem Adv.trans {W a b c : World} (h : Adv W a b) (k : Adv W b c) : Adv W a c := ⟨h.1.trans k.1, h.2.trans k.2⟩
def flatB (P : Program) (t : TypeId) : Bool := match P.underlying t with | some d => !d.isRow | none => false
theorem flatB_of {P : Program} {t : TypeId} (h : flatB P t = true) : ∃ d, P.underlying t = some d ∧ d.isRow = false := by
  unfold flatB at h
  split at h
  · exact ⟨_, by assumption, by simpa using h⟩
  · cases h

section
variable {P : Program} {w : World}
theorem isAgg_flat {t : TypeId} (h : flatB P t = true) (w : World) : (isAgg t).run P w = .ok false w := by
  obtain ⟨d, hu, hd⟩ := flatB_of h
  unfold isAgg
  rw [Sem.run_bind, run_underlying hu w]
  cases d <;> simp_all
theorem run_load1 {t : TypeId} (h : flatB P t = true) {b j : Nat} {v : Value} (hc : w.cell? ⟨b, j, none⟩ = some v) : (loadVar t ⟨b, j, none⟩).run P w = .ok v w := by
  unfold loadVar
  rw [Sem.run_bind, isAgg_flat h]
  simp [hc]
end

section
variable {P : Program} {o : Oper} {a : Act} {w : World} {K : Act → World → Prop} {Q : Exit → Act → World → Prop} {B : Nat} {L : List (Nat × List Value)}

theorem Row.range {b : Nat} {cs : List Value} (h : Row w b cs) (j n : Nat) : w.rangeAt b j ((cs.drop j).take n) := fun i v hv => by
  rw [h.cell]
  rw [List.getElem?_take] at hv
  split at hv
  · rw [List.getElem?_drop] at hv; exact hv
  · cases hv
end

section
variable {P : Program} {o : Oper} {a : Act} {w0 wq : World} {B : Nat} {L : List (Nat × List Value)}
end

end Go.Proofs.Ytmoflcoijmmpjaa
/-
  A region that draws its order: operations that only read, operations and calls that make new memory, in any order; at most a forced tail behind them. One walk in the order of the text serves every order.
-/
namespace Go.Proofs.Ytmoflcoijmmpjaa
set_option linter.unusedSimpArgs false
set_option linter.unusedVariables false
set_option linter.unusedSectionVars false
open Go

abbrev Blocks := List (Nat × List Value)

theorem Has.append {B : Nat} {w w' : World} {L Ln : Blocks} (h : Has B w L) (hB : B ≤ w.heap.size) (hx : Ext w w') (hn : Has w.heap.size w' Ln) : Has B w' (Ln ++ L) := by
  have h' := h.ext hx
  refine ⟨fun p hp => ?_, ?_⟩
  · rcases List.mem_append.1 hp with hp | hp
    · exact ⟨Nat.le_trans hB (hn.1 p hp).1, (hn.1 p hp).2⟩
    · exact h'.1 p hp
  · rw [List.map_append, List.nodup_append]
    refine ⟨hn.2, h'.2, fun x hx1 y hy1 e => ?_⟩
    obtain ⟨p, hp, rfl⟩ := List.mem_map.1 hx1
    obtain ⟨q, hq, rfl⟩ := List.mem_map.1 hy1
    have := (hn.1 p hp).1
    have := (h.1 q hq).2.lt
    omega

section
variable {P : Program} {ops : Array Oper} {md : Region.Mode} {w0 : World} {Φ : Nat → Option (Value → Blocks → Prop)}

def OReads (P : Program) (w0 : World) (o : Oper) (a : Act) (v : Value) : Prop := ∀ w, Ext w0 w → (execOp a.eval o).run P w = .ok (.value v) w
def MadeBy (P : Program) (φ : Value → Blocks → Prop) (w : World) : Result Next → Prop
  | .ok (.value v) w' => ∃ Ln, φ v Ln ∧ Ext w w' ∧ Has w.heap.size w' Ln
  | .ok (.enter f args) w' => Calls P f args w' fun e w'' => ∃ v Ln, e = .returned v ∧ φ v Ln ∧ Ext w w'' ∧ Has w.heap.size w'' Ln
  | _ => False
def OMakes (P : Program) (w0 : World) (o : Oper) (a : Act) (φ : Value → Blocks → Prop) : Prop :=
  ∀ w, Ext w0 w → MadeBy P φ w ((execOp a.eval o).run P w)
def Yd (P : Program) (ops : Array Oper) (w0 : World) (Φ : Nat → Option (Value → Blocks → Prop)) (i : Nat) (o : Oper) (a : Act) (S : Value → Blocks → Prop) : Prop :=
  (∃ v Ln, S v Ln) ∧
  ((Region.wanted o (yielded ops a.tmps) = true ∧ Φ i = none ∧ ∃ v, OReads P w0 o a v ∧ ∀ u Ln, S u Ln ↔ u = v ∧ Ln = []) ∨
   (Region.wanted o (yielded ops a.tmps) = true ∧ Φ i = some S ∧ OMakes P w0 o a S) ∨
   (Region.wanted o (yielded ops a.tmps) = false ∧ ∀ u Ln, S u Ln ↔ u = undef ∧ Ln = []))

theorem reads_same {o : Oper} {a a' : Act} {v : Value} (he : execOp a'.eval o = execOp a.eval o) (h : OReads P w0 o a v) : OReads P w0 o a' v := by
  intro w hw; rw [he]; exact h w hw
theorem makes_same {o : Oper} {a a' : Act} {φ : Value → Blocks → Prop} (he : execOp a'.eval o = execOp a.eval o) (h : OMakes P w0 o a φ) : OMakes P w0 o a' φ := by
  intro w hw; rw [he]; exact h w hw
theorem Yd.same {i : Nat} {o : Oper} {a a' : Act} {S : Value → Blocks → Prop} (he : execOp a'.eval o = execOp a.eval o) (hw : Region.wanted o (yielded ops a'.tmps) = Region.wanted o (yielded ops a.tmps))
    (hy : Yd P ops w0 Φ i o a S) : Yd P ops w0 Φ i o a' S := by
  refine ⟨hy.1, ?_⟩
  rw [hw]
  rcases hy.2 with ⟨h1, h2, v, hr, hS⟩ | ⟨h1, h2, hm⟩ | h
  · exact .inl ⟨h1, h2, v, reads_same he hr, hS⟩
  · exact .inr (.inl ⟨h1, h2, makes_same he hm⟩)
  · exact .inr (.inr h)

end

section
variable {P : Program} {w0 : World} {o : Oper} {a : Act}
end
end Go.Proofs.Ytmoflcoijmmpjaa
/-
  The state of a walk: a later world of the one where the call began, with the call's own blocks; laws of the operations, one hypothesis long.
-/
namespace Go.Proofs.Ytmoflcoijmmpjaa
set_option linter.unusedSimpArgs false
set_option linter.unusedVariables false
set_option linter.unusedSectionVars false
open Go

def St (W w : World) (L : Blocks) : Prop := Ext W w ∧ Has W.heap.size w L
section
variable {W w w' : World} {L : Blocks}
theorem St.refl (W : World) : St W W [] := ⟨Ext.refl W, Has.nil _ _⟩
theorem St.x (h : St W w L) : Ext W w := h.1
theorem St.ext (h : St W w L) (hx : Ext w w') : St W w' L := ⟨h.1.trans hx, h.2.ext hx⟩
theorem St.alloc (h : St W w L) (cs : Array Value) (t : TypeId) : St W (w.alloc (.cells cs t)) ((w.heap.size, cs.toList) :: L) :=
  ⟨h.1.alloc _, by simpa using h.2.alloc h.1.size cs.toList t⟩
theorem St.app (h : St W w L) {Ln : Blocks} (hx : Ext w w') (hn : Has w.heap.size w' Ln) : St W w' (Ln ++ L) := ⟨h.1.trans hx, h.2.append h.1.size hx hn⟩
theorem Has.tail {B : Nat} {p : Nat × List Value} (h : Has B w (p :: L)) : Has B w L := ⟨fun q hq => h.1 q (List.mem_cons_of_mem _ hq), (List.nodup_cons.1 (by simpa using h.2)).2⟩
theorem St.tail {p : Nat × List Value} (h : St W w (p :: L)) : St W w L := ⟨h.1, h.2.tail⟩
theorem St.cell (h : St W w L) (k b j : Nat) (cs : List Value) (hk : L[k]? = some (b, cs)) (v : Value) (hv : cs[j]? = some v) : w.cell? ⟨b, j, none⟩ = some v := by rw [(h.2.row hk).2.cell]; exact hv
theorem St.free (h : St W w L) (k b j : Nat) (cs : List Value) (hk : L[k]? = some (b, cs)) : w.frozen? ⟨b, j, none⟩ = false := (h.2.row hk).2.free j
theorem St.lt (h : St W w L) (k b : Nat) (cs : List Value) (hk : L[k]? = some (b, cs)) : b < w.heap.size := (h.2.row hk).2.lt
theorem St.ge (h : St W w L) (k b : Nat) (cs : List Value) (hk : L[k]? = some (b, cs)) : W.heap.size ≤ b := (h.2.row hk).1
end

section
variable {P : Program} {o : Oper} {a : Act} {W w : World} {K : Act → World → Prop} {Q : Exit → Act → World → Prop} {L : Blocks}
end

section
variable {P : Program} {o : Oper} {a : Act} {W w0 : World} {L : Blocks}
end
theorem Sl.of_row {w : World} {b n size : Nat} {cs : List Value} (h : Row w b cs) (hl : n * size ≤ cs.length) : Sl w (some ⟨b, 0, none⟩) n size (cs.take (n * size)) :=
  ⟨by simp; omega, fun _ => ⟨b, 0, rfl, h.lt, fun j u hu => by
    rw [List.getElem?_take] at hu
    split at hu
    · rw [Nat.zero_add, h.cell]; exact hu
    · cases hu⟩⟩
theorem St.sl {W w : World} {L : Blocks} (h : St W w L) (k b n size : Nat) (cs : List Value) (hk : L[k]? = some (b, cs)) (hl : cs.length = n * size) : Sl w (some ⟨b, 0, none⟩) n size cs := by
  have := Sl.of_row (h.2.row hk).2 (n := n) (size := size) (by omega)
  rwa [List.take_of_length_le (by omega)] at this
def entB (P : Program) (f : FuncId) : Bool := match P.funcs[f]? with | some fn => !(fn.name == "runtime.NumGoroutine") && fn.body.isSome | none => false
theorem run_enter {P : Program} {f : FuncId} (h : entB P f = true) (args : Array Value) (w : World) : (callFunc f args).run P w = .ok (.enter f args) w := by
  unfold entB at h
  split at h
  · rename_i fn hf
    simp only [Bool.and_eq_true, Bool.not_eq_true'] at h
    have h2 : fn.body.isNone = false := by simpa using h.2
    show ((Sem.program Sem.pure).bind _).run P w = _
    simp only [Sem.bind, Sem.run, hf]
    simp only [h.1, h2, Bool.false_eq_true, if_false]
    rfl
  · cases h
section
variable {P : Program} {d : Option Tmp} {ty : TypeId} {pos : String} {af : Array Edge} {g : Option (Nat × Bool)} {a : Act} {w : World} {K : Act → World → Prop} {Q : Exit → Act → World → Prop}
end
end Go.Proofs.Ytmoflcoijmmpjaa
/-
  Slices of the call's own, as rows among its own blocks: append, make, reads and writes of elements.
-/
namespace Go.Proofs.Ytmoflcoijmmpjaa
set_option linter.unusedSimpArgs false
set_option linter.unusedVariables false
set_option linter.unusedSectionVars false
open Go

def OwnV (size : Nat) (xs : List Value) (v : Value) (R : Blocks) : Prop :=
  (xs = [] ∧ v = .slice none 0 0 ∧ R = []) ∨
  ∃ b n cap sl, v = .slice (some ⟨b, 0, none⟩) n cap ∧ R = [(b, xs ++ sl)] ∧ xs.length = n * size ∧ (xs ++ sl).length = cap * size ∧ n ≤ cap ∧ cap ≤ maxLen

theorem OwnV.nil (size : Nat) : OwnV size [] (.slice none 0 0) [] := .inl ⟨rfl, rfl, rfl⟩
theorem OwnV.mk {size : Nat} {xs : List Value} (b n cap : Nat) (sl : List Value) (h1 : xs.length = n * size) (h2 : (xs ++ sl).length = cap * size) (h3 : n ≤ cap) (h4 : cap ≤ maxLen) : OwnV size xs (.slice (some ⟨b, 0, none⟩) n cap) [(b, xs ++ sl)] :=
  .inr ⟨b, n, cap, sl, rfl, rfl, h1, h2, h3, h4⟩
theorem OwnV.sl {size : Nat} {xs : List Value} {W w : World} {A : Option Addr} {n cap : Nat} {R L : Blocks} (h : OwnV size xs (.slice A n cap) R) (hS : St W w (R ++ L)) (hs : 0 < size) : Sl w A n size xs ∧ n ≤ cap ∧ cap ≤ maxLen := by
  rcases h with ⟨rfl, e, rfl⟩ | ⟨b, n', cap', sl, e, rfl, h1, h2, h3, h4⟩
  · simp only [Value.slice.injEq] at e
    obtain ⟨rfl, rfl, rfl⟩ := e
    exact ⟨Sl.nil w size, by omega, by omega⟩
  · simp only [Value.slice.injEq] at e
    obtain ⟨rfl, rfl, rfl⟩ := e
    have hr := (hS.2.row (k := 0) (b := b) (cs := xs ++ sl) (by simp)).2
    refine ⟨?_, h3, h4⟩
    have := Sl.of_row hr (n := n) (size := size) (by rw [h2]; exact Nat.mul_le_mul_right _ h3)
    rwa [← h1, List.take_left] at this

section
variable {W w w' : World} {L : Blocks}
theorem St.sub {L' : Blocks} (h : St W w L) (hs : L'.Sublist L) : St W w L' :=
  ⟨h.1, fun p hp => h.2.1 p (hs.subset hp), (hs.map _).nodup h.2.2⟩
theorem splice_mid : ∀ (ys xs zs : List Value), ys.length ≤ zs.length → splice (xs ++ zs) xs.length ys = xs ++ ys ++ zs.drop ys.length
  | [], xs, zs, _ => by simp [splice]
  | y :: ys, xs, zs, h => by
      cases zs with
      | nil => simp at h
      | cons z zs =>
        have ih := splice_mid ys (xs ++ [y]) zs (by simpa using h)
        simp only [splice, List.length_append, List.length_singleton, List.append_assoc, List.singleton_append] at ih ⊢
        rw [List.set_append_right _ _ (Nat.le_refl _), Nat.sub_self, List.set_cons_zero]
        simpa using ih
end

section
variable {P : Program} {w : World}
end

section
variable {P : Program} {o : Oper} {a : Act} {W w : World} {K : Act → World → Prop} {Q : Exit → Act → World → Prop} {R L : Blocks}
end

section
variable {P : Program} {o : Oper} {a : Act} {W w : World} {K : Act → World → Prop} {Q : Exit → Act → World → Prop} {R LL : Blocks}
end
section
variable {P : Program} {d : Option Tmp} {ty : TypeId} {pos : String} {af : Array Edge} {g : Option (Nat × Bool)} {a : Act} {w : World} {K : Act → World → Prop} {Q : Exit → Act → World → Prop}
end
end Go.Proofs.Ytmoflcoijmmpjaa
/-
  Loops over iterators: the body of a round is walked by the same laws as any other code.
-/
namespace Go.Proofs.Ytmoflcoijmmpjaa
set_option linter.unusedSimpArgs false
set_option linter.unusedVariables false
set_option linter.unusedSectionVars false
open Go Go.RowKit

def Wide (F : Fence) : Prop := F.fn = (fun _ => True) ∧ F.depth = none ∧ F.alive = false
theorem wide_wide : Wide Fence.wide := ⟨rfl, rfl, rfl⟩
theorem Wide.fenced {F : Fence} (h : Wide F) (P : Program) : Machine.fenced P F = Machine.fenced P Fence.wide := by
  obtain ⟨h1, h2, h3⟩ := h
  funext m
  simp [Machine.fenced, Fence.room, h1, h2, h3, Fence.wide]
theorem Wide.calls {F : Fence} (h : Wide F) {n : Nat} {P : Program} {f : FuncId} {args : Array Value} {w : World} {R : Ending → World → Prop} (hc : Calls P f args w R) : CallsIn F n P f args w R := by
  have := (callsIn_wide (n := n)).2 hc
  refine ⟨by rw [h.1]; trivial, fun cs _ => ?_⟩
  rw [h.fenced P]
  exact this.2 cs (room_wide _)
theorem Wide.rows {F : Fence} (h : Wide F) {n : Nat} {P : Program} {row : String} {args : Array Value} {w : World} {R : Value → World → Prop} (hc : Rows P row args w R) : RowsIn F n P row args w R := by
  intro c cs _
  obtain ⟨v, w', h1, h2⟩ := hc c cs
  rw [h.fenced P]
  exact ⟨v, w', h1, stepsIn_wide.2 h2⟩
def notDefer (o : Oper) : Bool := match o.op with | .defer _ => false | _ => true
theorem semAt_same {o : Oper} (h : notDefer o = true) (ro : Option Nat) (ρ : Operand → Value) : o.semAt ro ρ = execOp ρ o := by
  refine Oper.semAt_eq ro ρ o fun c hc => ?_
  unfold notDefer at h
  rw [hc] at h
  cases h
theorem opIn {F : Fence} (hF : Wide F) {n : Nat} {P : Program} {o : Oper} {a : Act} {w : World} {K : Act → World → Prop} {Q : Exit → Act → World → Prop} (hd : notDefer o = true) (h : o.wp P a w K Q) : o.wpIn F n P a w K Q := by
  refine ⟨fun f _ => by rw [hF.1]; trivial, ?_⟩
  rw [semAt_same hd]
  unfold Oper.wp at h
  generalize (execOp a.eval o).run P w = r at *
  have hdep : F.depth.isSome = true → 1 ≤ n := fun h' => by rw [hF.2.1] at h'; cases h'
  cases r with
  | ok x w' =>
    cases x <;> simp only [Oper.upon] at h <;> simp only [Oper.uponIn] <;> first | exact h | exact ⟨hdep, hF.calls h⟩ | exact ⟨hdep, hF.rows h⟩
  | halt x w' =>
    cases x <;> simp only [Oper.upon] at h <;> simp only [Oper.uponIn] <;> exact h

section
variable {W w w' : World} {L : Blocks}
theorem Row.grown {b : Nat} {cs : List Value} (h : Row w b cs) {row : Option Nat} (hg : w.grownBy w' row) (hr : ∀ r, row = some r → ∃ o : Obj, w.heap[r]? = some o ∧ o.isCells = false) : Row w' b cs := by
  have hl := h.lt
  obtain ⟨t, h⟩ := h
  refine ⟨t, (hg.block b hl fun e => ?_).trans h⟩
  obtain ⟨o, ho, hc⟩ := hr b e.symm
  rw [h] at ho
  cases ho
  cases hc
theorem Ext.grown (h : Ext W w) {row : Option Nat} (hg : w.grownBy w' row) (hr : ∀ r, row = some r → W.heap.size ≤ r) : Ext W w' := Below.grown h hg (Ext.size h) hr
theorem St.grown (h : St W w L) {B : Nat} (hB : W.heap.size ≤ B) {row : Option Nat} (hg : w.grownBy w' row) (hr : ∀ r, row = some r → B ≤ r ∧ ∃ o : Obj, w.heap[r]? = some o ∧ o.isCells = false) : St W w' L :=
  ⟨h.1.grown hg fun r e => Nat.le_trans hB (hr r e).1, fun p hp => ⟨(h.2.1 p hp).1, (h.2.1 p hp).2.grown hg fun r e => (hr r e).2⟩, h.2.2⟩
end

end Go.Proofs.Ytmoflcoijmmpjaa
/-
  make of a slice of one-cell elements; copy into an own row.
-/
namespace Go.Proofs.Ytmoflcoijmmpjaa
set_option linter.unusedSimpArgs false
set_option linter.unusedVariables false
set_option linter.unusedSectionVars false
open Go Go.RowKit

@[irreducible] def Stop (p : Prop) : Prop := p
theorem Stop.out {p : Prop} (h : Stop p) : p := by unfold Stop at h; exact h
theorem Stop.mk {p : Prop} (h : p) : Stop p := by unfold Stop; exact h

theorem madeCells_one (z : Value) (n : Nat) : (madeCells #[z] n).toList = List.replicate n z := by
  apply List.ext_getElem
  · simp [madeCells]
  · intro i h1 h2
    simp only [madeCells, Array.getElem_toList, Array.getElem_map, Array.getElem_range, List.getElem_replicate, List.size_toArray, List.length_cons, List.length_nil, Nat.zero_add, Nat.mod_one]
    rfl
section
variable {P : Program} {o : Oper} {a : Act} {W w : World} {K : Act → World → Prop} {Q : Exit → Act → World → Prop} {L : Blocks}
end
section
variable {P : Program} {d : Option Tmp} {ty : TypeId} {pos : String} {af : Array Edge} {g : Option (Nat × Bool)} {a : Act} {w : World} {K : Act → World → Prop} {Q : Exit → Act → World → Prop}
end
end Go.Proofs.Ytmoflcoijmmpjaa
