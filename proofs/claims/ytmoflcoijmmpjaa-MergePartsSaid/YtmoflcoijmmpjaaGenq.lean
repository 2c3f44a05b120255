/-
  A law's frame: a call that returns true and leaves all older memory as it was gives the given statement's post-condition. Conditions: the parameters' types can be read again (a closed check), one bool result, no listed variables.
-/
import Derived.WalkKit
import Derived.ProofKit
import Derived.OpenShut
import Derived.Lib.SmallJoins
import Derived.JoinedCond
import Derived.Carry
import Derived.Deep.QuietTactic
import Derived.BigQuiet
import Derived.Deep.Draws
import Derived.Maps.AppendAt
import Derived.Deep.AppendLies
import Derived.OwnWalk
import Derived.ChangeArms
import Derived.ChangeShapes
import Derived.Deep.Slices
import Derived.Deep.MidRow
import Derived.Laws.Rows
import Derived.RangeFuncOwn
import Derived.StillTail
import Derived.Lib.Hide
import Derived.RangeFuncNested
import Derived.RangeFuncLeaves
import Derived.RangeFuncBound
import Derived.TacticsIn
import Derived.LoopIn
import Derived.WalkMore
import Derived.Laws.MakeOwn
import Derived.Laws.IdiomCopy
namespace Go.Proofs.Ytmoflcoijmmpjaa
set_option linter.unusedSimpArgs false
set_option linter.unusedVariables false
set_option linter.unusedSectionVars false
open Go.ChangeShapes Go.WideShapes Go.ChangeAt Go.RowKit

section
variable {H : Type} {enc : TypeId × Value → H} {P : Program}

theorem trodAll_stays (hl : laidOutB P = true) {W W' : World} (hb : Below W.heap.size W W') {sp : Nat → Bool} :
    ∀ (ts : List TypeId) (vs : List Value) (ds : List (DataW H)) (ps : List MemPlace),
    (∀ t ∈ ts, P.readableRec t = true ∧ t < P.types.size) →
    DataW.TrodAll enc P W 0 (fun _ => true) true ts vs ds ps → (∀ x ∈ ps, x.block < W.heap.size) → (∀ p ∈ ps, sp p.block = true) →
    DataW.TrodAll enc P W' 0 sp true ts vs ds ps
  | [], [], [], _, _, h, _, _ => h
  | [], _ :: _, _, _, _, h, _, _ => by simp [DataW.TrodAll] at h
  | [], [], _ :: _, _, _, h, _, _ => by simp [DataW.TrodAll] at h
  | _ :: _, [], _, _, _, h, _, _ => by simp [DataW.TrodAll] at h
  | _ :: _, _ :: _, [], _, _, h, _, _ => by simp [DataW.TrodAll] at h
  | t :: ts, v :: vs, d :: ds, ps, hr, h, hlt, hs => by
      obtain ⟨p, q, h1, h2, e⟩ := h
      subst e
      exact ⟨p, q, WideElems.Trod_stays hl (hr t (by simp)).1 (hr t (by simp)).2 h1 (fun x hx => hb.same (hlt x (by simp [hx]))) (fun x hx => hs x (by simp [hx])),
        trodAll_stays hl hb ts vs ds q (fun t' ht' => hr t' (by simp [ht'])) h2 (fun x hx => hlt x (by simp [hx])) (fun x hx => hs x (by simp [hx])), rfl⟩

theorem trodAll_len {W : World} {b : Nat} {sp : Nat → Bool} {hd : Bool} : ∀ {ts : List TypeId} {vs : List Value} {ds : List (DataW H)} {ps : List MemPlace}, DataW.TrodAll enc P W b sp hd ts vs ds ps → ds.length = ts.length
  | [], [], [], _, _ => rfl
  | [], _ :: _, _, _, h => by simp [DataW.TrodAll] at h
  | [], [], _ :: _, _, h => by simp [DataW.TrodAll] at h
  | _ :: _, [], _, _, h => by simp [DataW.TrodAll] at h
  | _ :: _, _ :: _, [], _, h => by simp [DataW.TrodAll] at h
  | t :: ts, v :: vs, d :: ds, ps, h => by
      obtain ⟨p, q, h1, h2, e⟩ := h
      simp [trodAll_len h2]

def paramsFine (P : Program) (f : Func) : Bool := laidOutB P && f.params.toList.all (fun t => P.readableRec t && decide (t < P.types.size))

theorem law_post {f : Func} {s : ChangeSpec} {tb : TypeId} {apart fresh handsOn again : Bool} {W W' : World} {args : Array Value} {ds gs : List (DataW H)} {before : List MemPlace}
    (hfine : paramsFine P f = true) (hres : f.resultTypes = #[tb]) (htb : P.underlying tb = some .bool) (hvars : s.vars = [])
    (hspec : s.fn H (ds ++ []) = { results := [.lit (.bool true)], args := ds })
    (hW : DataW.Whole enc P f.params.toList s.vars apart W args.toList ds gs before)
    (hb : Below W.heap.size W W') : s.post enc P f apart fresh handsOn again W args (.bool true) W' := by
  have hW' := hW
  have hlt : ∀ p ∈ before, p.block < W.heap.size := fun p hp => hW.lt p hp
  obtain ⟨p, q, hA, hV, hpq, hz, hn⟩ := hW
  rw [hvars] at hV
  obtain ⟨rfl, rfl⟩ := trodVars_none hV
  obtain rfl : before = p := by simpa using hpq
  simp only [paramsFine, Bool.and_eq_true, List.all_eq_true, decide_eq_true_eq] at hfine
  have hargs : ∀ sp : Nat → Bool, (∀ x ∈ before, sp x.block = true) → DataW.TrodAll enc P W' 0 sp true f.params.toList args.toList ds before :=
    fun sp hsp => trodAll_stays hfine.1 hb _ _ _ _ hfine.2 hA hlt hsp
  have hresT : ∀ (b : Nat) (sp : Nat → Bool) (hd : Bool), DataW.TrodAll enc P W' b sp hd f.resultTypes.toList ((Value.bool true).resultList f.resultTypes.size) [.lit (.bool true)] [] := by
    intro b sp hd
    rw [hres]
    exact trodAll_cons_mk (shut_bool htb _) trodAll_mk0
  have hold : ∀ x ∈ before, (fun b => decide (b < W.heap.size)) x.block = true := fun x hx => by simpa using hlt x hx
  have hvT : ∀ sp : Nat → Bool, DataW.TrodVars enc P W' sp s.vars (s.fn H (ds ++ [])).vars [] := fun sp => by rw [hvars, hspec]; rfl
  refine ⟨ds, [], before, [], before, [], hW', ?_, ?_, hvT _, World.keptBut_mono (fun x hx => ⟨hx, .inr (.inl hx)⟩) (hb.frame (· ∈ before)), fun _ => ?_⟩
  · rw [hspec]; exact hresT _ _ _
  · rw [hspec]; exact hargs _ hold
  · refine ⟨ok_one hres rfl (okWide_bool_mk htb _), [.lit (.bool true)] ++ ds, [], ([] ++ before) ++ [], ⟨[] ++ before, [], trodAll_append (hargs _ (fun _ _ => rfl)) (hresT _ _ _), (by rw [hvars]; rfl), rfl, ?_, ?_⟩, ?_⟩
    · intro b off hp
      have hin : MemPlace.cell b off ∈ before := by simpa using hp
      rw [hb.frozen (hlt _ hin)]
      exact hz b off hin
    · intro ha
      simpa using hn ha
    · intro x hx _
      simpa using hx
end
end Go.Proofs.Ytmoflcoijmmpjaa
/-
  Worlds that extend an older one: all older memory is as it was. Lemmas on allocation, draws, stores into new blocks, and on regions that draw their order while the calls in them make new memory only.
-/
namespace Go.Proofs.Ytmoflcoijmmpjaa
set_option linter.unusedSimpArgs false
set_option linter.unusedVariables false
set_option linter.unusedSectionVars false
open Go.RowKit

/-- w is a later world of a: below a's heap everything is as it was. -/
def Ext (a w : World) : Prop := Below a.heap.size a w

section
variable {a b c w : World}
theorem Ext.refl (w : World) : Ext w w := Below.refl _ _
theorem Ext.trans (h : Ext a b) (k : Ext b c) : Ext a c := Below.trans h (Below.mono k (Below.size h))
theorem Ext.alloc (h : Ext a w) (o : Obj) : Ext a (w.alloc o) := Below.alloc h (Below.size h) o
theorem Ext.setCell (h : Ext a w) {p : Addr} (hp : a.heap.size ≤ p.block) (u : Value) : Ext a (w.setCell p u) := Below.setCell h hp u
theorem Ext.drew (h : Ext a w) : Ext a w.drew := Below.drew h
theorem Ext.drewN (h : Ext a w) (n : Nat) : Ext a (w.drewN n) := ⟨h.os, h.tape, h.output, h.size, h.block⟩
theorem Ext.lt (h : Ext a w) {k : Nat} (hk : k < a.heap.size) : k < w.heap.size := Nat.lt_of_lt_of_le hk (Below.size h)
theorem Ext.size (h : Ext a w) : a.heap.size ≤ w.heap.size := Below.size h
theorem Ext.cell (h : Ext a w) (k o : Nat) (hk : k < a.heap.size) : w.cell? ⟨k, o, none⟩ = a.cell? ⟨k, o, none⟩ := Below.cell (p := ⟨k, o, none⟩) h hk
theorem Ext.frozen (h : Ext a w) (k o : Nat) (hk : k < a.heap.size) : w.frozen? ⟨k, o, none⟩ = a.frozen? ⟨k, o, none⟩ := Below.frozen (p := ⟨k, o, none⟩) h hk
theorem Ext.facts (h : Ext a w) : (∀ k o, k < a.heap.size → w.cell? ⟨k, o, none⟩ = a.cell? ⟨k, o, none⟩) ∧ (∀ k o, k < a.heap.size → w.frozen? ⟨k, o, none⟩ = a.frozen? ⟨k, o, none⟩) ∧ a.heap.size ≤ w.heap.size :=
  ⟨h.cell, h.frozen, h.size⟩
/-- The same, the older heap's size given as the walk spells it. -/
theorem Ext.facts' (h : Ext a w) {n : Nat} (hn : a.heap.size = n) : (∀ k o, k < n → w.cell? ⟨k, o, none⟩ = a.cell? ⟨k, o, none⟩) ∧ (∀ k o, k < n → w.frozen? ⟨k, o, none⟩ = a.frozen? ⟨k, o, none⟩) ∧ n ≤ w.heap.size := by
  subst hn; exact h.facts
end

/-- Whether a cell is there does not hang on what is stored. -/
theorem isSome_setCell (w : World) (a b : Addr) (v : Value) : ((w.setCell a v).cell? b).isSome = (w.cell? b).isSome := by
  simp only [World.setCell, World.cell?, Array.getElem?_modify]
  by_cases hb : a.block = b.block
  · simp only [hb, if_true]
    cases hh : w.heap[b.block]? with
    | none => simp
    | some x =>
      cases x <;> simp
      rename_i c _ _
      cases hsb : b.spot <;> cases hsa : a.spot <;> simp [Array.getElem?_setIfInBounds]
      split
      · rename_i ho
        rw [ho]
        rcases Nat.lt_or_ge b.off c.size with h | h
        · simp [h]
        · simp [Array.getElem?_eq_none h, Nat.not_lt.2 h]
      · rfl
  · simp [hb]
/-- Two stores to one cell: the later one counts. -/
theorem setCell_setCell (w : World) (a : Addr) (u v : Value) : (w.setCell a u).setCell a v = w.setCell a v := by
  simp only [World.setCell]
  congr 1
  apply Array.ext
  · simp
  · intro i h1 h2
    simp only [Array.getElem_modify]
    split
    · cases hx : w.heap[i]'(by simpa using h2) <;> simp [hx]
      cases a.spot <;> simp
    · rfl

section
variable {P : Program} {ops : Array Oper} {C : World → Prop} {Q : Act → Prop} {a : Act} {o : Oper} {rest : List Oper}
theorem q_want (v : Value) (hw : Region.wanted o (yielded ops a.tmps) = true) (hy : ∀ w, C w → o.quietAt P a C w v) (h : wpQuiet P ops C Q rest (a.put o.dst v)) : wpQuiet P ops C Q (o :: rest) a :=
  wpQuiet_step fun K hK => by rw [if_pos hw]; exact ⟨v, hy, hK _ h⟩
theorem q_skip (hw : Region.wanted o (yielded ops a.tmps) = false) (h : wpQuiet P ops C Q rest (a.put o.dst undef)) : wpQuiet P ops C Q (o :: rest) a :=
  wpQuiet_step fun K hK => by rw [if_neg (by rw [hw]; exact Bool.false_ne_true)]; exact hK _ h
theorem q_calls {f : FuncId} {args : Array Value} {v : Value} {W w : World} (hC : Ext W w) (h : Calls P f args w fun e w' => e = .returned v ∧ Ext w w') :
    Calls P f args w fun e w' => e = .returned v ∧ Ext W w' :=
  h.mono fun _ _ ⟨he, hx⟩ => ⟨he, hC.trans hx⟩
theorem q_region {id : Nat} {Q : Exit → Act → World → Prop} {a : Act} {w : World} {l : List Oper} (hm : P.follows .mixedOrders = true) (hB : Region.lexB .any l.toArray = true)
    (h : ∀ w0, (∀ k o, k < w.heap.size → w0.cell? ⟨k, o, none⟩ = w.cell? ⟨k, o, none⟩) → (∀ k o, k < w.heap.size → w0.frozen? ⟨k, o, none⟩ = w.frozen? ⟨k, o, none⟩) → w.heap.size ≤ w0.heap.size → Ext w w0 →
      (∀ wq, Ext w0 wq → ∀ k o, k < w0.heap.size → wq.cell? ⟨k, o, none⟩ = w0.cell? ⟨k, o, none⟩) → (∀ wq, Ext w0 wq → ∀ k o, k < w0.heap.size → wq.frozen? ⟨k, o, none⟩ = w0.frozen? ⟨k, o, none⟩) →
      wpQuiet P l.toArray (Ext w0) (fun a' => ∀ w', Ext w0 w' → Q .normal a' w') l a) : (Code.region id l.toArray true).wp P Q a w := by
  have h1 := h w (fun _ _ _ => rfl) (fun _ _ _ => rfl) (Nat.le_refl _) (Ext.refl w) (fun _ hq k o hk => hq.cell k o hk) (fun _ hq k o hk => hq.frozen k o hk)
  exact wp_region_quiet (C := Ext w) hm hB (Ext.drew (Ext.refl w)) (by simpa using h1)
end
end Go.Proofs.Ytmoflcoijmmpjaa
/-
  Slices that come in, read as lists: nil, empty and other slices alike; kept in every later world. Opening of an argument that is a slice of integers.
-/
namespace Go.Proofs.Ytmoflcoijmmpjaa
set_option linter.unusedSimpArgs false
set_option linter.unusedVariables false
set_option linter.unusedSectionVars false
open Go.ChangeShapes Go.WideShapes Go.ChangeAt Go.RowKit

/-- The slice value '.slice A n c' has n elements of 'size' cells each; its cells are xs. -/
def Sl (w : World) (A : Option Addr) (n size : Nat) (xs : List Value) : Prop :=
  xs.length = n * size ∧ (0 < n → ∃ b off, A = some ⟨b, off, none⟩ ∧ b < w.heap.size ∧ ∀ j u, xs[j]? = some u → w.cell? ⟨b, off + j, none⟩ = some u)

section
variable {w w' : World} {A : Option Addr} {n size : Nat} {xs : List Value}
theorem Sl.ext (h : Sl w A n size xs) (hx : Ext w w') : Sl w' A n size xs :=
  ⟨h.1, fun hn => by
    obtain ⟨b, off, e, hb, hc⟩ := h.2 hn
    exact ⟨b, off, e, hx.lt hb, fun j u hu => (hx.cell b _ hb).trans (hc j u hu)⟩⟩
theorem Sl.nil (w : World) (size : Nat) : Sl w none 0 size [] := ⟨by simp, fun h => absurd h (by omega)⟩
/-- Element k of a slice of one-cell elements. -/
theorem Sl.at1 {k : Nat} (h : Sl w A n 1 xs) (hk : k < n) : ∃ b off, A = some ⟨b, off, none⟩ ∧ b < w.heap.size ∧ w.cell? ⟨b, off + k, none⟩ = some (xs.getD k undef) := by
  obtain ⟨b, off, e, hb, hc⟩ := h.2 (by omega)
  have hl : k < xs.length := by have := h.1; omega
  exact ⟨b, off, e, hb, by rw [hc k _ (List.getElem?_eq_getElem hl)]; simp [hl]⟩
end

/-- A slice over a block that was just made. -/
theorem Sl.new (w : World) (cs : Array Value) (t : TypeId) (n size : Nat) (h : cs.size = n * size) : Sl (w.alloc (.cells cs t)) (some ⟨w.heap.size, 0, none⟩) n size cs.toList := by
  refine ⟨by simpa using h, fun _ => ⟨w.heap.size, 0, rfl, by simp, fun j u hu => ?_⟩⟩
  rw [World.cell?_alloc_at _ _ _ _ (by simp)]
  simpa using hu
/-- Cell j of element k. -/
theorem Sl.atN {w : World} {A : Option Addr} {n size : Nat} {xs : List Value} {k : Nat} (h : Sl w A n size xs) (hk : k < n) : ∃ b off, A = some ⟨b, off, none⟩ ∧ b < w.heap.size ∧
    ∀ j, j < size → w.cell? ⟨b, off + k * size + j, none⟩ = some (xs.getD (k * size + j) undef) := by
  obtain ⟨b, off, e, hb, hc⟩ := h.2 (by omega)
  refine ⟨b, off, e, hb, fun j hj => ?_⟩
  have hl : k * size + j < xs.length := by
    rw [h.1]
    calc k * size + j < k * size + size := by omega
      _ = (k + 1) * size := by rw [Nat.add_mul, Nat.one_mul]
      _ ≤ n * size := Nat.mul_le_mul_right _ (by omega)
  rw [Nat.add_assoc, hc _ _ (List.getElem?_eq_getElem hl)]
  simp [hl]

/-- The integers of a list as cells. -/
def cellsOf (k : IntKind) (zs : List Int) : List Value := zs.map (Value.int k)

theorem cellsOf_getD {k : IntKind} {zs : List Int} {i : Nat} (h : i < zs.length) : (cellsOf k zs).getD i undef = .int k (zs.getD i 0) := by
  simp [cellsOf, h]

section
variable {H : Type} {enc : TypeId × Value → H} {P : Program} {w : World}
theorem sl_ints {t e : TypeId} {k : IntKind} {A : Option Addr} {n c : Nat} {d : DataW H} {ps : List MemPlace} (ht : P.underlying t = some (.slice e)) (he : P.underlying e = some (.int k)) (hc : P.cellsOf e = 1)
    (h : DataW.Trod enc P w 0 (fun _ => true) true t (.slice A n c) d ps) :
    n ≤ c ∧ c ≤ maxLen ∧ ∃ zs : List Int, zs.length = n ∧ (∀ z ∈ zs, (Lit.int k z).wf = true) ∧ Sl w A n 1 (cellsOf k zs) := by
  have hlt : ∀ x ∈ ps, x.block < w.heap.size := by obtain ⟨m, hm⟩ := h; exact DataW.trod_lt m _ _ _ hm
  obtain ⟨fuel, hf⟩ := h
  rcases open_ints ht he hc hf with ⟨hcs, hx⟩ | ⟨a, len, cap, zs, hcs, _, hl, hm, hz, hx, hcell, hwz⟩
  · simp [Value.cells] at hcs
    obtain ⟨rfl, rfl, rfl⟩ := hcs
    exact ⟨Nat.le_refl _, by simp, [], rfl, by simp, Sl.nil w 1⟩
  · simp [Value.cells] at hcs
    obtain ⟨rfl, rfl, rfl⟩ := hcs
    simp only [if_true] at hz
    refine ⟨hl, hm, zs.take n, by rw [List.length_take]; omega, fun z hz' => hwz z (List.mem_of_mem_take hz'), ?_, fun hn => ?_⟩
    · simp [cellsOf, List.length_take]; omega
    · obtain ⟨b, off, rfl, hc'⟩ := ints_at hcell (by omega)
      refine ⟨b, off, rfl, ?_, fun j u hu => ?_⟩
      · simp only [Prod.mk.injEq] at hx
        have hc0 := hc' 0 (by omega)
        exact World.block_lt_of_cell? w _ hc0
      · have hj : j < n := by
          have := (List.getElem?_eq_some_iff.1 hu).1
          simp [cellsOf, List.length_take] at this
          omega
        rw [hc' j (by omega)]
        simp [cellsOf, List.getElem?_map, List.getElem?_take, hj] at hu
        obtain ⟨z, hz1, hz2⟩ := hu
        rw [← hz2]
        simp [hz1]
end
end Go.Proofs.Ytmoflcoijmmpjaa
/-
  Slices that the call makes itself: 'append' of one element onto an owned row, in terms of later worlds.
-/
namespace Go.Proofs.Ytmoflcoijmmpjaa
set_option linter.unusedSimpArgs false
set_option linter.unusedVariables false
set_option linter.unusedSectionVars false
open Go.RowKit

theorem Ext.of_below {a w w' : World} {B : Nat} (h : Ext a w) (hb : Below B w w') (hB : a.heap.size ≤ B) : Ext a w' := Below.trans h (hb.mono hB)
theorem Ext.below {a w w' : World} {B : Nat} (h : Ext w w') (hB : B ≤ w.heap.size) : Below B w w' := Below.mono h hB

/-- The element type e of the slice type t: its size in cells and in bytes. -/
def EI (P : Program) (t e : TypeId) (size bytes : Nat) : Prop :=
  P.underlying t = some (.slice e) ∧ ∃ (i : TypeInfo) (z : Value), P.info? e = some i ∧ i.zero = some z ∧ i.size = size ∧ i.bytes = bytes ∧ z.cells.size = size ∧ 0 < size

theorem ei_of {P : Program} {t e : TypeId} {z : Value} {size bytes : Nat} (ht : P.underlying t = some (.slice e))
    (h : (P.info? e).map (fun i => (i.zero, i.size, i.bytes)) = some (some z, size, bytes)) (hz : z.cells.size = size) (hs : 0 < size) : EI P t e size bytes := by
  obtain ⟨i0, hi, hz0, hz1, hz2⟩ := info_parts h
  exact ⟨ht, i0, z, hi, hz0, hz1, hz2, hz, hs⟩

section
variable {P : Program} {w : World} {ops : Array Oper} {rest : List Oper} {o : Oper} {a : Act} {Q : Exit → Act → World → Prop}

theorem grown_below {w w' : World} {B : Nat} {row : Option Nat} (hg : w.grownBy w' row) (hB : B ≤ w.heap.size) (hr : ∀ k, row = some k → B ≤ k) : Below B w w' :=
  (Below.refl B w).grown hg hB hr

/-- 'append(s, x)' of one element: x was just laid into a block of its own. -/
theorem wpList_app1 (hgd : o.guard = none) (s x : Operand) (t e e' : TypeId) (size bytes : Nat)
    (ho : o.op = .call { callee := .builtin .append, args := #[s, x], argTypes := #[t, t] }) (he : EI P t e size bytes)
    (B : Nat) (v : Value) (n : Nat) (xs : List Value) (hs : a.eval s = v) (hown : w.ownsRow B e size v n xs) (cs : Array Value)
    (hx : a.eval x = .slice (some ⟨w.heap.size, 0, none⟩) 1 1) (hcs : cs.size = size) (h1 : ∀ u ∈ cs.toList, u.oneCell' = true)
    (h63 : n + 1 ≤ maxLen) (hbytes : (n + 1) * bytes ≤ 140737488355328) (hB : B ≤ w.heap.size)
    (h : ∀ v' w', w'.ownsRow B e size v' (n + 1) (xs ++ cs.toList) → Below B w w' → wpList P ops Q rest (a.put o.dst v') w') :
    wpList P ops Q (o :: rest) a (w.alloc (.cells cs e')) := by
  obtain ⟨ht, i, z, hi, hz, hsz, hby, hzs, hpos⟩ := he
  refine wpList_append_own_at _ hgd s x t ho B e i z size bytes ht hi hz hsz hby hzs hpos v n xs hs (hown.alloc _) ⟨w.heap.size, 0, none⟩ 1 1 cs.toList hx (by simpa using hcs)
    (World.news_of_block (cs := cs) (t := e') (fr := (0, 0)) (heap_alloc_new w _)) h1 h63 hbytes (by simp; omega) ?_
  intro v' w' hown' hg _ hat
  refine h v' w' hown' ?_
  have h0 : Below B w (w.alloc (.cells cs e')) := (Below.refl B w).alloc hB _
  exact h0.trans (grown_below hg (by simp; omega) (fun k hk => (hown.lt k hk).1))

/-- What an owned row looks like: a slice value that reads as its cells. -/
theorem own_form {B e size n : Nat} {v : Value} {xs : List Value} (h : w.ownsRow B e size v n xs) :
    ∃ A c, v = .slice A n c ∧ n ≤ c ∧ c ≤ maxLen ∧ Sl w A n size xs := by
  have h' := h
  obtain ⟨hl, ⟨rfl, rfl⟩ | ⟨g, cap, cur, rfl, hb, hh, hnc, hcm, hsz, htk⟩⟩ := h
  · exact ⟨none, 0, rfl, Nat.le_refl _, by simp [maxLen], hl, fun h => absurd h (by omega)⟩
  · refine ⟨_, cap, rfl, hnc, hcm, hl, fun hn => ⟨g, 0, rfl, ?_, fun j u hu => ?_⟩⟩
    · rcases Nat.lt_or_ge g w.heap.size with h | h
      · exact h
      · rw [Array.getElem?_eq_none h] at hh; cases hh
    · have := h'.cells (g := g) rfl j u hu
      have hadd : (⟨g, 0, none⟩ : Addr).add j = ⟨g, j, none⟩ := by unfold Addr.add; split <;> simp_all
      rw [hadd] at this
      simpa using this
end

/-- An owned row stays owned where only memory beyond it, or new memory, is written. -/
theorem own_ext {w w' : World} {B e size n : Nat} {v : Value} {xs : List Value} (h : w.ownsRow B e size v n xs) (hx : Ext w w') : w'.ownsRow B e size v n xs := by
  obtain ⟨hl, h | ⟨g, cap, cur, hv, hb, hh, r⟩⟩ := h
  · exact ⟨hl, .inl h⟩
  · refine ⟨hl, .inr ⟨g, cap, cur, hv, hb, ?_, r⟩⟩
    rw [Below.block hx g ?_]
    · exact hh
    · rcases Nat.lt_or_ge g w.heap.size with h | h
      · exact h
      · rw [Array.getElem?_eq_none h] at hh; cases hh
theorem own_base {w : World} {B B' e size n : Nat} {v : Value} {xs : List Value} (h : w.ownsRow B e size v n xs) (hB : B' ≤ B) : w.ownsRow B' e size v n xs := by
  obtain ⟨hl, h | ⟨g, cap, cur, hv, hb, r⟩⟩ := h
  · exact ⟨hl, .inl h⟩
  · exact ⟨hl, .inr ⟨g, cap, cur, hv, Nat.le_trans hB hb, r⟩⟩
end Go.Proofs.Ytmoflcoijmmpjaa
/-
  Arguments that are structs or arrays of integers, whatever their nesting: their cells are one flat list of integers, each fitting its kind.
-/
namespace Go.Proofs.Ytmoflcoijmmpjaa
set_option linter.unusedSimpArgs false
set_option linter.unusedVariables false
set_option linter.unusedSectionVars false
open Go.ChangeShapes Go.WideShapes Go.ChangeAt Go.RowKit

def cellsK : List IntKind → List Int → List Value
  | k :: ks, z :: zs => .int k z :: cellsK ks zs
  | _, _ => []
def AllWf : List IntKind → List Int → Prop
  | [], [] => True
  | k :: ks, z :: zs => (Lit.int k z).wf = true ∧ AllWf ks zs
  | _, _ => False
theorem AllWf.len : ∀ {ks : List IntKind} {zs : List Int}, AllWf ks zs → zs.length = ks.length
  | [], [], _ => rfl
  | _ :: _, _ :: _, h => by simp [AllWf.len h.2]
  | [], _ :: _, h => h.elim
  | _ :: _, [], h => h.elim
theorem AllWf.app : ∀ {ks ks' : List IntKind} {zs zs' : List Int}, AllWf ks zs → AllWf ks' zs' → AllWf (ks ++ ks') (zs ++ zs') ∧ cellsK (ks ++ ks') (zs ++ zs') = cellsK ks zs ++ cellsK ks' zs'
  | [], _, [], _, _, h' => ⟨h', rfl⟩
  | _ :: _, _, _ :: _, _, h, h' => by
      obtain ⟨h1, h2⟩ := AllWf.app h.2 h'
      exact ⟨⟨h.1, h1⟩, by simp [cellsK, h2]⟩
  | [], _, _ :: _, _, h, _ => h.elim
  | _ :: _, _, [], _, h, _ => h.elim
theorem cellsK_len : ∀ {ks : List IntKind} {zs : List Int}, AllWf ks zs → (cellsK ks zs).length = ks.length
  | [], [], _ => rfl
  | _ :: _, _ :: _, h => by simp [cellsK, cellsK_len h.2]
  | [], _ :: _, h => h.elim
  | _ :: _, [], h => h.elim

def flatFields (P : Program) (rec : TypeId → Option (List IntKind)) : List Field → Nat → Option (List IntKind)
  | [], _ => some []
  | f :: fs, off =>
    match rec f.type with
    | some l => if f.offset = off ∧ P.cellsOf f.type = l.length then (flatFields P rec fs (off + l.length)).map (l ++ ·) else none
    | none => none
/-- The kinds of a type's cells, if all are integers. -/
def flatK (P : Program) : Nat → TypeId → Option (List IntKind)
  | 0, _ => none
  | n + 1, t =>
    match P.underlying t with
    | some (.int k) => some [k]
    | some (.struct fs) => (flatFields P (flatK P n) fs.toList 0).bind fun l => if P.cellsOf t = l.length then some l else none
    | some (.array m e) => (flatK P n e).bind fun l => if P.cellsOf e = l.length ∧ P.cellsOf t = m * l.length then some (List.replicate m l).flatten else none
    | _ => none

section
variable {H : Type} {enc : TypeId × Value → H} {P : Program} {w : World} {base : Nat} {spare : Nat → Bool} {held : Bool}

theorem flat_fields {n : Nat} (ih : ∀ t ks, flatK P n t = some ks → ∀ fuel cs x, DataW.trod enc P w base spare held fuel t cs = some x → ∃ zs, AllWf ks zs ∧ cs = cellsK ks zs) {m : Nat} {cs : List Value} :
    ∀ (fs : List Field) (off : Nat) (ls : List IntKind), flatFields P (flatK P n) fs off = some ls → off + ls.length ≤ cs.length →
      (∀ f ∈ fs, ∃ y, DataW.trod enc P w base spare held m f.type ((cs.drop f.offset).take (P.cellsOf f.type)) = some y) →
      ∃ zs, AllWf ls zs ∧ (cs.drop off).take ls.length = cellsK ls zs
  | [], off, ls, h, _, _ => by
      simp only [flatFields, Option.some.injEq] at h
      subst h
      exact ⟨[], trivial, by simp [cellsK]⟩
  | f :: fs, off, ls, h, hl, hf => by
      simp only [flatFields] at h
      split at h
      · rename_i l hrec
        split at h
        · rename_i hc
          obtain ⟨ho, hcl⟩ := hc
          simp only [Option.map_eq_some_iff] at h
          obtain ⟨l2, h2, rfl⟩ := h
          obtain ⟨y, hy⟩ := hf f (by simp)
          rw [ho, hcl] at hy
          obtain ⟨zs1, hz1, hc1⟩ := ih _ _ hrec _ _ _ hy
          rw [List.length_append] at hl
          obtain ⟨zs2, hz2, hc2⟩ := flat_fields ih fs (off + l.length) l2 h2 (by omega) (fun g hg => hf g (by simp [hg]))
          obtain ⟨ha, hb⟩ := AllWf.app hz1 hz2
          refine ⟨zs1 ++ zs2, ha, ?_⟩
          rw [hb, ← hc1, ← hc2, List.length_append, List.take_add, List.drop_drop]
        · cases h
      · cases h

theorem flat_ints : ∀ (n : Nat) (t : TypeId) (ks : List IntKind), flatK P n t = some ks → ∀ fuel cs x, DataW.trod enc P w base spare held fuel t cs = some x → ∃ zs, AllWf ks zs ∧ cs = cellsK ks zs
  | 0, _, _, h => by simp [flatK] at h
  | n + 1, t, ks, h => by
      intro fuel cs x hx
      simp only [flatK] at h
      split at h
      · rename_i k hk
        simp only [Option.some.injEq] at h
        subst h
        obtain ⟨z, rfl, _, hw⟩ := DataW.trod_int hk hx
        exact ⟨[z], ⟨hw, trivial⟩, rfl⟩
      · rename_i fs hs
        simp only [Option.bind_eq_some_iff] at h
        obtain ⟨l, hl, h⟩ := h
        split at h
        · rename_i hc
          simp only [Option.some.injEq] at h
          subst h
          obtain ⟨xs, m, _, _, hlen, hxl, hg⟩ := DataW.trod_struct hs hx
          have hlen' : cs.length = l.length := by rw [hlen, hc]
          obtain ⟨zs, hz, hcs⟩ := flat_fields (flat_ints n) (m := m) (cs := cs) fs.toList 0 l hl (by omega) (fun f hf => by
            obtain ⟨i, hi, e⟩ := List.getElem_of_mem hf
            have hi' : i < fs.size := by simpa using hi
            have h1 := hg i f (by rw [Array.getElem?_eq_getElem hi']; simpa using e)
            exact ⟨xs[i]'(by omega), by rw [h1, List.getElem?_eq_getElem]⟩)
          exact ⟨zs, hz, by rw [← hcs, List.drop_zero, List.take_of_length_le (by omega)]⟩
        · cases h
      · rename_i m e hs
        simp only [Option.bind_eq_some_iff] at h
        obtain ⟨l, hl, h⟩ := h
        split at h
        · rename_i hc
          obtain ⟨hc1, hc2⟩ := hc
          simp only [Option.some.injEq] at h
          subst h
          have key : ∃ m', cs.length = P.cellsOf t ∧ ∀ i, i < m → ∃ y, DataW.trod enc P w base spare held m' e ((cs.drop (i * P.cellsOf e)).take (P.cellsOf e)) = some y := by
            cases fuel with
            | zero => simp [DataW.trod] at hx
            | succ m' =>
              unfold DataW.trod at hx
              rw [hs] at hx
              simp only at hx
              split at hx
              · rename_i hcl
                simp only [Option.map_eq_some_iff] at hx
                obtain ⟨xs, hxs, _⟩ := hx
                refine ⟨m', hcl, fun i hi => ?_⟩
                have h1 := mapM_some_get hxs i i (by simp [hi])
                have h2 := mapM_some_length hxs
                simp at h2
                exact ⟨xs[i]'(by omega), by rw [h1, List.getElem?_eq_getElem]⟩
              · cases hx
          obtain ⟨m', hcl, hel⟩ := key
          rw [hc1] at hel
          rw [hc2] at hcl
          have main : ∀ j, j ≤ m → ∃ zs, AllWf (List.replicate j l).flatten zs ∧ cs.take (j * l.length) = cellsK (List.replicate j l).flatten zs := by
            intro j
            induction j with
            | zero => intro _; exact ⟨[], trivial, by simp [cellsK]⟩
            | succ j ihj =>
              intro hj
              obtain ⟨zs, hz, hcs⟩ := ihj (by omega)
              obtain ⟨y, hy⟩ := hel j (by omega)
              obtain ⟨zs2, hz2, hcs2⟩ := flat_ints n _ _ hl _ _ _ hy
              obtain ⟨ha, hb⟩ := AllWf.app hz hz2
              rw [List.replicate_succ', List.flatten_append]
              simp only [List.flatten_cons, List.flatten_nil, List.append_nil]
              refine ⟨zs ++ zs2, ha, ?_⟩
              rw [hb, ← hcs, ← hcs2, Nat.add_mul, Nat.one_mul, List.take_add]
          obtain ⟨zs, hz, hcs⟩ := main m (Nat.le_refl _)
          exact ⟨zs, hz, by rw [← hcs, List.take_of_length_le (by omega)]⟩
        · cases h
      · cases h

/-- A struct argument of integers alone. -/
theorem open_flat {t : TypeId} {fs : Array Field} {ks : List IntKind} {v : Value} {d : DataW H} {ps : List MemPlace} {r : Reach} {b0 : Nat} (hs : P.underlying t = some (.struct fs)) (hk : flatK P 8 t = some ks)
    (hv : Value.okWide P w r b0 t v) (h : DataW.Trod enc P w base spare held t v d ps) : ∃ zs, AllWf ks zs ∧ v = .agg (cellsK ks zs).toArray := by
  obtain ⟨cs, rfl, _⟩ := okWide_struct hs hv
  obtain ⟨fuel, hf⟩ := h
  obtain ⟨zs, hz, hcs⟩ := flat_ints _ _ _ hk _ _ _ hf
  refine ⟨zs, hz, ?_⟩
  simp only [Value.cells] at hcs
  rw [← hcs]
end
end Go.Proofs.Ytmoflcoijmmpjaa
/-
  The call's own blocks, held as a list of whole blocks: laws of the operations that make, read and write them, in terms of worlds that are letters.
-/
namespace Go.Proofs.Ytmoflcoijmmpjaa
set_option linter.unusedSimpArgs false
set_option linter.unusedVariables false
set_option linter.unusedSectionVars false
open Go.RowKit

/-- Block b holds just the cells cs, and all may be written. -/
def Row (w : World) (b : Nat) (cs : List Value) : Prop := ∃ t, w.heap[b]? = some (.cells cs.toArray t (0, 0))
theorem Row.lt {w : World} {b : Nat} {cs : List Value} (h : Row w b cs) : b < w.heap.size := by
  obtain ⟨t, h⟩ := h
  rcases Nat.lt_or_ge b w.heap.size with h' | h'
  · exact h'
  · rw [Array.getElem?_eq_none h'] at h; cases h
theorem Row.cell {w : World} {b : Nat} {cs : List Value} (h : Row w b cs) (j : Nat) : w.cell? ⟨b, j, none⟩ = cs[j]? := by
  obtain ⟨t, h⟩ := h
  rw [cell_of_row w b j _ t _ h]
  simp
theorem Row.free {w : World} {b : Nat} {cs : List Value} (h : Row w b cs) (j : Nat) : w.frozen? ⟨b, j, none⟩ = false := by
  obtain ⟨t, h⟩ := h
  exact frozen_of_row w b j _ t h
theorem Row.ext {w w' : World} {b : Nat} {cs : List Value} (h : Row w b cs) (hx : Ext w w') : Row w' b cs := by
  have hl := h.lt
  obtain ⟨t, h⟩ := h
  exact ⟨t, by rw [Below.block hx b hl]; exact h⟩
theorem Row.new (w : World) (cs : List Value) (t : TypeId) : Row (w.alloc (.cells cs.toArray t)) w.heap.size cs := ⟨t, heap_alloc_new w _⟩
theorem Row.set {w : World} {b : Nat} {cs : List Value} (h : Row w b cs) (j : Nat) (v : Value) : Row (w.setCell ⟨b, j, none⟩ v) b (cs.set j v) := by
  obtain ⟨t, h⟩ := h
  exact ⟨t, by rw [heap_setCell_same w b j _ t v h]; simp⟩
theorem Row.other {w : World} {b : Nat} {cs : List Value} (h : Row w b cs) {a : Addr} (hb : b ≠ a.block) (v : Value) : Row (w.setCell a v) b cs := by
  obtain ⟨t, h⟩ := h
  exact ⟨t, by rw [heap_setCell_other w a b v hb]; exact h⟩

/-- The blocks of the list, no two one and the same, none below B. -/
def Has (B : Nat) (w : World) (L : List (Nat × List Value)) : Prop := (∀ p ∈ L, B ≤ p.1 ∧ Row w p.1 p.2) ∧ (L.map (·.1)).Nodup

section
variable {B : Nat} {w w' : World} {L : List (Nat × List Value)}
theorem Has.nil (B : Nat) (w : World) : Has B w [] := ⟨by simp, by simp⟩
theorem Has.ext (h : Has B w L) (hx : Ext w w') : Has B w' L := ⟨fun p hp => ⟨(h.1 p hp).1, (h.1 p hp).2.ext hx⟩, h.2⟩
theorem Has.row (h : Has B w L) {k b : Nat} {cs : List Value} (hk : L[k]? = some (b, cs)) : B ≤ b ∧ Row w b cs := h.1 (b, cs) (List.mem_of_getElem? hk)
theorem Has.alloc (h : Has B w L) (hB : B ≤ w.heap.size) (cs : List Value) (t : TypeId) : Has B (w.alloc (.cells cs.toArray t)) ((w.heap.size, cs) :: L) := by
  refine ⟨fun p hp => ?_, ?_⟩
  · rcases List.mem_cons.1 hp with rfl | hp
    · exact ⟨hB, Row.new w cs t⟩
    · exact ⟨(h.1 p hp).1, (h.1 p hp).2.ext ((Ext.refl w).alloc _)⟩
  · rw [List.map_cons, List.nodup_cons]
    refine ⟨fun hm => ?_, h.2⟩
    obtain ⟨p, hp, e⟩ := List.mem_map.1 hm
    have := (h.1 p hp).2.lt
    omega
theorem nodup_ne {k i b : Nat} {cs cs' : List Value} (hn : (L.map (·.1)).Nodup) (hk : L[k]? = some (b, cs)) (hi : L[i]? = some (b, cs')) : i = k := by
  obtain ⟨h1, e1⟩ := List.getElem?_eq_some_iff.1 hk
  obtain ⟨h2, e2⟩ := List.getElem?_eq_some_iff.1 hi
  have := (List.pairwise_iff_getElem (R := (fun x y : Nat => x ≠ y)) (l := L.map (fun x : Nat × List Value => x.1))).1 hn
  rcases Nat.lt_trichotomy i k with h | h | h
  · exact (this i k (by simpa using h2) (by simpa using h1) h (by simp [e1, e2])).elim
  · exact h
  · exact (this k i (by simpa using h1) (by simpa using h2) h (by simp [e1, e2])).elim
theorem Has.set (h : Has B w L) {k b : Nat} {cs : List Value} (hk : L[k]? = some (b, cs)) (j : Nat) (v : Value) : Has B (w.setCell ⟨b, j, none⟩ v) (L.set k (b, cs.set j v)) := by
  have hkl : k < L.length := (List.getElem?_eq_some_iff.1 hk).1
  refine ⟨fun p hp => ?_, ?_⟩
  · obtain ⟨i, hi, e⟩ := List.getElem_of_mem hp
    rw [List.getElem_set] at e
    split at e
    · subst e; exact ⟨(h.row hk).1, (h.row hk).2.set j v⟩
    · rename_i hki
      have hi' : i < L.length := by simpa using hi
      have hm : L[i]'hi' ∈ L := List.getElem_mem _
      rw [← e]
      refine ⟨(h.1 _ hm).1, (h.1 _ hm).2.other (fun hb => hki ?_) v⟩
      have hL : L[i]? = some (b, (L[i]'hi').2) := by
        rw [List.getElem?_eq_getElem hi']
        congr 1
        exact Prod.ext hb rfl
      exact (nodup_ne h.2 hk hL).symm
  · have : (L.set k (b, cs.set j v)).map (·.1) = L.map (·.1) := by
      apply List.ext_getElem?
      intro i
      simp only [List.getElem?_map, List.getElem?_set]
      split
      · rename_i e; subst e; rw [hk]; simp [hkl]
      · rfl
    rw [this]; exact h.2
/-- Cells cs, those from j on replaced. -/
def splice (cs : List Value) (j : Nat) : List Value → List Value
  | [] => cs
  | v :: vs => splice (cs.set j v) (j + 1) vs
theorem splice_length : ∀ (vs cs : List Value) (j : Nat), (splice cs j vs).length = cs.length
  | [], _, _ => rfl
  | v :: vs, cs, j => by simp [splice, splice_length vs]
theorem set_set_at {L : List (Nat × List Value)} {k : Nat} {x y : Nat × List Value} : (L.set k x).set k y = L.set k y := by simp
theorem Has.setCells : ∀ (vs : List Value) {w : World} {L : List (Nat × List Value)} (h : Has B w L) {k b : Nat} {cs : List Value} (hk : L[k]? = some (b, cs)) (j : Nat), Has B (w.setCells b j vs) (L.set k (b, splice cs j vs))
  | [], w, L, h, k, b, cs, hk, j => by
      have hkl : k < L.length := (List.getElem?_eq_some_iff.1 hk).1
      have : L.set k (b, cs) = L := by
        apply List.ext_getElem?
        intro i
        rw [List.getElem?_set]
        split
        · rename_i e; subst e; exact hk.symm
        · rfl
      simpa [World.setCells, splice, this] using h
  | v :: vs, w, L, h, k, b, cs, hk, j => by
      have hkl : k < L.length := (List.getElem?_eq_some_iff.1 hk).1
      have h1 := h.set hk j v
      have h2 := Has.setCells vs h1 (k := k) (b := b) (cs := cs.set j v) (by simp [hkl]) (j + 1)
      rw [List.set_set] at h2
      exact h2
theorem ext_setCells {a : World} : ∀ (vs : List Value) {w : World} (h : Ext a w) {b : Nat} (hb : a.heap.size ≤ b) (j : Nat), Ext a (w.setCells b j vs)
  | [], _, h, _, _, _ => h
  | v :: vs, w, h, b, hb, j => ext_setCells vs (h.setCell (p := ⟨b, j, none⟩) hb v) hb (j + 1)
end

theorem keeps_ext {w w' : World} (h : Ext w w') : KeepsOthers w w' := ⟨h.size, fun k o hk _ => (Below.block h k (Array.getElem?_eq_some_iff.1 hk).1).trans hk⟩
/-- From w to w': what lay below W's heap is as it was, and so is whatever is no cells. -/
def Adv (W w w' : World) : Prop := KeepsOthers w w' ∧ Below W.heap.size w w'
theorem Adv.refl (W w : World) : Adv W w w := ⟨KeepsOthers.refl _, Below.refl _ _⟩
theorem Adv.trans {W a b c : World} (h : Adv W a b) (k : Adv W b c) : Adv W a c := ⟨h.1.trans k.1, h.2.trans k.2⟩
theorem Adv.of_ext {W w w' : World} (hW : Ext W w) (h : Ext w w') : Adv W w w' := ⟨keeps_ext h, h.mono hW.size⟩
theorem adv_set {W w : World} {b : Nat} (hb : W.heap.size ≤ b) (j : Nat) (v : Value) : Adv W w (w.setCell ⟨b, j, none⟩ v) := ⟨KeepsOthers.setCell w _ v, (Below.refl _ _).setCell (p := ⟨b, j, none⟩) hb v⟩
theorem adv_setCells {W : World} {b : Nat} (hb : W.heap.size ≤ b) : ∀ (vs : List Value) (w : World) (j : Nat), Adv W w (w.setCells b j vs)
  | [], w, _ => Adv.refl W w
  | v :: vs, w, j => (adv_set hb j v).trans (adv_setCells hb vs _ (j + 1))
/-- How many cells a type has; is it a struct or an array? -/
def szB (P : Program) (t : TypeId) (n : Nat) : Bool := (P.info? t).map (·.size) == some n
def aggB (P : Program) (t : TypeId) : Bool := match P.underlying t with | some d => d.isRow | none => false
def flatB (P : Program) (t : TypeId) : Bool := match P.underlying t with | some d => !d.isRow | none => false
theorem szB_of {P : Program} {t : TypeId} {n : Nat} (h : szB P t n = true) : (P.info? t).map (·.size) = some n := by simpa [szB] using h
theorem aggB_of {P : Program} {t : TypeId} (h : aggB P t = true) : ∃ d, P.underlying t = some d ∧ d.isRow = true := by
  unfold aggB at h
  split at h
  · exact ⟨_, by assumption, h⟩
  · cases h
theorem flatB_of {P : Program} {t : TypeId} (h : flatB P t = true) : ∃ d, P.underlying t = some d ∧ d.isRow = false := by
  unfold flatB at h
  split at h
  · exact ⟨_, by assumption, by simpa using h⟩
  · cases h

section
variable {P : Program} {w : World}
theorem isAgg_flat {t : TypeId} (h : flatB P t = true) (w : World) : (isAgg t).run P w = .ok false w := by
  obtain ⟨d, hu, hd⟩ := flatB_of h
  unfold isAgg
  rw [Sem.run_bind, run_underlying hu w]
  cases d <;> simp_all
theorem run_load1 {t : TypeId} (h : flatB P t = true) {b j : Nat} {v : Value} (hc : w.cell? ⟨b, j, none⟩ = some v) : (loadVar t ⟨b, j, none⟩).run P w = .ok v w := by
  unfold loadVar
  rw [Sem.run_bind, isAgg_flat h]
  simp [hc]
theorem oneCell_cells {v : Value} (h : v.oneCell' = true) : v.cells = #[v] := by cases v <;> first | rfl | simp [Value.oneCell'] at h
theorem run_store1 {t : TypeId} (h : szB P t 1 = true) {b j : Nat} {u v : Value} (h1 : v.oneCell' = true) (hc : w.cell? ⟨b, j, none⟩ = some u) (hf : w.frozen? ⟨b, j, none⟩ = false) :
    (storeVar t ⟨b, j, none⟩ v).run P w = .ok () (w.setCell ⟨b, j, none⟩ v) := by
  have hs := szB_of h
  cases hq : P.info? t with
  | none => simp [hq] at hs
  | some i =>
    have hs' : i.size = 1 := by simpa [hq] using hs
    have := run_storeCells_cells (P := P) b j [v] 0 w (fun k hk => by
      obtain rfl : k = 0 := by simpa using hk
      simp [hc]) (fun k hk => by
      obtain rfl : k = 0 := by simpa using hk
      simpa using hf) (by simpa using h1)
    simp only [Nat.add_zero] at this
    simp [storeVar, sizeOf, typeInfo, hq, oneCell_cells h1, hs', this, World.setCells]
end

section
variable {P : Program} {o : Oper} {a : Act} {w : World} {K : Act → World → Prop} {Q : Exit → Act → World → Prop} {B : Nat} {L : List (Nat × List Value)}

/-- A new variable. -/
theorem wp_alloc_h (hH : Has B w L) (hB : B ≤ w.heap.size) (t : TypeId) (ho : o.op = .alloc t) (z : Value) (hz : (P.info? t).bind (·.zero) = some z)
    (h : ∀ b w', Has B w' ((b, z.cells.toList) :: L) → Ext w w' → B ≤ w'.heap.size → K (a.put o.dst (.pointer (some ⟨b, 0, none⟩))) w') : o.wp P a w K Q := by
  have hrun : (execOp a.eval o).run P w = .ok (.value (.pointer (some ⟨w.heap.size, 0, none⟩))) (w.alloc (.cells z.cells t)) := by
    cases hq : P.info? t with
    | none => simp [hq] at hz
    | some i =>
      have hz' : i.zero = some z := by simpa [hq] using hz
      simp [execOp, ho, Instr.alloc, zeroValue, typeInfo, hq, hz', newVar, newRow]
  unfold Oper.wp
  rw [hrun]
  have h1 := hH.alloc hB z.cells.toList t
  simp only [Array.toArray_toList] at h1
  exact h _ _ h1 ((Ext.refl w).alloc _) (by simp; omega)
/-- A boxed value. -/
theorem wp_box_h (hH : Has B w L) (hB : B ≤ w.heap.size) (t : TypeId) (x : Operand) (ho : o.op = .box t x) (v : Value) (hv : a.eval x = v)
    (h : ∀ b w', Has B w' ((b, v.cells.toList) :: L) → Ext w w' → B ≤ w'.heap.size → K (a.put o.dst (.pointer (some ⟨b, 0, none⟩))) w') : o.wp P a w K Q := by
  have hrun : (execOp a.eval o).run P w = .ok (.value (.pointer (some ⟨w.heap.size, 0, none⟩))) (w.alloc (.cells v.cells t)) := by
    simp [execOp, ho, hv, Instr.box, newVar, newRow]
  unfold Oper.wp
  rw [hrun]
  have h1 := hH.alloc hB v.cells.toList t
  simp only [Array.toArray_toList] at h1
  exact h _ _ h1 ((Ext.refl w).alloc _) (by simp; omega)
/-- One cell is read. -/
theorem wp_load1_h (k : Nat) (hH : Has B w L) (t : TypeId) (x : Operand) (ho : o.op = .load t x) (hf : flatB P t = true) (b j : Nat) (hx : a.eval x = .pointer (some ⟨b, j, none⟩)) (cs : List Value) (hk : L[k]? = some (b, cs)) (v : Value) (hv : cs[j]? = some v)
    (h : K (a.put o.dst v) w) : o.wp P a w K Q := by
  have hc : w.cell? ⟨b, j, none⟩ = some v := by rw [(hH.row hk).2.cell]; exact hv
  unfold Oper.wp execOp
  simp only [ho, hx, Instr.loadAt, Instr.sureAddr, Sem.run_bind, Sem.run_pure, Result.andThen_ok, run_load1 hf hc]
  exact h
/-- The cells from j on, n of them. -/
theorem Row.range {b : Nat} {cs : List Value} (h : Row w b cs) (j n : Nat) : w.rangeAt b j ((cs.drop j).take n) := fun i v hv => by
  rw [h.cell]
  rw [List.getElem?_take] at hv
  split at hv
  · rw [List.getElem?_drop] at hv; exact hv
  · cases hv
theorem wp_loadN_h (k : Nat) (hH : Has B w L) (t : TypeId) (n : Nat) (x : Operand) (ho : o.op = .load t x) (hf : aggB P t = true) (hs : szB P t n = true) (b j : Nat) (hx : a.eval x = .pointer (some ⟨b, j, none⟩)) (cs : List Value) (hk : L[k]? = some (b, cs)) (vs : List Value) (hv : (cs.drop j).take n = vs) (hn : vs.length = n)
    (h : K (a.put o.dst (.agg vs.toArray)) w) : o.wp P a w K Q := by
  obtain ⟨d, hu, hd⟩ := aggB_of hf
  subst hv
  exact wp_load_mid t x ho b j hx _ d ((hH.row hk).2.range j n) hu hd (by rw [hn]; exact szB_of hs) h
/-- One cell is written. -/
theorem wp_store1_h (k : Nat) (hH : Has B w L) (hB : B ≤ w.heap.size) (t : TypeId) (x y : Operand) (ho : o.op = .store t x y) (hs : szB P t 1 = true) (b j : Nat) (hx : a.eval x = .pointer (some ⟨b, j, none⟩)) (v : Value) (hy : a.eval y = v) (h1 : v.oneCell' = true)
    (cs : List Value) (hk : L[k]? = some (b, cs)) (hj : j < cs.length) (h : ∀ w', Has B w' (L.set k (b, cs.set j v)) → (∀ a0, a0.heap.size ≤ B → Ext a0 w → Ext a0 w' ∧ Adv a0 w w') → B ≤ w'.heap.size → K (a.put o.dst undef) w') : o.wp P a w K Q := by
  obtain ⟨hb, hr⟩ := hH.row hk
  have hc : w.cell? ⟨b, j, none⟩ = some (cs[j]'hj) := by rw [hr.cell, List.getElem?_eq_getElem hj]
  unfold Oper.wp execOp
  simp only [ho, hx, hy, Instr.storeAt, Instr.sureAddr, Sem.run_bind, Sem.run_pure, Result.andThen_ok, run_store1 hs h1 hc (hr.free j)]
  exact h _ (hH.set hk j v) (fun a0 ha hx' => ⟨hx'.setCell (p := ⟨b, j, none⟩) (Nat.le_trans ha hb) v, adv_set (Nat.le_trans ha hb) j v⟩) (by simpa using hB)
/-- The cells from j on are written. -/
theorem wp_storeN_h (k : Nat) (hH : Has B w L) (hB : B ≤ w.heap.size) (t : TypeId) (n : Nat) (x y : Operand) (ho : o.op = .store t x y) (hs : szB P t n = true) (b j : Nat) (hx : a.eval x = .pointer (some ⟨b, j, none⟩)) (vs : List Value) (hy : a.eval y = .agg vs.toArray) (hn : vs.length = n) (h1 : vs.all (·.oneCell') = true)
    (cs : List Value) (hk : L[k]? = some (b, cs)) (hj : j + n ≤ cs.length) (h : ∀ w', Has B w' (L.set k (b, splice cs j vs)) → (∀ a0, a0.heap.size ≤ B → Ext a0 w → Ext a0 w' ∧ Adv a0 w w') → B ≤ w'.heap.size → K (a.put o.dst undef) w') : o.wp P a w K Q := by
  obtain ⟨hb, hr⟩ := hH.row hk
  subst hn
  refine wp_store_mid t x y ho b j vs.toArray hx hy (fun i hi => ⟨?_, hr.free _⟩) (by simpa using szB_of hs) (by simpa using h1) ?_
  · rw [hr.cell, List.getElem?_eq_getElem (by simp at hi; omega)]; rfl
  · refine h _ (by simpa using Has.setCells vs hH hk j) (fun a0 ha hx' => ⟨ext_setCells vs hx' (Nat.le_trans ha hb) j, adv_setCells (Nat.le_trans ha hb) vs w j⟩) ?_
    have : ∀ (vs : List Value) (w : World) (j : Nat), (w.setCells b j vs).heap.size = w.heap.size := by
      intro vs
      induction vs with
      | nil => intro w j; rfl
      | cons v vs ih => intro w j; rw [World.setCells, ih]; simp
    simpa [this] using hB
end

/-! ### Reads in a region that draws its order -/
section
variable {P : Program} {o : Oper} {a : Act} {w0 wq : World} {B : Nat} {L : List (Nat × List Value)}
theorem q_load1_h (k : Nat) (hH : Has B w0 L) (hq : Ext w0 wq) (t : TypeId) (x : Operand) (ho : o.op = .load t x) (hf : flatB P t = true) (b j : Nat) (hx : a.eval x = .pointer (some ⟨b, j, none⟩)) (cs : List Value) (hk : L[k]? = some (b, cs)) (v : Value) (hv : cs[j]? = some v) :
    o.quietAt P a (Ext w0) wq v := by
  have hc : wq.cell? ⟨b, j, none⟩ = some v := by rw [((hH.ext hq).row hk).2.cell]; exact hv
  unfold Oper.quietAt execOp
  simp only [ho, hx, Instr.loadAt, Instr.sureAddr, Sem.run_bind, Sem.run_pure, Result.andThen_ok, run_load1 hf hc]
  first | exact rfl | exact ⟨rfl, rfl⟩ | simp [Oper.quietUpon]
theorem q_loadN_h (k : Nat) (hH : Has B w0 L) (hq : Ext w0 wq) (t : TypeId) (n : Nat) (x : Operand) (ho : o.op = .load t x) (hf : aggB P t = true) (hs : szB P t n = true) (b j : Nat) (hx : a.eval x = .pointer (some ⟨b, j, none⟩)) (cs : List Value) (hk : L[k]? = some (b, cs)) (vs : List Value) (hv : (cs.drop j).take n = vs) (hn : vs.length = n) :
    o.quietAt P a (Ext w0) wq (.agg vs.toArray) := by
  obtain ⟨d, hu, hd⟩ := aggB_of hf
  subst hv
  have hrun := run_loadVar_mid (P := P) wq b j t _ d (((hH.ext hq).row hk).2.range j n) hu hd (by rw [hn]; exact szB_of hs)
  unfold Oper.quietAt execOp
  simp only [ho, hx, Instr.loadAt, Instr.sureAddr, Sem.run_bind, Sem.run_pure, Result.andThen_ok, hrun]
  first | exact rfl | exact ⟨rfl, rfl⟩ | simp [Oper.quietUpon]
end

/-! ### Results that lie in a block -/
theorem res1_h {P : Program} {fn : Func} {p : Tmp} {t : TypeId} (h : fn.results = #[.cell p t]) (hf : aggB P t = true) (tmps : Array Value) (w : World) {B : Nat} {L : List (Nat × List Value)} (hH : Has B w L) (k b : Nat) (cs : List Value) (hk : L[k]? = some (b, cs)) (hp : tmps.getD p undef = .pointer (some ⟨b, 0, none⟩)) (hs : szB P t cs.length = true) :
    (results fn tmps).run P w = .ok (.agg cs.toArray) w := by
  obtain ⟨d, hu, hd⟩ := aggB_of hf
  obtain ⟨t', hr⟩ := (hH.row hk).2
  exact results_cell_row h tmps _ b t' cs.toArray (0, 0) d hp hr hu (by cases d <;> simp_all) (by simpa using szB_of hs)
end Go.Proofs.Ytmoflcoijmmpjaa
/-
  A region that draws its order: operations that only read, operations and calls that make new memory, in any order; at most a forced tail behind them. One walk in the order of the text serves every order.
-/
namespace Go.Proofs.Ytmoflcoijmmpjaa
set_option linter.unusedSimpArgs false
set_option linter.unusedVariables false
set_option linter.unusedSectionVars false
open Go

abbrev Blocks := List (Nat × List Value)

theorem Has.perm {B : Nat} {w : World} {L L' : Blocks} (h : Has B w L) (hp : L.Perm L') : Has B w L' :=
  ⟨fun p hp' => h.1 p (hp.mem_iff.2 hp'), (hp.map _).nodup_iff.1 h.2⟩
theorem Has.append {B : Nat} {w w' : World} {L Ln : Blocks} (h : Has B w L) (hB : B ≤ w.heap.size) (hx : Ext w w') (hn : Has w.heap.size w' Ln) : Has B w' (Ln ++ L) := by
  have h' := h.ext hx
  refine ⟨fun p hp => ?_, ?_⟩
  · rcases List.mem_append.1 hp with hp | hp
    · exact ⟨Nat.le_trans hB (hn.1 p hp).1, (hn.1 p hp).2⟩
    · exact h'.1 p hp
  · rw [List.map_append, List.nodup_append]
    refine ⟨hn.2, h'.2, fun x hx1 y hy1 e => ?_⟩
    obtain ⟨p, hp, rfl⟩ := List.mem_map.1 hx1
    obtain ⟨q, hq, rfl⟩ := List.mem_map.1 hy1
    have := (hn.1 p hp).1
    have := (h.1 q hq).2.lt
    omega

section
variable {P : Program} {ops : Array Oper} {md : Region.Mode} {w0 : World} {Φ : Nat → Option (Value → Blocks → Prop)}

/-- The operation reads alone: one value in every later world, which it leaves as it is. -/
def OReads (P : Program) (w0 : World) (o : Oper) (a : Act) (v : Value) : Prop := ∀ w, Ext w0 w → (execOp a.eval o).run P w = .ok (.value v) w
/-- The operation makes memory alone: a value and new blocks of which φ holds. -/
def MadeBy (P : Program) (φ : Value → Blocks → Prop) (w : World) : Result Next → Prop
  | .ok (.value v) w' => ∃ Ln, φ v Ln ∧ Ext w w' ∧ Has w.heap.size w' Ln
  | .ok (.enter f args) w' => Calls P f args w' fun e w'' => ∃ v Ln, e = .returned v ∧ φ v Ln ∧ Ext w w'' ∧ Has w.heap.size w'' Ln
  | _ => False
def OMakes (P : Program) (w0 : World) (o : Oper) (a : Act) (φ : Value → Blocks → Prop) : Prop :=
  ∀ w, Ext w0 w → MadeBy P φ w ((execOp a.eval o).run P w)
theorem wp_of_makes {o : Oper} {a : Act} {φ : Value → Blocks → Prop} (h : OMakes P w0 o a φ) {w : World} (hw : Ext w0 w) {K : Act → World → Prop} {Q : Exit → Act → World → Prop}
    (hK : ∀ v Ln w', φ v Ln → Ext w w' → Has w.heap.size w' Ln → K (a.put o.dst v) w') : o.wp P a w K Q := by
  have h1 := h w hw
  unfold Oper.wp
  generalize (execOp a.eval o).run P w = r at *
  cases r with
  | ok n w' =>
    cases n <;> simp only [MadeBy] at h1 <;> simp only [Oper.upon]
    case value v => obtain ⟨Ln, h2, h3, h4⟩ := h1; exact hK _ _ _ h2 h3 h4
    case enter f args => exact h1.mono fun e w'' ⟨v, Ln, he, h2, h3, h4⟩ => by subst he; exact hK _ _ _ h2 h3 h4
  | halt x w' => simp only [MadeBy] at h1
theorem wp_of_reads {o : Oper} {a : Act} {v : Value} (h : ∀ w, Ext w0 w → (execOp a.eval o).run P w = .ok (.value v) w) {w : World} (hw : Ext w0 w) {K : Act → World → Prop} {Q : Exit → Act → World → Prop}
    (hK : K (a.put o.dst v) w) : o.wp P a w K Q := by
  unfold Oper.wp
  rw [h w hw]
  exact hK

def mOp (P : Program) (ops : Array Oper) (w0 : World) (Φ : Nat → Option (Value → Blocks → Prop)) (i : Nat) (K : Act → Blocks → Prop) (a : Act) (L : Blocks) : Prop :=
  match ops[i]? with
  | none => K a L
  | some o => if Region.wanted o (yielded ops a.tmps) then
      match Φ i with
      | none => ∃ v, OReads P w0 o a v ∧ K (a.put o.dst v) L
      | some φ => OMakes P w0 o a φ ∧ (∃ v Ln, φ v Ln) ∧ ∀ v Ln, φ v Ln → K (a.put o.dst v) (Ln ++ L)
    else K (a.put o.dst undef) L

/-- In the order of the text. -/
def wpM (P : Program) (ops : Array Oper) (w0 : World) (Φ : Nat → Option (Value → Blocks → Prop)) (Q : Act → Blocks → Prop) : Nat → List Oper → Act → Blocks → Prop
  | _, [], a, L => Q a L
  | k, o :: rest, a, L => if Region.wanted o (yielded ops a.tmps) then
      match Φ k with
      | none => ∃ v, OReads P w0 o a v ∧ wpM P ops w0 Φ Q (k + 1) rest (a.put o.dst v) L
      | some φ => OMakes P w0 o a φ ∧ (∃ v Ln, φ v Ln) ∧ ∀ v Ln, φ v Ln → wpM P ops w0 Φ Q (k + 1) rest (a.put o.dst v) (Ln ++ L)
    else wpM P ops w0 Φ Q (k + 1) rest (a.put o.dst undef) L

def PermInv (K : Act → Blocks → Prop) : Prop := ∀ a L L', L.Perm L' → K a L → K a L'

theorem mOp_perm {i : Nat} {K : Act → Blocks → Prop} (hK : PermInv K) : PermInv (mOp P ops w0 Φ i K) := by
  intro a L L' hp h
  unfold mOp at *
  split
  · rename_i ho; simp only [ho] at h; exact hK _ _ _ hp h
  · rename_i o ho
    simp only [ho] at h
    split
    · rename_i hw
      rw [if_pos hw] at h
      split
      · rename_i e; simp only [e] at h; obtain ⟨v, h1, h2⟩ := h; exact ⟨v, h1, hK _ _ _ hp h2⟩
      · rename_i φ e; simp only [e] at h; exact ⟨h.1, h.2.1, fun v Ln hv => hK _ _ _ (hp.append_left Ln) (h.2.2 v Ln hv)⟩
    · rename_i hw; rw [if_neg hw] at h; exact hK _ _ _ hp h

/-- What an operation of the region may yield. -/
def Yd (P : Program) (ops : Array Oper) (w0 : World) (Φ : Nat → Option (Value → Blocks → Prop)) (i : Nat) (o : Oper) (a : Act) (S : Value → Blocks → Prop) : Prop :=
  (∃ v Ln, S v Ln) ∧
  ((Region.wanted o (yielded ops a.tmps) = true ∧ Φ i = none ∧ ∃ v, OReads P w0 o a v ∧ ∀ u Ln, S u Ln ↔ u = v ∧ Ln = []) ∨
   (Region.wanted o (yielded ops a.tmps) = true ∧ Φ i = some S ∧ OMakes P w0 o a S) ∨
   (Region.wanted o (yielded ops a.tmps) = false ∧ ∀ u Ln, S u Ln ↔ u = undef ∧ Ln = []))

theorem Yd.mOp {i : Nat} {o : Oper} {a : Act} {S : Value → Blocks → Prop} (hi : ops[i]? = some o) (hy : Yd P ops w0 Φ i o a S) {K : Act → Blocks → Prop} {L : Blocks} (h : ∀ v Ln, S v Ln → K (a.put o.dst v) (Ln ++ L)) : mOp P ops w0 Φ i K a L := by
  unfold Go.Proofs.Ytmoflcoijmmpjaa.mOp
  simp only [hi]
  rcases hy.2 with ⟨hw, hΦ, v, hr, hS⟩ | ⟨hw, hΦ, hm⟩ | ⟨hw, hS⟩
  · simp only [hw, if_true, hΦ]
    exact ⟨v, hr, by simpa using h v [] ((hS v []).2 ⟨rfl, rfl⟩)⟩
  · simp only [hw, if_true, hΦ]
    exact ⟨hm, hy.1, h⟩
  · simp only [hw, Bool.false_eq_true, if_false]
    simpa using h undef [] ((hS undef []).2 ⟨rfl, rfl⟩)

theorem yd_of_mOp {i : Nat} {o : Oper} {a : Act} {K : Act → Blocks → Prop} {L : Blocks} (hi : ops[i]? = some o) (h : mOp P ops w0 Φ i K a L) : ∃ S, Yd P ops w0 Φ i o a S ∧ ∀ v Ln, S v Ln → K (a.put o.dst v) (Ln ++ L) := by
  unfold mOp at h
  simp only [hi] at h
  by_cases hw : Region.wanted o (yielded ops a.tmps) = true
  · rw [if_pos hw] at h
    cases hΦ : Φ i with
    | none =>
      simp only [hΦ] at h
      obtain ⟨v, h1, h2⟩ := h
      exact ⟨fun u Ln => u = v ∧ Ln = [], ⟨⟨v, [], rfl, rfl⟩, .inl ⟨hw, hΦ, v, h1, fun _ _ => Iff.rfl⟩⟩, fun u Ln hu => by obtain ⟨rfl, rfl⟩ := hu; simpa using h2⟩
    | some φ =>
      simp only [hΦ] at h
      exact ⟨φ, ⟨h.2.1, .inr (.inl ⟨hw, hΦ, h.1⟩)⟩, h.2.2⟩
  · rw [if_neg hw] at h
    exact ⟨fun u Ln => u = undef ∧ Ln = [], ⟨⟨undef, [], rfl, rfl⟩, .inr (.inr ⟨by simpa using hw, fun _ _ => Iff.rfl⟩)⟩, fun u Ln hu => by obtain ⟨rfl, rfl⟩ := hu; simpa using h⟩

theorem reads_same {o : Oper} {a a' : Act} {v : Value} (he : execOp a'.eval o = execOp a.eval o) (h : OReads P w0 o a v) : OReads P w0 o a' v := by
  intro w hw; rw [he]; exact h w hw
theorem makes_same {o : Oper} {a a' : Act} {φ : Value → Blocks → Prop} (he : execOp a'.eval o = execOp a.eval o) (h : OMakes P w0 o a φ) : OMakes P w0 o a' φ := by
  intro w hw; rw [he]; exact h w hw
theorem Yd.same {i : Nat} {o : Oper} {a a' : Act} {S : Value → Blocks → Prop} (he : execOp a'.eval o = execOp a.eval o) (hw : Region.wanted o (yielded ops a'.tmps) = Region.wanted o (yielded ops a.tmps))
    (hy : Yd P ops w0 Φ i o a S) : Yd P ops w0 Φ i o a' S := by
  refine ⟨hy.1, ?_⟩
  rw [hw]
  rcases hy.2 with ⟨h1, h2, v, hr, hS⟩ | ⟨h1, h2, hm⟩ | h
  · exact .inl ⟨h1, h2, v, reads_same he hr, hS⟩
  · exact .inr (.inl ⟨h1, h2, makes_same he hm⟩)
  · exact .inr (.inr h)

/-- Operation j, apart from i: whether what i yields is already there makes no difference to it, and it makes none to i. -/
theorem mOp_put {i j : Nat} {oi oj : Oper} {S : Value → Blocks → Prop} (hj : ops[j]? = some oj) (hap : oi.apart ops oj = true)
    (hsi : ∀ cs b, oi.op ≠ .select cs b) (hsj : ∀ cs b, oj.op ≠ .select cs b) {K : Act → Blocks → Prop} (hK : PermInv K) {a : Act} {L : Blocks}
    (hy : Yd P ops w0 Φ i oi a S) (h : ∀ v Ln, S v Ln → mOp P ops w0 Φ j K (a.put oi.dst v) (Ln ++ L)) :
    mOp P ops w0 Φ j (fun a' L' => Yd P ops w0 Φ i oi a' S ∧ ∀ v Ln, S v Ln → K (a'.put oi.dst v) (Ln ++ L')) a L := by
  obtain ⟨h1, h2, h3⟩ := Oper.apart_spec hap
  have keep : ∀ u, Yd P ops w0 Φ i oi (a.put oj.dst u) S := fun u => hy.same (execOp_put oi hsi a oj.dst u h3) (wanted_put oi a oj.dst u h3)
  obtain ⟨v0, L0, hS0⟩ := hy.1
  have h0 := h v0 L0 hS0
  unfold mOp at *
  simp only [hj] at *
  rw [wanted_put oj a oi.dst v0 h1] at h0
  split
  · rename_i hw
    rw [if_pos hw] at h0
    cases hΦ : Φ j with
    | none =>
      simp only [hΦ] at h0 h ⊢
      obtain ⟨u, hu, _⟩ := h0
      have hu' := reads_same (a' := a) (execOp_put oj hsj a oi.dst v0 h1).symm hu
      refine ⟨u, hu', keep u, fun v Ln hv => ?_⟩
      have hh := h v Ln hv
      rw [wanted_put oj a oi.dst v h1, if_pos hw] at hh
      obtain ⟨u', hr', hk⟩ := hh
      have e1 := hu' w0 (Ext.refl w0)
      have e2 := hr' w0 (Ext.refl w0)
      rw [execOp_put oj hsj a oi.dst v h1, e1] at e2
      have : u = u' := by simpa using e2
      subst this
      rw [← Act.put_comm a v u h2]
      exact hk
    | some φ =>
      simp only [hΦ] at h0 h ⊢
      refine ⟨makes_same (execOp_put oj hsj a oi.dst v0 h1).symm h0.1, h0.2.1, fun u Lu hu => ⟨keep u, fun v Ln hv => ?_⟩⟩
      have hh := h v Ln hv
      rw [wanted_put oj a oi.dst v h1, if_pos hw] at hh
      have := hh.2.2 u Lu hu
      rw [← Act.put_comm a v u h2]
      refine hK _ _ _ ?_ this
      rw [← List.append_assoc, ← List.append_assoc]
      exact List.Perm.append_right L List.perm_append_comm
  · rename_i hw
    refine ⟨keep _, fun v Ln hv => ?_⟩
    have hh := h v Ln hv
    rw [wanted_put oj a oi.dst v h1, if_neg hw] at hh
    rw [← Act.put_comm a v undef h2]
    exact hh

theorem mOp_mono {i : Nat} {a : Act} {L : Blocks} {K K' : Act → Blocks → Prop} (h : ∀ a L, K a L → K' a L) (hh : mOp P ops w0 Φ i K a L) : mOp P ops w0 Φ i K' a L := by
  unfold mOp at *
  split
  · rename_i ho; simp only [ho] at hh; exact h _ _ hh
  · rename_i o ho
    simp only [ho] at hh
    split
    · rename_i hw
      rw [if_pos hw] at hh
      split
      · rename_i e; simp only [e] at hh; obtain ⟨v, h1, h2⟩ := hh; exact ⟨v, h1, h _ _ h2⟩
      · rename_i φ e; simp only [e] at hh; exact ⟨hh.1, hh.2.1, fun v Ln hv => h _ _ (hh.2.2 v Ln hv)⟩
    · rename_i hw; rw [if_neg hw] at hh; exact h _ _ hh

theorem wpOp_of_mOp {B i : Nat} {a : Act} {L : Blocks} {K : Act → Blocks → Prop} {K' : Act → World → Prop} {Q' : Exit → Act → World → Prop} {w : World} (hx : Ext w0 w) (hB : B ≤ w.heap.size) (hH : Has B w L)
    (h : ∀ a' L' w', Ext w0 w' → B ≤ w'.heap.size → Has B w' L' → K a' L' → K' a' w') (hh : mOp P ops w0 Φ i K a L) : wpOp P ops Q' i K' a w := by
  unfold mOp at hh
  unfold wpOp
  split
  · rename_i ho; simp only [ho] at hh; exact h _ _ _ hx hB hH hh
  · rename_i o ho
    simp only [ho] at hh
    split
    · rename_i hw
      rw [if_pos hw] at hh
      split at hh
      · obtain ⟨v, h1, h2⟩ := hh
        exact .inl (wp_of_reads h1 hx (h _ _ _ hx hB hH h2))
      · obtain ⟨hm, _, h2⟩ := hh
        exact .inl (wp_of_makes hm hx fun v Ln w' hv hx' hn => h _ _ _ (hx.trans hx') (Nat.le_trans hB hx'.size) (hH.append hB hx' hn) (h2 v Ln hv))
    · rename_i hw; rw [if_neg hw] at hh; exact h _ _ _ hx hB hH hh

/-- The next f operations, whichever come up, are among the first n; behind them R. -/
def mHead (P : Program) (md : Region.Mode) (ops : Array Oper) (w0 : World) (Φ : Nat → Option (Value → Blocks → Prop)) (n : Nat) (R : Array Bool → Act → Blocks → Prop) : Nat → Array Bool → Act → Blocks → Prop
  | 0 => R
  | f + 1 => fun lst a L => (∃ i, i ∈ Region.ready md ops lst) ∧ ∀ i ∈ Region.ready md ops lst, i < n ∧ mOp P ops w0 Φ i (mHead P md ops w0 Φ n R f (lst.setIfInBounds i true)) a L

theorem mHead_perm {n : Nat} {R : Array Bool → Act → Blocks → Prop} (hR : ∀ lst, PermInv (R lst)) : ∀ (f : Nat) (lst : Array Bool), PermInv (mHead P md ops w0 Φ n R f lst)
  | 0, lst => hR lst
  | f + 1, lst => fun a L L' hp h => ⟨h.1, fun i hi => ⟨(h.2 i hi).1, mOp_perm (mHead_perm hR f _) _ _ _ hp (h.2 i hi).2⟩⟩

theorem mHead_any {B n g : Nat} {R : Array Bool → Act → Blocks → Prop} {Q' : Exit → Act → World → Prop} (hR : ∀ lst a L w, Ext w0 w → B ≤ w.heap.size → Has B w L → R lst a L → wpAny P md ops Q' g lst a w) (f : Nat) :
    ∀ lst a L w, Ext w0 w → B ≤ w.heap.size → Has B w L → mHead P md ops w0 Φ n R f lst a L → wpAny P md ops Q' (g + f) lst a w := by
  induction f with
  | zero => intro lst a L w hx hB hH h; exact hR lst a L w hx hB hH h
  | succ f ih =>
    intro lst a L w hx hB hH ⟨⟨i, hi⟩, h⟩
    constructor
    · intro h0; rw [h0] at hi; cases hi
    · intro j hj
      exact wpOp_of_mOp hx hB hH (fun a' L' w' hx' hB' hH' h' => ih _ a' L' w' hx' hB' hH' h') (h j hj).2

/-- One of the first n that may come up now may be taken first. -/
theorem mHead_take {n i : Nat} {oi : Oper} {S : Value → Blocks → Prop} {R : Array Bool → Act → Blocks → Prop} (hRp : ∀ lst, PermInv (R lst)) (hi : ops[i]? = some oi) (hns : Region.noSelect ops = true)
    (Inv : Array Bool → Prop) (hset : ∀ lst j, Inv lst → j ∈ Region.ready md ops lst → j < n → Inv (lst.setIfInBounds j true))
    (hlt : ∀ lst, Inv lst → lst.getD i true = false → ∀ j ∈ Region.ready md ops lst, j < n) (hin : i < n)
    (hend : ∀ lst a L, R lst a L → ∀ j ∈ Region.ready md ops lst, n ≤ j) (f : Nat) :
    ∀ lst a L, Inv lst →
      (∀ j oj, ops[j]? = some oj → j ≠ i → lst.getD j true = false → (∀ e ∈ oj.after, Region.binds md e = true → e.on ≠ i) → oi.apart ops oj = true) →
      i ∈ Region.ready md ops lst → Yd P ops w0 Φ i oi a S → (∀ v Ln, S v Ln → mHead P md ops w0 Φ n R f (lst.setIfInBounds i true) (a.put oi.dst v) (Ln ++ L)) → mHead P md ops w0 Φ n R (f + 1) lst a L := by
  induction f with
  | zero =>
    intro lst a L inv _ hr hy H
    refine ⟨⟨i, hr⟩, fun j hj => ?_⟩
    have hjn : j < n := hlt lst inv (mem_ready.1 hr).1 j hj
    by_cases e : j = i
    · subst e; exact ⟨hjn, hy.mOp hi H⟩
    · obtain ⟨v, Ln, hv⟩ := hy.1
      have := hend _ _ _ (H v Ln hv) j (ready_mono hj e); omega
  | succ f ih =>
    intro lst a L inv hfree hr hy H
    refine ⟨⟨i, hr⟩, fun j hj => ?_⟩
    have hjn : j < n := hlt lst inv (mem_ready.1 hr).1 j hj
    by_cases e : j = i
    · subst e; exact ⟨hjn, hy.mOp hi H⟩
    refine ⟨hjn, ?_⟩
    obtain ⟨hju, oj, hoj, hall⟩ := mem_ready.1 hj
    have hiu := (mem_ready.1 hr).1
    have hnot : ∀ x ∈ oj.after, Region.binds md x = true → x.on ≠ i := by
      intro x hx hb hon
      have h1 := hall x hx hb
      rw [hon, getD_both hiu] at h1
      cases h1
    have h2 := mOp_put hoj (hfree j oj hoj e hju hnot) (fun cs b => Region.noSelect_spec hns i oi cs b hi) (fun cs b => Region.noSelect_spec hns j oj cs b hoj) (mHead_perm hRp f _) hy (fun v Ln hv => ((H v Ln hv).2 j (ready_mono hj e)).2)
    refine mOp_mono (fun a' L' h3 => ih (lst.setIfInBounds j true) a' L' (hset lst j inv hj hjn) ?_ (ready_mono hr (Ne.symm e)) h3.1 ?_) h2
    · intro k ok hk hki hun hno
      by_cases ejk : j = k
      · subst ejk; exact hfree j ok hk hki hju hno
      · rw [getD_set_ne true ejk] at hun; exact hfree k ok hk hki hun hno
    · rw [Array.setIfInBounds_comm _ _ e]; exact h3.2

/-! ### with a forced tail -/
theorem mHead_lex {n g : Nat} {Lq : Act → Blocks → Prop} (hLp : PermInv Lq) (hns : Region.noSelect ops = true) (hs : Region.sinkB md ops n = true) (hc : Region.chainB md ops n = true) (hn : n < ops.size) :
    ∀ (l : List Oper) (k : Nat) (lst : Array Bool) (a : Act) (L : Blocks), (∀ j, j < l.length → l[j]? = ops[k + j]?) → k + l.length = n → HeadInv md ops n lst →
      Region.lexHead md ops g l.length k lst = true → wpM P ops w0 Φ Lq k l a L → mHead P md ops w0 Φ n (fun lst' a' L' => Region.seqB md ops g n lst' = true ∧ Lq a' L') l.length lst a L := by
  intro l
  induction l with
  | nil =>
    intro k lst a L _ hk _ hB h
    obtain rfl : k = n := by simpa using hk
    exact ⟨by simpa [Region.lexHead] using hB, h⟩
  | cons o l ih =>
    intro k lst a L hl hk inv hB h
    have h0 : ops[k]? = some o := by simpa using (hl 0 (by simp)).symm
    simp only [List.length_cons, Region.lexHead, Bool.and_eq_true] at hB
    obtain ⟨⟨hr, hf⟩, hB'⟩ := hB
    have hr' : k ∈ Region.ready md ops lst := by simpa using hr
    have hkn : k < n := by simp only [List.length_cons] at hk; omega
    have hst : mOp P ops w0 Φ k (wpM P ops w0 Φ Lq (k + 1) l) a L := by unfold mOp; simp only [h0]; exact h
    obtain ⟨S, hy, hK⟩ := yd_of_mOp h0 hst
    refine mHead_take (fun lst' a' L1 L2 hp h => ⟨h.1, hLp _ _ _ hp h.2⟩) h0 hns (HeadInv md ops n) (fun lst j inv hj hjn => inv.set hj hjn)
      (fun lst inv hun j hj => Nat.lt_of_not_le fun h => tail_waits hs hc hn inv _ k rfl hkn hun j h hj) hkn (fun lst' a' L' hL => seqB_ready hL.1) l.length lst a L inv (Region.free_spec h0 hf) hr' hy ?_
    intro v Ln hv
    refine ih (k + 1) _ _ _ (fun j hj => ?_) (by simp only [List.length_cons] at hk; omega) (inv.set hr' hkn) hB' (hK v Ln hv)
    have := hl (j + 1) (by simp; omega)
    simpa [Nat.add_assoc, Nat.add_comm 1 j] using this

theorem wp_region_mk_tail {B id : Nat} {Q : Exit → Act → World → Prop} {a : Act} {w : World} {L : Blocks} {l : List Oper} (n : Nat) (Φ : Nat → Option (Value → Blocks → Prop)) (hm : P.follows .mixedOrders = true) (hB : Region.lexTailB .any l.toArray n = true)
    (hb : B ≤ w.heap.size) (hH : Has B w L) (h : wpM P l.toArray w Φ (fun a' L' => ∀ w', Ext w w' → B ≤ w'.heap.size → Has B w' L' → wpList P l.toArray Q (l.drop n) a' w') 0 (l.take n) a L) : (Code.region id l.toArray true).wp P Q a w := by
  simp only [Region.lexTailB, Bool.and_eq_true, decide_eq_true_eq] at hB
  obtain ⟨⟨⟨⟨hns, hn⟩, hs⟩, hc⟩, hlex⟩ := hB
  have hn' : n < l.length := by simpa using hn
  have htl : (l.take n).length = n := by simp; omega
  have hdl : (l.drop n).length = l.toArray.size - n := by simp
  have inv : HeadInv .any l.toArray n (Array.replicate l.toArray.size false) := by
    refine ⟨by simp, fun j oj _ hl => ?_, fun t _ ht => getD_in (by simpa using ht) (getD_replicate_false _ _)⟩
    rw [getD_replicate_false] at hl; cases hl
  have hLp : PermInv (fun a' L' => ∀ w', Ext w w' → B ≤ w'.heap.size → Has B w' L' → wpList P l.toArray Q (l.drop n) a' w') := fun a' L1 L2 hp h w' hx hb' hH' => h w' hx hb' (hH'.perm hp.symm)
  have H := mHead_lex (md := .any) (g := l.toArray.size - n) hLp hns hs hc hn (l.take n) 0 _ a L (fun j hj => by rw [htl] at hj; simp [hj]) (by simpa using htl) inv (by rw [htl]; exact hlex) h
  refine wp_region_any hm ?_
  have hd : Ext w { w with drawn := w.drawn + 1 } := Ext.drew (Ext.refl w)
  have H2 := mHead_any (B := B) (Q' := Q) (g := l.toArray.size - n) (fun lst a' L' w' hw' hb' hH' hL => by
    have h1 := wpAny_of_seq (md := .any) (Q' := Q) (l.drop n) n lst a' w' (fun j => by simp [List.getElem?_drop]) (by rw [hdl]; exact hL.1) (hL.2 w' hw' hb' hH')
    rwa [hdl] at h1) _ _ _ _ _ hd (Nat.le_trans hb hd.size) (hH.ext hd) H
  rw [htl, show l.toArray.size - n + n = l.toArray.size by omega] at H2
  exact H2

/-! ### without a tail -/
theorem mHead_lex0 {Lq : Act → Blocks → Prop} (hLp : PermInv Lq) (hns : Region.noSelect ops = true) :
    ∀ (l : List Oper) (k : Nat) (lst : Array Bool) (a : Act) (L : Blocks), (∀ j, j < l.length → l[j]? = ops[k + j]?) → k + l.length = ops.size →
      Region.lexFrom md ops l.length k lst = true → wpM P ops w0 Φ Lq k l a L → mHead P md ops w0 Φ ops.size (fun lst' a' L' => Region.ready md ops lst' = [] ∧ Lq a' L') l.length lst a L := by
  intro l
  induction l with
  | nil =>
    intro k lst a L _ hk hB h
    exact ⟨by simpa [Region.lexFrom] using hB, h⟩
  | cons o l ih =>
    intro k lst a L hl hk hB h
    have h0 : ops[k]? = some o := by simpa using (hl 0 (by simp)).symm
    simp only [List.length_cons, Region.lexFrom, Bool.and_eq_true] at hB
    obtain ⟨⟨hr, hf⟩, hB'⟩ := hB
    have hr' : k ∈ Region.ready md ops lst := by simpa using hr
    have hkn : k < ops.size := by simp only [List.length_cons] at hk; omega
    have hst : mOp P ops w0 Φ k (wpM P ops w0 Φ Lq (k + 1) l) a L := by unfold mOp; simp only [h0]; exact h
    obtain ⟨S, hy, hK⟩ := yd_of_mOp h0 hst
    refine mHead_take (fun lst' a' L1 L2 hp h => ⟨h.1, hLp _ _ _ hp h.2⟩) h0 hns (fun _ => True) (fun _ _ _ _ _ => trivial)
      (fun lst _ hun j hj => by obtain ⟨_, oj, hoj, _⟩ := mem_ready.1 hj; exact (Array.getElem?_eq_some_iff.1 hoj).1) hkn (fun lst' a' L' hL j hj => by rw [hL.1] at hj; cases hj) l.length lst a L trivial (Region.free_spec h0 hf) hr' hy ?_
    intro v Ln hv
    refine ih (k + 1) _ _ _ (fun j hj => ?_) (by simp only [List.length_cons] at hk; omega) hB' (hK v Ln hv)
    have := hl (j + 1) (by simp; omega)
    simpa [Nat.add_assoc, Nat.add_comm 1 j] using this

theorem wp_region_mk {B id : Nat} {Q : Exit → Act → World → Prop} {a : Act} {w : World} {L : Blocks} {l : List Oper} (Φ : Nat → Option (Value → Blocks → Prop)) (hm : P.follows .mixedOrders = true) (hB : Region.lexB .any l.toArray = true)
    (hb : B ≤ w.heap.size) (hH : Has B w L) (h : wpM P l.toArray w Φ (fun a' L' => ∀ w', Ext w w' → B ≤ w'.heap.size → Has B w' L' → Q .normal a' w') 0 l a L) : (Code.region id l.toArray true).wp P Q a w := by
  simp only [Region.lexB, Bool.and_eq_true] at hB
  have hLp : PermInv (fun a' L' => ∀ w', Ext w w' → B ≤ w'.heap.size → Has B w' L' → Q .normal a' w') := fun a' L1 L2 hp h w' hx hb' hH' => h w' hx hb' (hH'.perm hp.symm)
  have H := mHead_lex0 (md := .any) hLp hB.1 l 0 (Array.replicate l.toArray.size false) a L (fun j hj => by simp) (by simp) (by simpa using hB.2) h
  refine wp_region_any hm ?_
  have hd : Ext w { w with drawn := w.drawn + 1 } := Ext.drew (Ext.refl w)
  have H2 := mHead_any (B := B) (Q' := Q) (g := 0) (fun lst a' L' w' hw' hb' hH' hL => ⟨hL.1, hL.2 w' hw' hb' hH'⟩) _ _ _ _ _ hd (Nat.le_trans hb hd.size) (hH.ext hd) H
  simpa using H2

/-! ### one operation at a time -/
theorem m_read {Q : Act → Blocks → Prop} {k : Nat} {o : Oper} {rest : List Oper} {a : Act} {L : Blocks} (hΦ : Φ k = none) (hw : Region.wanted o (yielded ops a.tmps) = true) (v : Value) (hy : OReads P w0 o a v) (h : wpM P ops w0 Φ Q (k + 1) rest (a.put o.dst v) L) : wpM P ops w0 Φ Q k (o :: rest) a L := by
  unfold wpM
  simp only [hw, if_true, hΦ]
  exact ⟨v, hy, h⟩
theorem m_skip {Q : Act → Blocks → Prop} {k : Nat} {o : Oper} {rest : List Oper} {a : Act} {L : Blocks} (hw : Region.wanted o (yielded ops a.tmps) = false) (h : wpM P ops w0 Φ Q (k + 1) rest (a.put o.dst undef) L) : wpM P ops w0 Φ Q k (o :: rest) a L := by
  unfold wpM
  simp only [hw, Bool.false_eq_true, if_false]
  exact h
theorem m_make {Q : Act → Blocks → Prop} {k : Nat} {o : Oper} {rest : List Oper} {a : Act} {L : Blocks} (φ : Value → Blocks → Prop) (hΦ : Φ k = some φ) (hw : Region.wanted o (yielded ops a.tmps) = true) (hy : OMakes P w0 o a φ) (hne : ∃ v Ln, φ v Ln) (h : ∀ v Ln, φ v Ln → wpM P ops w0 Φ Q (k + 1) rest (a.put o.dst v) (Ln ++ L)) : wpM P ops w0 Φ Q k (o :: rest) a L := by
  unfold wpM
  simp only [hw, if_true, hΦ]
  exact ⟨hy, hne, h⟩
theorem m_nil {Q : Act → Blocks → Prop} {k : Nat} {a : Act} {L : Blocks} (h : Q a L) : wpM P ops w0 Φ Q k [] a L := h
end

/-! ### what makes -/
section
variable {P : Program} {w0 : World} {o : Oper} {a : Act}
/-- A new block that holds cs. -/
def newPtr (cs : List Value) (v : Value) (Ln : Blocks) : Prop := ∃ b, v = .pointer (some ⟨b, 0, none⟩) ∧ Ln = [(b, cs)]
def newSlice (n : Nat) (cs : List Value) (v : Value) (Ln : Blocks) : Prop := ∃ b, v = .slice (some ⟨b, 0, none⟩) n n ∧ Ln = [(b, cs)]
/-- A value that has no new memory. -/
def justV (u v : Value) (Ln : Blocks) : Prop := v = u ∧ Ln = []
theorem newPtr_ne (cs : List Value) : ∃ v Ln, newPtr cs v Ln := ⟨_, _, 0, rfl, rfl⟩
theorem newSlice_ne (n : Nat) (cs : List Value) : ∃ v Ln, newSlice n cs v Ln := ⟨_, _, 0, rfl, rfl⟩
theorem justV_ne (u : Value) : ∃ v Ln, justV u v Ln := ⟨_, _, rfl, rfl⟩
theorem makes_alloc (t : TypeId) (ho : o.op = .alloc t) (z : Value) (hz : (P.info? t).bind (·.zero) = some z) : OMakes P w0 o a (newPtr z.cells.toList) := by
  intro w hx
  have hrun : (execOp a.eval o).run P w = .ok (.value (.pointer (some ⟨w.heap.size, 0, none⟩))) (w.alloc (.cells z.cells t)) := by
    cases hq : P.info? t with
    | none => simp [hq] at hz
    | some i =>
      have hz' : i.zero = some z := by simpa [hq] using hz
      simp [execOp, ho, Instr.alloc, zeroValue, typeInfo, hq, hz', newVar, newRow]
  rw [hrun]
  refine ⟨[(w.heap.size, z.cells.toList)], ⟨_, rfl, rfl⟩, (Ext.refl w).alloc _, ?_⟩
  have := (Has.nil w.heap.size w).alloc (Nat.le_refl _) z.cells.toList t
  simpa using this
theorem makes_box (t : TypeId) (x : Operand) (ho : o.op = .box t x) (v : Value) (hv : a.eval x = v) : OMakes P w0 o a (newPtr v.cells.toList) := by
  intro w hx
  have hrun : (execOp a.eval o).run P w = .ok (.value (.pointer (some ⟨w.heap.size, 0, none⟩))) (w.alloc (.cells v.cells t)) := by
    simp [execOp, ho, hv, Instr.box, newVar, newRow]
  rw [hrun]
  refine ⟨[(w.heap.size, v.cells.toList)], ⟨_, rfl, rfl⟩, (Ext.refl w).alloc _, ?_⟩
  have := (Has.nil w.heap.size w).alloc (Nat.le_refl _) v.cells.toList t
  simpa using this
/-- A run that makes one block. -/
theorem makes_run {n : Nat} (cs : List Value) (t : TypeId) (h : ∀ w, Ext w0 w → (execOp a.eval o).run P w = .ok (.value (.slice (some ⟨w.heap.size, 0, none⟩) n n)) (w.alloc (.cells cs.toArray t))) : OMakes P w0 o a (newSlice n cs) := by
  intro w hx
  rw [h w hx]
  refine ⟨[(w.heap.size, cs)], ⟨_, rfl, rfl⟩, (Ext.refl w).alloc _, ?_⟩
  exact (Has.nil w.heap.size w).alloc (Nat.le_refl _) cs t
/-- A call whose answer is known, and that leaves older memory as it is. -/
theorem makes_call {f : FuncId} {args : Array Value} {u : Value} (h : ∀ w, Ext w0 w → (execOp a.eval o).run P w = .ok (.enter f args) w ∧ Calls P f args w fun e w' => e = .returned u ∧ Ext w w') : OMakes P w0 o a (justV u) := by
  intro w hx
  obtain ⟨h1, h2⟩ := h w hx
  rw [h1]
  exact h2.mono fun e w' ⟨he, hx'⟩ => ⟨u, [], he, ⟨rfl, rfl⟩, hx', Has.nil _ _⟩
end
end Go.Proofs.Ytmoflcoijmmpjaa
/-
  The state of a walk: a later world of the one where the call began, with the call's own blocks; laws of the operations, one hypothesis long.
-/
namespace Go.Proofs.Ytmoflcoijmmpjaa
set_option linter.unusedSimpArgs false
set_option linter.unusedVariables false
set_option linter.unusedSectionVars false
open Go

/-- A later world of W, with the own blocks L. -/
def St (W w : World) (L : Blocks) : Prop := Ext W w ∧ Has W.heap.size w L
section
variable {W w w' : World} {L : Blocks}
theorem St.refl (W : World) : St W W [] := ⟨Ext.refl W, Has.nil _ _⟩
theorem St.x (h : St W w L) : Ext W w := h.1
theorem St.ext (h : St W w L) (hx : Ext w w') : St W w' L := ⟨h.1.trans hx, h.2.ext hx⟩
theorem St.perm (h : St W w L) {L' : Blocks} (hp : L.Perm L') : St W w L' := ⟨h.1, h.2.perm hp⟩
theorem St.alloc (h : St W w L) (cs : Array Value) (t : TypeId) : St W (w.alloc (.cells cs t)) ((w.heap.size, cs.toList) :: L) :=
  ⟨h.1.alloc _, by simpa using h.2.alloc h.1.size cs.toList t⟩
theorem St.app (h : St W w L) {Ln : Blocks} (hx : Ext w w') (hn : Has w.heap.size w' Ln) : St W w' (Ln ++ L) := ⟨h.1.trans hx, h.2.append h.1.size hx hn⟩
theorem Has.tail {B : Nat} {p : Nat × List Value} (h : Has B w (p :: L)) : Has B w L := ⟨fun q hq => h.1 q (List.mem_cons_of_mem _ hq), (List.nodup_cons.1 (by simpa using h.2)).2⟩
theorem St.tail {p : Nat × List Value} (h : St W w (p :: L)) : St W w L := ⟨h.1, h.2.tail⟩
theorem St.cell (h : St W w L) (k b j : Nat) (cs : List Value) (hk : L[k]? = some (b, cs)) (v : Value) (hv : cs[j]? = some v) : w.cell? ⟨b, j, none⟩ = some v := by rw [(h.2.row hk).2.cell]; exact hv
theorem St.free (h : St W w L) (k b j : Nat) (cs : List Value) (hk : L[k]? = some (b, cs)) : w.frozen? ⟨b, j, none⟩ = false := (h.2.row hk).2.free j
theorem St.lt (h : St W w L) (k b : Nat) (cs : List Value) (hk : L[k]? = some (b, cs)) : b < w.heap.size := (h.2.row hk).2.lt
theorem St.ge (h : St W w L) (k b : Nat) (cs : List Value) (hk : L[k]? = some (b, cs)) : W.heap.size ≤ b := (h.2.row hk).1
end

section
variable {P : Program} {o : Oper} {a : Act} {W w : World} {K : Act → World → Prop} {Q : Exit → Act → World → Prop} {L : Blocks}
theorem s_alloc (hS : St W w L) (t : TypeId) (ho : o.op = .alloc t) (z : Value) (hz : (P.info? t).bind (·.zero) = some z) (cs : List Value) (hcs : z.cells.toList = cs)
    (h : ∀ b w', St W w' ((b, cs) :: L) → Adv W w w' → K (a.put o.dst (.pointer (some ⟨b, 0, none⟩))) w') : o.wp P a w K Q := by
  subst hcs
  exact wp_alloc_h hS.2 hS.1.size t ho z hz fun b w' hH hx _ => h b w' ⟨hS.1.trans hx, hH⟩ (Adv.of_ext hS.1 hx)
theorem s_box (hS : St W w L) (t : TypeId) (x : Operand) (ho : o.op = .box t x) (v : Value) (hv : a.eval x = v) (cs : List Value) (hcs : v.cells.toList = cs)
    (h : ∀ b w', St W w' ((b, cs) :: L) → Adv W w w' → K (a.put o.dst (.pointer (some ⟨b, 0, none⟩))) w') : o.wp P a w K Q := by
  subst hcs
  exact wp_box_h hS.2 hS.1.size t x ho v hv fun b w' hH hx _ => h b w' ⟨hS.1.trans hx, hH⟩ (Adv.of_ext hS.1 hx)
theorem s_load1 (k : Nat) (hS : St W w L) (t : TypeId) (x : Operand) (ho : o.op = .load t x) (b j : Nat) (hx : a.eval x = .pointer (some ⟨b, j, none⟩)) (cs : List Value) (hk : L[k]? = some (b, cs)) (v : Value) (hv : cs[j]? = some v) (hf : flatB P t = true)
    (h : K (a.put o.dst v) w) : o.wp P a w K Q := wp_load1_h k hS.2 t x ho hf b j hx cs hk v hv h
theorem s_loadN (k : Nat) (hS : St W w L) (t : TypeId) (n : Nat) (x : Operand) (ho : o.op = .load t x) (b j : Nat) (hx : a.eval x = .pointer (some ⟨b, j, none⟩)) (cs : List Value) (hk : L[k]? = some (b, cs)) (vs : List Value) (hv : (cs.drop j).take n = vs) (hn : vs.length = n) (hf : aggB P t = true) (hs : szB P t n = true)
    (h : K (a.put o.dst (.agg vs.toArray)) w) : o.wp P a w K Q := wp_loadN_h k hS.2 t n x ho hf hs b j hx cs hk vs hv hn h
theorem s_store1 (k : Nat) (hS : St W w L) (t : TypeId) (x y : Operand) (ho : o.op = .store t x y) (b j : Nat) (hx : a.eval x = .pointer (some ⟨b, j, none⟩)) (v : Value) (hy : a.eval y = v) (h1 : v.oneCell' = true)
    (cs : List Value) (hk : L[k]? = some (b, cs)) (hj : j < cs.length) (hs : szB P t 1 = true) (L' : Blocks) (hL : L.set k (b, cs.set j v) = L') (h : ∀ w', St W w' L' → Adv W w w' → K (a.put o.dst undef) w') : o.wp P a w K Q := by
  subst hL
  exact wp_store1_h k hS.2 hS.1.size t x y ho hs b j hx v hy h1 cs hk hj fun w' hH hE _ => h w' ⟨(hE W (Nat.le_refl _) hS.1).1, hH⟩ (hE W (Nat.le_refl _) hS.1).2
theorem s_storeN (k : Nat) (hS : St W w L) (t : TypeId) (n : Nat) (x y : Operand) (ho : o.op = .store t x y) (b j : Nat) (hx : a.eval x = .pointer (some ⟨b, j, none⟩)) (vs : List Value) (hy : a.eval y = .agg vs.toArray) (hn : vs.length = n) (h1 : vs.all (·.oneCell') = true)
    (cs : List Value) (hk : L[k]? = some (b, cs)) (hj : j + n ≤ cs.length) (hs : szB P t n = true) (L' : Blocks) (hL : L.set k (b, splice cs j vs) = L') (h : ∀ w', St W w' L' → Adv W w w' → K (a.put o.dst undef) w') : o.wp P a w K Q := by
  subst hL
  exact wp_storeN_h k hS.2 hS.1.size t n x y ho hs b j hx vs hy hn h1 cs hk hj fun w' hH hE _ => h w' ⟨(hE W (Nat.le_refl _) hS.1).1, hH⟩ (hE W (Nat.le_refl _) hS.1).2
end

/-! ### In a region that draws its order -/
section
variable {P : Program} {o : Oper} {a : Act} {W w0 : World} {L : Blocks}
theorem r_load1 (k : Nat) (hS : St W w0 L) (t : TypeId) (x : Operand) (ho : o.op = .load t x) (b j : Nat) (hx : a.eval x = .pointer (some ⟨b, j, none⟩)) (cs : List Value) (hk : L[k]? = some (b, cs)) (v : Value) (hv : cs[j]? = some v) (hf : flatB P t = true) : OReads P w0 o a v := by
  intro w hw
  have hc : w.cell? ⟨b, j, none⟩ = some v := (hS.ext hw).cell k b j cs hk v hv
  unfold execOp
  simp only [ho, hx, Instr.loadAt, Instr.sureAddr, Sem.run_bind, Sem.run_pure, Result.andThen_ok, run_load1 hf hc]
theorem r_loadN (k : Nat) (hS : St W w0 L) (t : TypeId) (n : Nat) (x : Operand) (ho : o.op = .load t x) (b j : Nat) (hx : a.eval x = .pointer (some ⟨b, j, none⟩)) (cs : List Value) (hk : L[k]? = some (b, cs)) (vs : List Value) (hv : (cs.drop j).take n = vs) (hn : vs.length = n) (hf : aggB P t = true) (hs : szB P t n = true) : OReads P w0 o a (.agg vs.toArray) := by
  intro w hw
  obtain ⟨d, hu, hd⟩ := aggB_of hf
  subst hv
  have hrun := run_loadVar_mid (P := P) w b j t _ d (((hS.ext hw).2.row hk).2.range j n) hu hd (by rw [hn]; exact szB_of hs)
  unfold execOp
  simp only [ho, hx, Instr.loadAt, Instr.sureAddr, Sem.run_bind, Sem.run_pure, Result.andThen_ok, hrun]
theorem reg_mk {id : Nat} {Q : Exit → Act → World → Prop} {l : List Oper} (Φ : Nat → Option (Value → Blocks → Prop)) (hS : St W w0 L) (hm : P.follows .mixedOrders = true) (hB : Region.lexB .any l.toArray = true)
    (h : wpM P l.toArray w0 Φ (fun a' L' => ∀ w', St W w' L' → Q .normal a' w') 0 l a L) : (Code.region id l.toArray true).wp P Q a w0 := by
  refine wp_region_mk Φ hm hB hS.1.size hS.2 ?_
  have key : ∀ (l' : List Oper) (k : Nat) (a : Act) (L : Blocks), wpM P l.toArray w0 Φ (fun a' L' => ∀ w', St W w' L' → Q .normal a' w') k l' a L → wpM P l.toArray w0 Φ (fun a' L' => ∀ w', Ext w0 w' → W.heap.size ≤ w'.heap.size → Has W.heap.size w' L' → Q .normal a' w') k l' a L := by
    intro l'
    induction l' with
    | nil => intro k a L h w' hx hb hH; exact h w' ⟨hS.1.trans hx, hH⟩
    | cons o l' ih =>
      intro k a L h
      unfold wpM at h ⊢
      split
      · rename_i hw
        rw [if_pos hw] at h
        split
        · rename_i e; simp only [e] at h; obtain ⟨v, h1, h2⟩ := h; exact ⟨v, h1, ih _ _ _ h2⟩
        · rename_i φ e; simp only [e] at h; exact ⟨h.1, h.2.1, fun v Ln hv => ih _ _ _ (h.2.2 v Ln hv)⟩
      · rename_i hw; rw [if_neg hw] at h; exact ih _ _ _ h
  exact key l 0 a L h
theorem reg_mk_tail {id : Nat} {Q : Exit → Act → World → Prop} {l : List Oper} (n : Nat) (Φ : Nat → Option (Value → Blocks → Prop)) (hS : St W w0 L) (hm : P.follows .mixedOrders = true) (hB : Region.lexTailB .any l.toArray n = true)
    (h : wpM P l.toArray w0 Φ (fun a' L' => ∀ w', St W w' L' → wpList P l.toArray Q (l.drop n) a' w') 0 (l.take n) a L) : (Code.region id l.toArray true).wp P Q a w0 := by
  refine wp_region_mk_tail n Φ hm hB hS.1.size hS.2 ?_
  have key : ∀ (l' : List Oper) (k : Nat) (a : Act) (L : Blocks), wpM P l.toArray w0 Φ (fun a' L' => ∀ w', St W w' L' → wpList P l.toArray Q (l.drop n) a' w') k l' a L → wpM P l.toArray w0 Φ (fun a' L' => ∀ w', Ext w0 w' → W.heap.size ≤ w'.heap.size → Has W.heap.size w' L' → wpList P l.toArray Q (l.drop n) a' w') k l' a L := by
    intro l'
    induction l' with
    | nil => intro k a L h w' hx hb hH; exact h w' ⟨hS.1.trans hx, hH⟩
    | cons o l' ih =>
      intro k a L h
      unfold wpM at h ⊢
      split
      · rename_i hw
        rw [if_pos hw] at h
        split
        · rename_i e; simp only [e] at h; obtain ⟨v, h1, h2⟩ := h; exact ⟨v, h1, ih _ _ _ h2⟩
        · rename_i φ e; simp only [e] at h; exact ⟨h.1, h.2.1, fun v Ln hv => ih _ _ _ (h.2.2 v Ln hv)⟩
      · rename_i hw; rw [if_neg hw] at h; exact ih _ _ _ h
  exact key (l.take n) 0 a L h
end
theorem s_res {P : Program} {fn : Func} {p : Tmp} {t : TypeId} (h : fn.results = #[.cell p t]) (hf : aggB P t = true) (tmps : Array Value) {W w : World} {L : Blocks} (hS : St W w L) (k b : Nat) (cs : List Value) (hk : L[k]? = some (b, cs)) (hp : tmps.getD p undef = .pointer (some ⟨b, 0, none⟩)) (hs : szB P t cs.length = true) :
    (results fn tmps).run P w = .ok (.agg cs.toArray) w := res1_h h hf tmps w hS.2 k b cs hk hp hs
/-- A row of the call's own read as a slice. -/
theorem Sl.of_row {w : World} {b n size : Nat} {cs : List Value} (h : Row w b cs) (hl : n * size ≤ cs.length) : Sl w (some ⟨b, 0, none⟩) n size (cs.take (n * size)) :=
  ⟨by simp; omega, fun _ => ⟨b, 0, rfl, h.lt, fun j u hu => by
    rw [List.getElem?_take] at hu
    split at hu
    · rw [Nat.zero_add, h.cell]; exact hu
    · cases hu⟩⟩
theorem St.sl {W w : World} {L : Blocks} (h : St W w L) (k b n size : Nat) (cs : List Value) (hk : L[k]? = some (b, cs)) (hl : cs.length = n * size) : Sl w (some ⟨b, 0, none⟩) n size cs := by
  have := Sl.of_row (h.2.row hk).2 (n := n) (size := size) (by omega)
  rwa [List.take_of_length_le (by omega)] at this
/-- A function with a text of its own. -/
def entB (P : Program) (f : FuncId) : Bool := match P.funcs[f]? with | some fn => !(fn.name == "runtime.NumGoroutine") && fn.body.isSome | none => false
theorem run_enter {P : Program} {f : FuncId} (h : entB P f = true) (args : Array Value) (w : World) : (callFunc f args).run P w = .ok (.enter f args) w := by
  unfold entB at h
  split at h
  · rename_i fn hf
    simp only [Bool.and_eq_true, Bool.not_eq_true'] at h
    have h2 : fn.body.isNone = false := by simpa using h.2
    show ((Sem.program Sem.pure).bind _).run P w = _
    simp only [Sem.bind, Sem.run, hf]
    simp only [h.1, h2, Bool.false_eq_true, if_false]
    rfl
  · cases h
theorem run_call {P : Program} {o : Oper} {a : Act} {f : FuncId} {xs : Array Operand} {ts : Array TypeId} (ho : o.op = .call { callee := .value (.func f), args := xs, argTypes := ts }) {args : Array Value} (hargs : xs.map a.eval = args) (he : entB P f = true) (w : World) :
    (execOp a.eval o).run P w = .ok (.enter f args) w := by
  have h := run_enter he args w
  simp only [execOp, ho, resolve, Act.eval, Deferred.ofValue, hargs, Sem.run_bind, Sem.run_pure, Result.andThen_ok, invoke, Array.append_empty, Array.empty_append] at h ⊢
  exact h
theorem r_call {P : Program} {o : Oper} {a : Act} {w0 : World} {f : FuncId} {xs : List Operand} {ts : Array TypeId} {vs : List Value} {u : Value} (h : ∀ w, Ext w0 w → Calls P f vs.toArray w fun e w' => e = .returned u ∧ Ext w w')
    (ho : o.op = .call { callee := .value (.func f), args := xs.toArray, argTypes := ts }) (hargs : xs.map a.eval = vs) (he : entB P f = true) : OMakes P w0 o a (justV u) :=
  makes_call fun w hw => ⟨run_call ho (by simp [hargs]) he w, h w hw⟩
/-! ### guards: the next operation is one of this kind (with_reducible) -/
section
variable {P : Program} {d : Option Tmp} {ty : TypeId} {pos : String} {af : Array Edge} {g : Option (Nat × Bool)} {a : Act} {w : World} {K : Act → World → Prop} {Q : Exit → Act → World → Prop}
theorem g_load {t : TypeId} {x : Operand} (h : Oper.wp P ⟨d, .load t x, ty, pos, af, g⟩ a w K Q) : Oper.wp P ⟨d, .load t x, ty, pos, af, g⟩ a w K Q := h
theorem g_store {t : TypeId} {x y : Operand} (h : Oper.wp P ⟨d, .store t x y, ty, pos, af, g⟩ a w K Q) : Oper.wp P ⟨d, .store t x y, ty, pos, af, g⟩ a w K Q := h
theorem g_alloc {t : TypeId} (h : Oper.wp P ⟨d, .alloc t, ty, pos, af, g⟩ a w K Q) : Oper.wp P ⟨d, .alloc t, ty, pos, af, g⟩ a w K Q := h
theorem g_box {t : TypeId} {x : Operand} (h : Oper.wp P ⟨d, .box t x, ty, pos, af, g⟩ a w K Q) : Oper.wp P ⟨d, .box t x, ty, pos, af, g⟩ a w K Q := h
end
end Go.Proofs.Ytmoflcoijmmpjaa
/-
  Slices of the call's own, as rows among its own blocks: append, make, reads and writes of elements.
-/
namespace Go.Proofs.Ytmoflcoijmmpjaa
set_option linter.unusedSimpArgs false
set_option linter.unusedVariables false
set_option linter.unusedSectionVars false
open Go

/-- The slice value v has the cells xs (elements of 'size' cells), in a row of its own with R: nil, or at the head of a block with spare cells behind. -/
def OwnV (size : Nat) (xs : List Value) (v : Value) (R : Blocks) : Prop :=
  (xs = [] ∧ v = .slice none 0 0 ∧ R = []) ∨
  ∃ b n cap sl, v = .slice (some ⟨b, 0, none⟩) n cap ∧ R = [(b, xs ++ sl)] ∧ xs.length = n * size ∧ (xs ++ sl).length = cap * size ∧ n ≤ cap ∧ cap ≤ maxLen

theorem OwnV.nil (size : Nat) : OwnV size [] (.slice none 0 0) [] := .inl ⟨rfl, rfl, rfl⟩
theorem OwnV.mk {size : Nat} {xs : List Value} (b n cap : Nat) (sl : List Value) (h1 : xs.length = n * size) (h2 : (xs ++ sl).length = cap * size) (h3 : n ≤ cap) (h4 : cap ≤ maxLen) : OwnV size xs (.slice (some ⟨b, 0, none⟩) n cap) [(b, xs ++ sl)] :=
  .inr ⟨b, n, cap, sl, rfl, rfl, h1, h2, h3, h4⟩
theorem OwnV.form {size : Nat} {xs : List Value} {v : Value} {R : Blocks} (h : OwnV size xs v R) (hs : 0 < size) : ∃ A n cap, v = .slice A n cap ∧ xs.length = n * size ∧ n ≤ cap ∧ cap ≤ maxLen := by
  rcases h with ⟨rfl, rfl, rfl⟩ | ⟨b, n, cap, sl, rfl, rfl, h1, h2, h3, h4⟩
  · exact ⟨none, 0, 0, rfl, by simp, by omega, by omega⟩
  · exact ⟨_, n, cap, rfl, h1, h3, h4⟩
theorem OwnV.sl {size : Nat} {xs : List Value} {W w : World} {A : Option Addr} {n cap : Nat} {R L : Blocks} (h : OwnV size xs (.slice A n cap) R) (hS : St W w (R ++ L)) (hs : 0 < size) : Sl w A n size xs ∧ n ≤ cap ∧ cap ≤ maxLen := by
  rcases h with ⟨rfl, e, rfl⟩ | ⟨b, n', cap', sl, e, rfl, h1, h2, h3, h4⟩
  · simp only [Value.slice.injEq] at e
    obtain ⟨rfl, rfl, rfl⟩ := e
    exact ⟨Sl.nil w size, by omega, by omega⟩
  · simp only [Value.slice.injEq] at e
    obtain ⟨rfl, rfl, rfl⟩ := e
    have hr := (hS.2.row (k := 0) (b := b) (cs := xs ++ sl) (by simp)).2
    refine ⟨?_, h3, h4⟩
    have := Sl.of_row hr (n := n) (size := size) (by rw [h2]; exact Nat.mul_le_mul_right _ h3)
    rwa [← h1, List.take_left] at this

section
variable {W w w' : World} {L : Blocks}
/-- Blocks that are wanted no more may be forgotten. -/
theorem St.sub {L' : Blocks} (h : St W w L) (hs : L'.Sublist L) : St W w L' :=
  ⟨h.1, fun p hp => h.2.1 p (hs.subset hp), (hs.map _).nodup h.2.2⟩
theorem splice_mid : ∀ (ys xs zs : List Value), ys.length ≤ zs.length → splice (xs ++ zs) xs.length ys = xs ++ ys ++ zs.drop ys.length
  | [], xs, zs, _ => by simp [splice]
  | y :: ys, xs, zs, h => by
      cases zs with
      | nil => simp at h
      | cons z zs =>
        have ih := splice_mid ys (xs ++ [y]) zs (by simpa using h)
        simp only [splice, List.length_append, List.length_singleton, List.append_assoc, List.singleton_append] at ih ⊢
        rw [List.set_append_right _ _ (Nat.le_refl _), Nat.sub_self, List.set_cons_zero]
        simpa using ih
end

section
variable {P : Program} {w : World}
theorem run_append_in (t ty e : TypeId) (i : TypeInfo) (ht : P.underlying t = some (.slice e)) (hi : P.info? e = some i) (g n cap : Nat) {cs : List Value} (hg : Row w g cs)
    (a : Addr) (m c : Nat) (news : List Value) (hl : news.length = m * i.size) (hnews : ∀ j u, news[j]? = some u → w.cell? (a.add j) = some u) (h1 : ∀ u ∈ news, u.oneCell' = true)
    (hroom : n + m ≤ cap) (hfit : n * i.size + news.length ≤ cs.length) :
    (Builtin.append_ #[t, t] ty #[.slice (some ⟨g, 0, none⟩) n cap, .slice (some a) m c]).run P w = .ok (.slice (some ⟨g, 0, none⟩) (n + m) cap) (w.setCells g (n * i.size) news) := by
  have hf := run_firstCells_some (P := P) w i.size m a m c news hl hnews
  have hst := run_storeCells_cells (P := P) g (n * i.size) news 0 w (fun j hj => by rw [hg.cell, List.getElem?_eq_getElem (by omega)]; rfl) (fun j hj => hg.free _) h1
  simp only [Nat.add_zero] at hst
  simp [Builtin.append_, run_underlying ht, sizeOf, typeInfo, hi, Builtin.lenOf, hroom, hf, Addr.add_lit, hst]
end

section
variable {P : Program} {o : Oper} {a : Act} {W w : World} {K : Act → World → Prop} {Q : Exit → Act → World → Prop} {R L : Blocks}
theorem s_append {size bytes : Nat} {xs : List Value} {v : Value} (hS : St W w (R ++ L)) (hO : OwnV size xs v R) (t e : TypeId) (he : EI P t e size bytes) (s x : Operand)
    (ho : o.op = .call { callee := .builtin .append, args := #[s, x], argTypes := #[t, t] }) (hs : a.eval s = v) (ad : Addr) (m c : Nat) (hx : a.eval x = .slice (some ad) m c) (news : List Value)
    (hl : news.length = m * size) (hnews : ∀ j u, news[j]? = some u → w.cell? (ad.add j) = some u) (h1 : ∀ u ∈ news, u.oneCell' = true) (hm : 0 < m) (n : Nat) (hn : xs.length = n * size)
    (h63 : n + m ≤ 9223372036854775807) (hbytes : (n + m) * bytes ≤ 140737488355328)
    (h : ∀ v' R' w', OwnV size (xs ++ news) v' R' → St W w' (R' ++ L) → Adv W w w' → K (a.put o.dst v') w') : o.wp P a w K Q := by
  obtain ⟨ht, i, z, hi, hz, hsz, hby, hzs, hpos⟩ := he
  subst hsz
  subst hby
  have key : ∀ v' w', (Builtin.append_ #[t, t] o.type #[v, .slice (some ad) m c]).run P w = .ok v' w' → K (a.put o.dst v') w' → o.wp P a w K Q := by
    intro v' w' hr hk
    unfold Oper.wp execOp
    simp only [ho, resolve, invoke, builtin, Sem.run_bind, Sem.run_pure, Result.andThen_ok, List.map_toArray, List.map_cons, List.map_nil, hs, hx, hr]
    exact hk
  have fresh : ∀ (old : Nat) (R0 : Blocks), St W w (R0 ++ L) → K (a.put o.dst (.slice (some ⟨w.heap.size, 0, none⟩) (n + m) (grownCap w (n + m) old e))) (w.drew.alloc (.cells (xs.toArray ++ news.toArray ++ Builtin.zeroCells z.cells (grownCap w (n + m) old e - (n + m))) e)) := by
    intro old R0 hS0
    have hge := grownCap_ge w (n + m) old e
    have hle := grownCap_le_maxLen w (n + m) old e (by unfold maxLen; omega)
    have hS1 : St W w L := hS0.sub (List.sublist_append_right _ _)
    have hS2 : St W w.drew L := hS1.ext (Ext.drew (Ext.refl w))
    have hS3 := hS2.alloc (xs.toArray ++ news.toArray ++ Builtin.zeroCells z.cells (grownCap w (n + m) old e - (n + m))) e
    simp only [Array.toList_append] at hS3
    refine h _ _ _ (OwnV.mk w.heap.size (n + m) _ (Builtin.zeroCells z.cells (grownCap w (n + m) old e - (n + m))).toList ?_ ?_ hge hle) hS3 (Adv.of_ext hS.1 (((Ext.refl w).drew).alloc _))
    · rw [List.length_append, hn, hl, Nat.add_mul]
    · rw [List.length_append, List.length_append, hn, hl, Array.length_toList, size_zeroCells, hzs, ← Nat.add_mul, ← Nat.add_mul]
      congr 1
      omega
  rcases hO with ⟨rfl, rfl, rfl⟩ | ⟨g, n', cap, sl, rfl, rfl, h1', h2, h3, h4⟩
  · have hn0 : n = 0 := by
      have : n * i.size = 0 := by simpa using hn.symm
      rcases Nat.mul_eq_zero.1 this with h | h
      · exact h
      · omega
    subst hn0
    have hr := run_append_nil (P := P) w t o.type e i z ht hi hz ad m c news hl hnews hm (by omega) (by have hb := hbytes; simp only [Nat.zero_add] at hb; omega)
    have hf := fresh 0 [] hS
    simp only [Nat.zero_add, Array.empty_append] at hf
    exact key _ _ hr hf
  · have e1 : n' = n := Nat.eq_of_mul_eq_mul_right hpos (h1'.symm.trans hn)
    subst e1
    have hrow := (hS.2.row (k := 0) (b := g) (cs := xs ++ sl) (by simp)).2
    by_cases hroom : n' + m ≤ cap
    · have hle : (n' + m) * i.size ≤ cap * i.size := Nat.mul_le_mul_right _ hroom
      have hfit : n' * i.size + news.length ≤ (xs ++ sl).length := by rw [hl, h2, ← Nat.add_mul]; exact hle
      have hr := run_append_in (P := P) t o.type e i ht hi g n' cap hrow ad m c news hl hnews h1 hroom hfit
      have hset : St W (w.setCells g (n' * i.size) news) ([(g, xs ++ news ++ sl.drop news.length)] ++ L) := by
        have hge := (hS.2.row (k := 0) (b := g) (cs := xs ++ sl) (by simp)).1
        have hH := Has.setCells news hS.2 (k := 0) (b := g) (cs := xs ++ sl) (by simp) (n' * i.size)
        rw [← hn, splice_mid news xs sl (by simp only [List.length_append] at hfit; omega)] at hH
        exact ⟨ext_setCells news hS.1 hge _, by simpa [hn] using hH⟩
      refine key _ _ hr (h _ _ _ (OwnV.mk g (n' + m) cap (sl.drop news.length) ?_ ?_ hroom h4) hset (adv_setCells (hS.2.row (k := 0) (b := g) (cs := xs ++ sl) (by simp)).1 news w _))
      · rw [List.length_append, hn, hl, Nat.add_mul]
      · have := h2
        simp only [List.length_append, List.length_drop] at this hfit ⊢
        omega
    · have hr := run_append_grow (P := P) w t o.type e i z ht hi hz ⟨g, 0, none⟩ n' cap xs hn (fun j u hu => by
        have : (⟨g, 0, none⟩ : Addr).add j = ⟨g, j, none⟩ := by unfold Addr.add; split <;> simp_all
        rw [this, hrow.cell, List.getElem?_append_left (List.getElem?_eq_some_iff.1 hu).1]
        exact hu) ad m c news hl hnews (by omega) (by omega) (growslice_fits (by omega) hbytes)
      exact key _ _ hr (fresh cap _ hS)
end

section
variable {P : Program} {o : Oper} {a : Act} {W w : World} {K : Act → World → Prop} {Q : Exit → Act → World → Prop} {R LL : Blocks}
/-- The own row's block stands behind the first k. -/
theorem s_app (k : Nat) {size bytes : Nat} {xs : List Value} {v : Value} (hS : St W w LL) (hR : LL.drop k = R) (hO : OwnV size xs v R) (t e : TypeId) (he : EI P t e size bytes) (s x : Operand)
    (ho : o.op = .call { callee := .builtin .append, args := #[s, x], argTypes := #[t, t] }) (hs : a.eval s = v) (j bx m c : Nat) (hx : a.eval x = .slice (some ⟨bx, 0, none⟩) m c) (news : List Value) (hj : LL[j]? = some (bx, news))
    (hl : news.length = m * size) (h1 : news.all (·.oneCell') = true) (hm : 0 < m) (n : Nat) (hn : xs.length = n * size)
    (h63 : n + m ≤ 9223372036854775807) (hbytes : (n + m) * bytes ≤ 140737488355328)
    (h : ∀ v' R' w', OwnV size (xs ++ news) v' R' → St W w' (LL.take k ++ R') → Adv W w w' → K (a.put o.dst v') w') : o.wp P a w K Q := by
  have hrow := (hS.2.row hj).2
  have hS' : St W w (R ++ LL.take k) := hS.perm (by rw [← hR]; exact (List.Perm.of_eq (List.take_append_drop k LL).symm).trans List.perm_append_comm)
  refine s_append hS' hO t e he s x ho hs ⟨bx, 0, none⟩ m c hx news hl (fun i u hu => ?_) (by simpa using h1) hm n hn h63 hbytes fun v' R' w' h1 h2 h3 => h v' R' w' h1 (h2.perm List.perm_append_comm) h3
  have : (⟨bx, 0, none⟩ : Addr).add i = ⟨bx, i, none⟩ := by unfold Addr.add; split <;> simp_all
  rw [this, hrow.cell]
  exact hu
theorem s_mk {n : Nat} {cs : List Value} {e : TypeId} (hS : St W w LL) (hr : ∀ w, (execOp a.eval o).run P w = .ok (.value (.slice (some ⟨w.heap.size, 0, none⟩) n n)) (w.alloc (.cells cs.toArray e)))
    (h : ∀ b w', St W w' ((b, cs) :: LL) → Adv W w w' → K (a.put o.dst (.slice (some ⟨b, 0, none⟩) n n)) w') : o.wp P a w K Q := by
  unfold Oper.wp
  rw [hr w]
  exact h _ _ (by simpa using hS.alloc cs.toArray e) (Adv.of_ext hS.1 ((Ext.refl w).alloc _))
end
section
variable {P : Program} {d : Option Tmp} {ty : TypeId} {pos : String} {af : Array Edge} {g : Option (Nat × Bool)} {a : Act} {w : World} {K : Act → World → Prop} {Q : Exit → Act → World → Prop}
theorem g_append {xs : Array Operand} {ts : Array TypeId} (h : Oper.wp P ⟨d, .call ⟨.builtin .append, xs, ts⟩, ty, pos, af, g⟩ a w K Q) : Oper.wp P ⟨d, .call ⟨.builtin .append, xs, ts⟩, ty, pos, af, g⟩ a w K Q := h
theorem g_mk {t : TypeId} {n : Nat} {ps : Array (Nat × Operand)} (h : Oper.wp P ⟨d, .buildSlice t n ps, ty, pos, af, g⟩ a w K Q) : Oper.wp P ⟨d, .buildSlice t n ps, ty, pos, af, g⟩ a w K Q := h
end
/-- What an own slice value holds hangs on the memory alone. -/
theorem own_unique {size : Nat} {xs ys : List Value} {v : Value} {R S : Blocks} {w : World} (h : OwnV size xs v R) (k : OwnV size ys v S) (hR : ∀ p ∈ R, Row w p.1 p.2) (hS : ∀ p ∈ S, Row w p.1 p.2) : xs = ys := by
  rcases h with ⟨rfl, rfl, rfl⟩ | ⟨b, n, cap, sl, rfl, rfl, h1, h2, h3, h4⟩
  · rcases k with ⟨rfl, _, rfl⟩ | ⟨b, n, cap, sl, e, _⟩
    · rfl
    · cases e
  · rcases k with ⟨rfl, e, _⟩ | ⟨b', n', cap', sl', e, rfl, k1, k2, k3, k4⟩
    · cases e
    · simp only [Value.slice.injEq, Option.some.injEq, Addr.mk.injEq] at e
      obtain ⟨⟨rfl, _, _⟩, rfl, rfl⟩ := e
      obtain ⟨t, r1⟩ := hR _ (List.mem_singleton.2 rfl)
      obtain ⟨t', r2⟩ := hS _ (List.mem_singleton.2 rfl)
      rw [r1] at r2
      have e2 : xs ++ sl = ys ++ sl' := by
        have := Option.some.inj r2
        simp only [Obj.cells.injEq] at this
        simpa using congrArg Array.toList this.1
      have := congrArg (List.take (n * size)) e2
      rwa [← h1, List.take_left, h1, ← k1, List.take_left] at this
end Go.Proofs.Ytmoflcoijmmpjaa
/-
  Loops over iterators: the body of a round is walked by the same laws as any other code.
-/
namespace Go.Proofs.Ytmoflcoijmmpjaa
set_option linter.unusedSimpArgs false
set_option linter.unusedVariables false
set_option linter.unusedSectionVars false
open Go Go.RowKit

/-- The widest fence, in a round or in none. -/
def Wide (F : Fence) : Prop := F.fn = (fun _ => True) ∧ F.depth = none ∧ F.alive = false
theorem wide_wide : Wide Fence.wide := ⟨rfl, rfl, rfl⟩
theorem wide_round (l : Nat) : Wide (Fence.wide.inRound l) := ⟨rfl, rfl, rfl⟩
theorem Wide.fenced {F : Fence} (h : Wide F) (P : Program) : Machine.fenced P F = Machine.fenced P Fence.wide := by
  obtain ⟨h1, h2, h3⟩ := h
  funext m
  simp [Machine.fenced, Fence.room, h1, h2, h3, Fence.wide]
theorem Wide.calls {F : Fence} (h : Wide F) {n : Nat} {P : Program} {f : FuncId} {args : Array Value} {w : World} {R : Ending → World → Prop} (hc : Calls P f args w R) : CallsIn F n P f args w R := by
  have := (callsIn_wide (n := n)).2 hc
  refine ⟨by rw [h.1]; trivial, fun cs _ => ?_⟩
  rw [h.fenced P]
  exact this.2 cs (room_wide _)
theorem Wide.rows {F : Fence} (h : Wide F) {n : Nat} {P : Program} {row : String} {args : Array Value} {w : World} {R : Value → World → Prop} (hc : Rows P row args w R) : RowsIn F n P row args w R := by
  intro c cs _
  obtain ⟨v, w', h1, h2⟩ := hc c cs
  rw [h.fenced P]
  exact ⟨v, w', h1, stepsIn_wide.2 h2⟩
def notDefer (o : Oper) : Bool := match o.op with | .defer _ => false | _ => true
theorem semAt_same {o : Oper} (h : notDefer o = true) (ro : Option Nat) (ρ : Operand → Value) : o.semAt ro ρ = execOp ρ o := by
  refine Oper.semAt_eq ro ρ o fun c hc => ?_
  unfold notDefer at h
  rw [hc] at h
  cases h
/-- AN OPERATION IN A ROUND, by what holds of it anywhere. -/
theorem opIn {F : Fence} (hF : Wide F) {n : Nat} {P : Program} {o : Oper} {a : Act} {w : World} {K : Act → World → Prop} {Q : Exit → Act → World → Prop} (hd : notDefer o = true) (h : o.wp P a w K Q) : o.wpIn F n P a w K Q := by
  refine ⟨fun f _ => by rw [hF.1]; trivial, ?_⟩
  rw [semAt_same hd]
  unfold Oper.wp at h
  generalize (execOp a.eval o).run P w = r at *
  have hdep : F.depth.isSome = true → 1 ≤ n := fun h' => by rw [hF.2.1] at h'; cases h'
  cases r with
  | ok x w' =>
    cases x <;> simp only [Oper.upon] at h <;> simp only [Oper.uponIn] <;> first | exact h | exact ⟨hdep, hF.calls h⟩ | exact ⟨hdep, hF.rows h⟩
  | halt x w' =>
    cases x <;> simp only [Oper.upon] at h <;> simp only [Oper.uponIn] <;> exact h

section
variable {W w w' : World} {L : Blocks}
theorem Row.grown {b : Nat} {cs : List Value} (h : Row w b cs) {row : Option Nat} (hg : w.grownBy w' row) (hr : ∀ r, row = some r → ∃ o : Obj, w.heap[r]? = some o ∧ o.isCells = false) : Row w' b cs := by
  have hl := h.lt
  obtain ⟨t, h⟩ := h
  refine ⟨t, (hg.block b hl fun e => ?_).trans h⟩
  obtain ⟨o, ho, hc⟩ := hr b e.symm
  rw [h] at ho
  cases ho
  cases hc
theorem Ext.grown (h : Ext W w) {row : Option Nat} (hg : w.grownBy w' row) (hr : ∀ r, row = some r → W.heap.size ≤ r) : Ext W w' := Below.grown h hg (Ext.size h) hr
/-- The state abides the turn of a block that is no cells. -/
theorem St.grown (h : St W w L) {B : Nat} (hB : W.heap.size ≤ B) {row : Option Nat} (hg : w.grownBy w' row) (hr : ∀ r, row = some r → B ≤ r ∧ ∃ o : Obj, w.heap[r]? = some o ∧ o.isCells = false) : St W w' L :=
  ⟨h.1.grown hg fun r e => Nat.le_trans hB (hr r e).1, fun p hp => ⟨(h.2.1 p hp).1, (h.2.1 p hp).2.grown hg fun r e => (hr r e).2⟩, h.2.2⟩
end

/-- What a round keeps: what lay below n₀, and what the box Bn holds. -/
def KpB (n₀ Bn : Nat) (v : Value) (A B : World) : Prop := Below n₀ A B ∧ (A.cell? ⟨Bn, 0, none⟩ = some v → B.cell? ⟨Bn, 0, none⟩ = some v)
theorem kpB_t {n₀ Bn : Nat} {v : Value} {A B C : World} (h : KpB n₀ Bn v A B) (k : KpB n₀ Bn v B C) : KpB n₀ Bn v A C := ⟨h.1.trans k.1, fun e => k.2 (h.2 e)⟩
theorem kpB_b {n₀ Bn : Nat} {v : Value} {w : World} (hn : n₀ ≤ w.heap.size) (W : World) (l : Nat) (o o' : Obj) (hl : w.heap.size ≤ l) (h : W.heap[l]? = some o) (hc : o.isCells = false) (hw : o.isWalk = false) : KpB n₀ Bn v W (W.putObj l o') := by
  refine ⟨belowK_b hn W l o o' hl h hc hw, fun e => ?_⟩
  have hne : Bn ≠ l := by
    rintro rfl
    unfold World.cell? at e
    simp only [h] at e
    cases o <;> simp_all [Obj.isCells]
  rw [World.cell?_of_block (World.putObj_heap_other hne)]
  exact e
theorem wpIn_scope_wide {n : Nat} {P : Program} {c : Code} {Q : Exit → Act → World → Prop} {a : Act} {w : World} (h : c.wpIn Fence.wide n P (Exit.noGoto Q) a w) : (Code.scope c).wpIn Fence.wide n P Q a w :=
  wpIn_wide.2 (wp_scope_straight (wpIn_wide.1 h))
theorem g_in {F : Fence} {n : Nat} {P : Program} {o : Oper} {a : Act} {w : World} {K : Act → World → Prop} {Q : Exit → Act → World → Prop} (h : Oper.wpIn F n P o a w K Q) : Oper.wpIn F n P o a w K Q := h
end Go.Proofs.Ytmoflcoijmmpjaa
/-
  make of a slice of one-cell elements; copy into an own row.
-/
namespace Go.Proofs.Ytmoflcoijmmpjaa
set_option linter.unusedSimpArgs false
set_option linter.unusedVariables false
set_option linter.unusedSectionVars false
open Go Go.RowKit

/-- A goal at which the walk stops. -/
@[irreducible] def Stop (p : Prop) : Prop := p
theorem Stop.out {p : Prop} (h : Stop p) : p := by unfold Stop at h; exact h
theorem Stop.mk {p : Prop} (h : p) : Stop p := by unfold Stop; exact h

/-- The element type of the slice type t: one cell, zero value z, some bytes. -/
def EZ (P : Program) (t e : TypeId) (z : Value) (bytes : Nat) : Prop :=
  P.underlying t = some (.slice e) ∧ z.cells = #[z] ∧ ∃ i : TypeInfo, P.info? e = some i ∧ i.zero = some z ∧ i.size = 1 ∧ i.bytes = bytes
theorem ez_of {P : Program} {t e : TypeId} {z : Value} {bytes : Nat} (ht : P.underlying t = some (.slice e)) (h : (P.info? e).map (fun i => (i.zero, i.size, i.bytes)) = some (some z, 1, bytes)) (hz : z.cells = #[z]) : EZ P t e z bytes := by
  obtain ⟨i0, hi, hz0, hz1, hz2⟩ := info_parts h
  exact ⟨ht, hz, i0, hi, hz0, hz1, hz2⟩
theorem madeCells_one (z : Value) (n : Nat) : (madeCells #[z] n).toList = List.replicate n z := by
  apply List.ext_getElem
  · simp [madeCells]
  · intro i h1 h2
    simp only [madeCells, Array.getElem_toList, Array.getElem_map, Array.getElem_range, List.getElem_replicate, List.size_toArray, List.length_cons, List.length_nil, Nat.zero_add, Nat.mod_one]
    rfl
theorem ones_map {α : Type} (f : α → Value) (h : ∀ a, (f a).oneCell' = true) (l : List α) : (l.map f).all (·.oneCell') = true := by simp [h]
theorem splice_head (xs cs : List Value) (h : xs.length ≤ cs.length) : splice cs 0 xs = xs ++ cs.drop xs.length := by
  simpa using splice_mid xs [] cs h

/-- The three marks behind a list that is lent. -/
def marks3 (mk : Nat → Value) (n : Nat) : List Value := [mk n, mk (n + 1), mk (n + 2)]
/-- Up to k the marks are laid. -/
def lentTo (xs : List Value) (mk : Nat → Value) (z : Value) (n k : Nat) : List Value := xs ++ (marks3 mk n).take (k - n) ++ List.replicate (n + 3 - k) z
theorem lentTo_len (xs : List Value) (mk : Nat → Value) (z : Value) (n k : Nat) (h1 : xs.length = n) (hk : n ≤ k) (hk2 : k ≤ n + 3) : (lentTo xs mk z n k).length = n + 3 := by
  simp only [lentTo, List.length_append, List.length_take, List.length_replicate, marks3, List.length_cons, List.length_nil]
  omega
theorem lentTo_start (xs : List Value) (mk : Nat → Value) (z : Value) (n : Nat) : lentTo xs mk z n n = xs ++ (List.replicate (n + 3) z).drop n := by
  simp [lentTo]
theorem lentTo_end (xs : List Value) (mk : Nat → Value) (z : Value) (n : Nat) : lentTo xs mk z n (n + 3) = xs ++ marks3 mk n := by
  simp [lentTo, marks3]
theorem lentTo_step (xs : List Value) (mk : Nat → Value) (z : Value) (n k : Nat) (h1 : xs.length = n) (hk : n ≤ k) (hk2 : k < n + 3) : (lentTo xs mk z n k).set k (mk k) = lentTo xs mk z n (k + 1) := by
  unfold lentTo
  obtain rfl | rfl | rfl : k = n ∨ k = n + 1 ∨ k = n + 2 := by omega
  all_goals
    subst h1
    simp only [Nat.sub_self, List.take_zero, List.map_nil, List.append_nil, Nat.add_sub_cancel_left, marks3, List.take_succ_cons, List.map_cons, List.append_assoc]
    rw [List.set_append_right _ _ (by simp)]
    simp [List.replicate_succ, show xs.length + 3 - (xs.length + 1) = 2 by omega, show xs.length + 3 - (xs.length + 2) = 1 by omega, show xs.length + 1 + 1 - xs.length = 2 by omega, show xs.length + 2 + 1 - xs.length = 3 by omega, show xs.length + 3 - (xs.length + 1 + 1) = 1 by omega, show xs.length + 3 - (xs.length + 2 + 1) = 0 by omega]

section
variable {P : Program} {o : Oper} {a : Act} {W w : World} {K : Act → World → Prop} {Q : Exit → Act → World → Prop} {L : Blocks}
theorem s_make1 (hS : St W w L) {t e : TypeId} {z : Value} {bytes : Nat} (he : EZ P t e z bytes) (x : Operand) (ho : o.op = .makeSlice t x x) (k : IntKind) (n : Nat) (hx : a.eval x = .int k (n : Int))
    (hb : bytes * n ≤ 281474976710656) (hn : n ≤ 9223372036854775807)
    (h : ∀ b w', St W w' ((b, List.replicate n z) :: L) → Adv W w w' → K (a.put o.dst (.slice (some ⟨b, 0, none⟩) n n)) w') : o.wp P a w K Q := by
  obtain ⟨ht, hz, i, hi, hz0, hsz, hby⟩ := he
  have hb2 : (i.bytes : Int) * (n : Int) ≤ 281474976710656 := by
    have h : ((i.bytes * n : Nat) : Int) ≤ 281474976710656 := by rw [hby]; omega
    rwa [Int.natCast_mul] at h
  have hr := run_make (P := P) w t e i z ht hi hz0 k k n n (by omega) (Int.le_refl _) hb2 (by omega)
  simp only [Int.toNat_natCast, hsz, Nat.mul_one, hz] at hr
  have hS2 := hS.alloc (madeCells #[z] n) e
  rw [madeCells_one] at hS2
  unfold Oper.wp execOp
  simp only [ho, hx, Sem.run_bind, Sem.run_pure, hr, Result.andThen_ok]
  exact h _ _ hS2 (Adv.of_ext hS.1 ((Ext.refl w).alloc _))
/-- copy of a whole slice over the head of an own row. -/
theorem s_copy1 (k : Nat) (hS : St W w L) {t e : TypeId} {z : Value} {bytes : Nat} (he : EZ P t e z bytes) (t' : TypeId) (d s : Operand) (ho : o.op = .call { callee := .builtin .copy, args := #[d, s], argTypes := #[t, t'] })
    (b dl dc : Nat) (hd : a.eval d = .slice (some ⟨b, 0, none⟩) dl dc) (A : Option Addr) (m c : Nat) (hs : a.eval s = .slice A m c) (xs : List Value) (hsl : Sl w A m 1 xs) (h1 : xs.all (·.oneCell') = true)
    (cs : List Value) (hk : L[k]? = some (b, cs)) (hml : m ≤ dl) (hmc : m ≤ cs.length) (L' : Blocks) (hL : L.set k (b, xs ++ cs.drop m) = L')
    (h : ∀ w', St W w' L' → Adv W w w' → K (a.put o.dst (goInt m)) w') : o.wp P a w K Q := by
  subst hL
  obtain ⟨ht, hz, i, hi, hz0, hsz, hby⟩ := he
  obtain ⟨hb, hr⟩ := hS.2.row hk
  have hxl : xs.length = m := by simpa using hsl.1
  have hkl : k < L.length := (List.getElem?_eq_some_iff.1 hk).1
  have key : ∀ w', (Builtin.copy_ #[t, t'] o.type #[.slice (some ⟨b, 0, none⟩) dl dc, .slice A m c]).run P w = .ok (goInt m) w' → K (a.put o.dst (goInt m)) w' → o.wp P a w K Q := by
    intro w' hr hk
    unfold Oper.wp execOp
    simp only [ho, resolve, invoke, builtin, Sem.run_bind, Sem.run_pure, Result.andThen_ok, List.map_toArray, List.map_cons, List.map_nil, hd, hs, hr]
    exact hk
  by_cases hm : m = 0
  · subst hm
    have hx0 : xs = [] := by simpa using hxl
    subst hx0
    refine key w (run_copy_none (P := P) w t t' o.type e _ A dl dc 0 c ht (by rw [hi]; simp [hsz]) (by show min 0 dl = 0; omega)) (h _ ?_ (Adv.refl _ _))
    have : L.set k (b, ([] : List Value) ++ cs.drop 0) = L := by
      apply List.ext_getElem?
      intro j
      rw [List.getElem?_set]
      split
      · rename_i hj; subst hj; simp only [hkl, if_true, List.nil_append, List.drop_zero]; exact hk.symm
      · rfl
    rw [this]
    exact hS
  · obtain ⟨b2, off, rfl, hb2, hc⟩ := hsl.2 (by omega)
    have hr' := run_copy_cells (P := P) w t t' o.type e b 0 dl dc ⟨b2, off, none⟩ m c xs ht (by rw [hi]; simp [hsz]) (by rw [hxl]; show m = min m dl; omega)
      (fun j u hu => by
        have : (⟨b2, off, none⟩ : Addr).add j = ⟨b2, off + j, none⟩ := by unfold Addr.add; split <;> simp_all
        rw [this]; exact hc j u hu)
      (fun j hj => by rw [hr.cell, List.getElem?_eq_getElem (by omega)]; rfl) (fun j hj => hr.free _) (by simpa using h1)
    rw [hxl] at hr'
    have hH := Has.setCells xs hS.2 hk 0
    rw [splice_head xs cs (by omega), hxl] at hH
    exact key _ hr' (h _ ⟨ext_setCells xs hS.1 hb 0, hH⟩ (adv_setCells hb xs w 0))
end
section
variable {P : Program} {d : Option Tmp} {ty : TypeId} {pos : String} {af : Array Edge} {g : Option (Nat × Bool)} {a : Act} {w : World} {K : Act → World → Prop} {Q : Exit → Act → World → Prop}
theorem g_want {ops : Array Oper} {rest : List Oper} {o : Op} {gd : Nat × Bool} {a : Act} {w : World} (hw : Region.wanted ⟨d, o, ty, pos, af, some gd⟩ (yielded ops a.tmps) = true)
    (h : ∀ K : Act → World → Prop, (∀ a w, wpList P ops Q rest a w → K a w) → Oper.wp P ⟨d, o, ty, pos, af, some gd⟩ a w K Q) : wpList P ops Q (⟨d, o, ty, pos, af, some gd⟩ :: rest) a w :=
  wpList_step fun K hK => by rw [if_pos hw]; exact h K hK
theorem g_make {t : TypeId} {x y : Operand} (h : Oper.wp P ⟨d, .makeSlice t x y, ty, pos, af, g⟩ a w K Q) : Oper.wp P ⟨d, .makeSlice t x y, ty, pos, af, g⟩ a w K Q := h
theorem g_copy {xs : Array Operand} {ts : Array TypeId} (h : Oper.wp P ⟨d, .call ⟨.builtin .copy, xs, ts⟩, ty, pos, af, g⟩ a w K Q) : Oper.wp P ⟨d, .call ⟨.builtin .copy, xs, ts⟩, ty, pos, af, g⟩ a w K Q := h
end
/-- The whole room of a list that was lent. -/
def LentTo (w : World) (b n : Nat) (xs : List Value) (mk : Nat → Value) : Prop := Sl w (some ⟨b, 0, none⟩) (n + 3) 1 (xs ++ marks3 mk n)
theorem lent_of {W w : World} {L : Blocks} (hS : St W w L) (k b n : Nat) (xs : List Value) (mk : Nat → Value) (hk : L[k]? = some (b, xs ++ marks3 mk n)) (h1 : xs.length = n) : LentTo w b n xs mk := by
  have hr := (hS.2.row hk).2
  have := Sl.of_row hr (n := n + 3) (size := 1) (by simp [marks3, h1])
  rwa [List.take_of_length_le (by simp [marks3, h1])] at this
end Go.Proofs.Ytmoflcoijmmpjaa
