/-
  What a call hands back that was walked by hand, a list in new memory, as a contract of the told machine: a row that is lent; arguments that are lists of bools.
-/
import Derived.Test.YtmjmdjcgjmjigaaKitX
import Derived.Test.YtmjmdjcgjmjigaaChainZ
namespace Go.Proofs.Ytmjmdjcgjmjigaa
set_option linter.unusedSimpArgs false
set_option linter.unusedVariables false
set_option linter.unusedSectionVars false
open Go Go.RowKit

theorem rb_slg' {τ : Sg} {n b l cap : Nat} (hb : τ.b n = some (b, 0)) (hc : τ.c n = some cap) : renV τ (.slice (some ⟨n, 0, none⟩) l (capBig + n)) = some (.slice (some ⟨b, 0, none⟩) l cap) := by
  have := renV_slice_mk (l := l) (c := capBig + n) (c' := cap) (o := 0) hb (by rw [cpR_big]; exact hc)
  simpa using this
def prjV : Res (Out × Tape × List Prop) → Res (Value × Tape × List Prop)
  | .ok ((v, _, _, _), tp, ob) => .ok (v, tp, ob)
  | .ask b => .ask b
  | .no => .no
theorem run_val {V : Tv} (hX : XOkZ V Try.prog) (hT : TOkZ V Try.prog) (hL : LOkZ V Try.prog) {k : Nat} {f : FuncId} {args : List Value} {h : Hp} {nx : Nat} {tp tp' : Tape} {v : Value} {ob : List Prop} (e : prjV (runZ V Try.prog k f args h nx tp) = .ok (v, tp', ob)) (ho : Alls ob) (hf : Nat.blt f yBig = true) : ∃ h' nx' d, Tri Try.prog f args h nx (v, h', nx', d) := by
  unfold prjV at e
  split at e
  · rename_i v0 h0 nx0 d0 tp0 ob0 hr
    simp only [Res.ok.injEq, Prod.mk.injEq] at e
    obtain ⟨rfl, rfl, rfl⟩ := e
    exact ⟨_, _, _, run_tri hX hT hL hr ho hf⟩
  · cases e
  · cases e
/-- A new list, all of it known but what stands behind it. -/
theorem tri_lent {P : Program} {f : FuncId} {args : List Value} {h : Hp} {nx size n : Nat} {xs : List Value} {V : Value → Value} (hV : ∀ σ v v', renV σ v = some v' → renV σ (V v) = some (V v')) (hs : 0 < size) (hn : 0 < n) (hl : xs.length = n * size) (hf : Fl xs)
    (H : ∀ W σ w args', Rl W σ h w → renL σ args = some args' → Calls P f args'.toArray w fun e w' => ∃ v R, e = .returned (V v) ∧ OwnV size xs v R ∧ St w w' R) :
    Tri P f args h nx (V (.slice (some ⟨nx, 0, none⟩) n (capBig + nx)), (nx, ⟨.held n, xs⟩) :: h, nx + 1, []) := by
  refine ⟨⟨Nat.le_succ _, fun m hm _ => ?_, fun hB m hm => ?_⟩, fun hB W σ w args' hR hfr ha => ?_⟩
  · simp only
    rw [lk_cons, if_neg (by omega)]
  · simp only at hm ⊢
    rw [lk_cons, if_neg (by omega)]
    exact hB m (by omega)
  simp only at hfr
  refine (H W σ w args' hR ha).mono ?_
  rintro e w' ⟨v, R, rfl, hO, hS⟩
  rcases hO with ⟨e1, _⟩ | ⟨b, n', cap, sl, rfl, rfl, h1, h2, h3, h4⟩
  · subst e1
    simp only [List.length_nil] at hl
    have := Nat.mul_pos hn hs
    omega
  have en : n' = n := Nat.eq_of_mul_eq_mul_right hs (by omega)
  subst en
  have hx : Ext w w' := hS.1
  obtain ⟨hge, t, hb⟩ := hS.2.row (k := 0) rfl
  obtain ⟨f1, f2⟩ := hfr nx (Nat.le_refl _) (by omega)
  obtain ⟨τ, hτ⟩ : ∃ τ : Sg, τ = ⟨fun k => if k = nx then some (b, 0) else σ.b k, fun k => if k = nx then some cap else σ.c k⟩ := ⟨_, rfl⟩
  have tn : τ.b nx = some (b, 0) ∧ τ.c nx = some cap := by subst hτ; simp
  have to_ : ∀ k, k ≠ nx → τ.b k = σ.b k ∧ τ.c k = σ.c k := fun k hk => by subst hτ; simp [hk]
  have hle : σ.le τ := by
    refine ⟨fun k p e => ?_, fun k p e => ?_⟩
    · by_cases hk : k = nx
      · subst hk; rw [f1] at e; cases e
      · rw [(to_ k hk).1]; exact e
    · by_cases hk : k = nx
      · subst hk; rw [f2] at e; cases e
      · rw [(to_ k hk).2]; exact e
  have cls : ∀ k r, lk ((nx, ⟨.held n', xs⟩) :: h) k = some r → (k = nx ∧ r = ⟨.held n', xs⟩) ∨ (k ≠ nx ∧ lk h k = some r) := fun k r hk => by
    rw [lk_cons] at hk
    split at hk
    · rename_i e; cases hk; exact .inl ⟨e.symm, rfl⟩
    · rename_i e; exact .inr ⟨Ne.symm e, hk⟩
  have hW := hR.ext.size
  refine ⟨τ, _, ⟨hle, fun k hk => to_ k (by simp only at hk; omega), ⟨hR.ext.trans hx, fun k r hk => ?_, fun k m r s p q hk hm ho hs hp hq e => ?_⟩, hx.size, fun b' hb' _ => Below.block hx b' hb', fun k r p hk ho hp => ?_⟩, hV τ _ _ (rb_slg' tn.1 tn.2), rfl⟩
  · rcases cls k r hk with ⟨rfl, rfl⟩ | ⟨h5, h6⟩
    · exact ⟨b, 0, xs, tn.1, hf τ, rfl, Nat.le_trans hW hge, t, sl, _, cap, tn.2, hb, h3, h4⟩
    · exact RowOk.ext hR h6 hx hle
  · rcases cls k r hk with ⟨rfl, rfl⟩ | ⟨h5, h6⟩ <;> rcases cls m s hm with ⟨h7, rfl⟩ | ⟨h7, h8⟩
    · exact h7.symm
    · rw [tn.1] at hp
      cases hp
      rw [(to_ m h7).1] at hq
      have := hR.lt h8 hq
      simp only at e
      omega
    · subst h7
      rw [tn.1] at hq
      cases hq
      rw [(to_ k h5).1] at hp
      have := hR.lt h6 hp
      simp only at e
      omega
    · rw [(to_ k h5).1] at hp
      rw [(to_ m h7).1] at hq
      exact hR.inj k m r s p q h6 h8 ho hs hp hq e
  · rcases cls k r hk with ⟨rfl, rfl⟩ | ⟨h5, h6⟩
    · rw [tn.1] at hp
      cases hp
      exact .inl hge
    · rw [(to_ k h5).1] at hp
      exact .inr ⟨k, r, p, h6, ho, hp, rfl⟩
/-- A slice of an older row is a slice of these cells. -/
theorem sl_of_old {W : World} {σ : Sg} {h : Hp} {w : World} (hR : Rl W σ h w) {k n c size : Nat} {xs : List Value} {v : Value} (hl : lk h k = some ⟨.old, xs⟩) (hf : Fl xs) (hx : xs.length = n * size) (ha : renV σ (.slice (some ⟨k, 0, none⟩) n c) = some v) : ∃ A c', v = .slice A n c' ∧ Sl w A n size xs := by
  obtain ⟨p, c', hp, hc, rfl⟩ := renV_slice ha
  obtain ⟨q, vs, hq, hv, hcell⟩ := hR.cell hl
  rw [hp] at hq
  cases hq
  have hvv : vs = xs := by
    have := hf σ
    simp only at hv
    rw [this] at hv
    exact (Option.some.inj hv).symm
  subst hvv
  refine ⟨_, c', rfl, hx, fun _ => ⟨p.1, p.2 + 0, rfl, hR.lt hl hp, fun j u hu => hcell j u hu⟩⟩
/-! ### lists of bools -/
def boolsOf (xs : List Value) : List Bool := xs.map fun | .bool b => b | _ => false
def Bols (xs : List Value) : Prop := xs = boolCells (boolsOf xs)
theorem boolsOf_cells (bs : List Bool) : boolsOf (boolCells bs) = bs := by
  unfold boolsOf boolCells
  rw [List.map_map]
  exact List.map_id' _
theorem Bols.of (bs : List Bool) : Bols (boolCells bs) := by unfold Bols; rw [boolsOf_cells]
theorem fl_bols (bs : List Bool) : Fl (boolCells bs) := Fl.map (fun σ x => by simp only [renV]) bs
theorem Bols.get {xs : List Value} (h : Bols xs) {i : Nat} (hi : i < xs.length) : xs[i]? = some (.bool (boolAt xs i)) := by
  have hl : (boolsOf xs).length = xs.length := by simp [boolsOf]
  have e : xs[i]? = some (.bool ((boolsOf xs)[i]'(by omega))) := by
    conv => lhs; rw [h]
    unfold boolCells
    rw [List.getElem?_map, List.getElem?_eq_getElem (by omega)]
    rfl
  have ei : boolAt xs i = (boolsOf xs)[i]'(by omega) := by unfold boolAt; rw [e]
  rw [ei]; exact e
theorem boolAt_cells {bs : List Bool} {i : Nat} (hi : i < bs.length) : boolAt (boolCells bs) i = bs.getD i false := by
  unfold boolAt boolCells
  rw [List.getElem?_map, List.getElem?_eq_getElem hi]
  simp [List.getD, List.getElem?_eq_getElem hi]
section
open Go.ChangeShapes Go.WideShapes Go.ChangeAt
variable {H : Type} {enc : TypeId × Value → H} {P : Program} {W : World}
theorem open_bl {t e : TypeId} {v : Value} {d : DataW H} {ps : List MemPlace} {b0 : Nat} (ht : P.underlying t = some (.slice e)) (hk : P.underlying e = some .bool) (hc : P.cellsOf e = 1)
    (hv : Value.okWide P W .any b0 t v) (h : DataW.Trod enc P W 0 (fun _ => true) true t v d ps) :
    ∃ (a : Av) (q : Option (Addr × Nat)) (bs : List Bool), ((a = .fl (.slice none 0 0) ∧ bs = []) ∨ a = .sl (boolCells bs) bs.length) ∧ AvAt a v q ∧ Lies W a q := by
  obtain ⟨A, n, c, rfl⟩ := okWide_slice ht hv
  obtain ⟨fuel, hf⟩ := h
  rcases DataW.trod_slice ht hf with ⟨h1, _⟩ | ⟨a, len, cap, elems, rest, m, _, h1, _, _, hl, hm, hlen, hel, _, _⟩
  · simp [Value.cells] at h1
    obtain ⟨rfl, rfl, rfl⟩ := h1
    exact ⟨.fl (.slice none 0 0), none, [], .inl ⟨rfl, rfl⟩, ⟨rfl, (fun σ => rfl), rfl⟩, (fun ad c e => by cases e)⟩
  · simp [Value.cells] at h1
    obtain ⟨rfl, rfl, rfl⟩ := h1
    have hhas : W.has P .any b0 a e c := by
      simp only [Value.okWide, ht, Cell.okWide, Cell.ok] at hv
      exact hv.2.2
    obtain ⟨_, hspot, row, cells, hsh, _⟩ := hhas
    have hblk : a.block < W.heap.size := by
      unfold World.shape? at hsh
      cases hh : W.heap[a.block]? with
      | none => rw [hh] at hsh; cases hsh
      | some o => exact (Array.getElem?_eq_some_iff.1 hh).1
    obtain ⟨b, off, sp⟩ := a
    simp only at hspot hblk
    subst hspot
    rw [hc] at hel
    obtain ⟨bs, hzl, hz⟩ := choose_list (R := fun i (x : Bool) => W.cell? ⟨b, off + i, none⟩ = some (.bool x)) n fun i hi => by
      have he := hel i hi
      rw [List.getElem?_eq_getElem (by omega), Option.bind_eq_some_iff] at he
      obtain ⟨cs, h2, h3⟩ := he
      obtain ⟨x, rfl, _⟩ := DataW.trod_bool hk h3
      obtain ⟨_, h4, h5⟩ := World.cells?_some h2
      refine ⟨x, ?_⟩
      have h6 := h5 0 (by omega)
      simp only [add_plain, Nat.mul_one, Nat.add_zero, List.getElem?_cons_zero] at h6
      exact h6
    refine ⟨.sl (boolCells bs) bs.length, some (⟨b, off, none⟩, c), bs, .inr rfl, ⟨b, off, c, by rw [hzl], rfl, fl_bols bs, by omega, by unfold maxLen at hm; omega⟩, fun ad c' e => ?_⟩
    cases e
    refine ⟨hblk, fun i x hx => ?_⟩
    simp only [avCs, boolCells, List.getElem?_map, Option.map_eq_some_iff] at hx
    obtain ⟨y, hy, rfl⟩ := hx
    exact hz i y hy
end
/-! ### chains and codes -/
def spL (xs : List Value) : List Value := spnCells (spansOf (boolsOf xs))
def spN (xs : List Value) : Nat := (spansOf (boolsOf xs)).length
def cdL (xs ys : List Value) : List Value := cellsOf .i64 (codesV (boolsOf xs) (intsOf ys))
def lentR (n : Nat) (xs : List Value) : Rw := ⟨.held n, xs⟩
def sSp : Spec1 := fun xs n tp => match tp with
  | true :: tp => some (⟨fun _ => .slice none 0 0, []⟩, tp, [n = 0])
  | false :: tp => some (⟨fun nx => .slice (some ⟨nx, 0, none⟩) (spN xs) (capBig + nx), [lentR (spN xs) (spL xs)]⟩, tp, [0 < n, n ≤ 1000, Bols xs])
  | [] => none
def sCd : Spec2 := fun xs n ys m tp => match tp with
  | true :: tp => some (⟨fun _ => .tuple ⟨[.slice none 0 0, .int .i64 0]⟩, []⟩, tp, [n = 0, m = 0])
  | false :: tp => some (⟨fun nx => .tuple ⟨[.slice (some ⟨nx, 0, none⟩) n (capBig + nx), .int .i64 0]⟩, [lentR n (cdL xs ys)]⟩, tp, [0 < n, n ≤ 1000, m = n, Bols xs, Ints .i64 ys])
  | [] => none
theorem spnCells_Fl (l : List Spn) : Fl (spnCells l) := by
  induction l with
  | nil => exact fun σ => rfl
  | cons x l ih =>
    have : spnCells (x :: l) = [.int .i64 (x.1 : Int), .int .i64 (x.2.1 : Int), .bool x.2.2] ++ spnCells l := by simp [spnCells]
    rw [this]
    exact (Fl.of rfl).app ih
theorem codesV_size {bs : List Bool} {own : List Int} : (codesV bs own).length = bs.length := by
  have key : ∀ (l : List Spn) (a : Nat), Tiles bs a l → a ≤ bs.length → (l.flatMap (chunkV own)).length = bs.length - a := by
    intro l
    induction l with
    | nil => intro a h _; simp only [Tiles] at h; subst h; simp
    | cons x l ih =>
      intro a h ha
      obtain ⟨h1, h2, h3, _, h5⟩ := h
      simp only [List.flatMap_cons, List.length_append, chunkV_len, ih _ h5 h3]
      omega
  have := key _ 0 (tiles_of bs) (Nat.zero_le _)
  unfold codesV
  omega
theorem spansFrom_ne : ∀ (bs : List Bool) (f i : Nat), bs ≠ [] → spansFrom f i bs ≠ []
  | [], _, _, h => (h rfl).elim
  | [b], f, i, _ => by simp [spansFrom]
  | b :: c :: rest, f, i, _ => by
      simp only [spansFrom]
      split
      · exact spansFrom_ne (c :: rest) f (i + 1) (by simp)
      · simp
theorem intsOf_cells (l : List Int) : intsOf (cellsOf .i64 l) = l := intsOf_map .i64 l
theorem spN_pos {xs : List Value} (h : 0 < xs.length) : 0 < spN xs := by
  unfold spN spansOf
  have : boolsOf xs ≠ [] := by
    intro e
    have := congrArg List.length e
    simp [boolsOf] at this
    subst this
    simp at h
  exact List.length_pos_iff.2 (spansFrom_ne _ 0 0 this)
theorem sp_tri {xs : List Value} {n c : Nat} (hl : xs.length = n) (hn : 0 < n) (h1 : n ≤ 1000) (hb : Bols xs) : Tri Try.prog 11 [.slice (some ⟨0, 0, none⟩) n c] [(0, ⟨.old, xs⟩)] 1 (.slice (some ⟨1, 0, none⟩) (spN xs) (capBig + 1), [(1, lentR (spN xs) (spL xs)), (0, ⟨.old, xs⟩)], 2, []) := by
  refine tri_lent (V := id) (size := 3) (fun σ v v' h => h) (by omega) (spN_pos (by omega)) (spnCells_len _) (spnCells_Fl _) fun W σ w args' hR ha => ?_
  obtain ⟨v', vs', hv, hnn, rfl⟩ := renL_cons ha
  simp only [renL, Option.some.injEq] at hnn
  subst hnn
  have hf : Fl xs := by rw [hb]; exact fl_bols _
  obtain ⟨A, c', rfl, hS⟩ := sl_of_old (size := 1) hR rfl hf (by omega) hv
  rw [hb] at hS
  exact Spans_any A n c' (boolsOf xs) h1 (by simp [boolsOf, hl]) w hS
theorem cd_tri {xs ys : List Value} {n c d : Nat} (hl : xs.length = n) (hm : ys.length = n) (hn : 0 < n) (h1 : n ≤ 1000) (hb : Bols xs) (hy : Ints .i64 ys) : Tri Try.prog 12 [.slice (some ⟨0, 0, none⟩) n c, .slice (some ⟨1, 0, none⟩) n d] [(0, ⟨.old, xs⟩), (1, ⟨.old, ys⟩)] 2 (.tuple ⟨[.slice (some ⟨2, 0, none⟩) n (capBig + 2), .int .i64 0]⟩, [(2, lentR n (cdL xs ys)), (0, ⟨.old, xs⟩), (1, ⟨.old, ys⟩)], 3, []) := by
  have lb : (boolsOf xs).length = n := by simp [boolsOf, hl]
  refine tri_lent (V := fun v => .tuple ⟨[v, .int .i64 0]⟩) (size := 1) (fun σ v v' h => renV_tuple_mk (renL_mk h (renL_mk (by simp only [renV]) rfl))) (by omega) hn (by unfold cdL cellsOf; rw [List.length_map, codesV_size, lb]; omega) (Fl.ints _ _) fun W σ w args' hR ha => ?_
  obtain ⟨v', vs', hv, hr, rfl⟩ := renL_cons ha
  obtain ⟨u', us', hu, hnn, rfl⟩ := renL_cons hr
  simp only [renL, Option.some.injEq] at hnn
  subst hnn
  have hf : Fl xs := by rw [hb]; exact fl_bols _
  obtain ⟨A, c', rfl, hS⟩ := sl_of_old (size := 1) hR rfl hf (by omega) hv
  obtain ⟨B, d', rfl, hT⟩ := sl_of_old (size := 1) hR rfl hy.fl (by omega) hu
  rw [hb] at hS
  rw [hy] at hT
  exact Codes_any A B n c' d' (boolsOf xs) (intsOf ys) h1 lb (by simp [intsOf, hm]) w hS hT
theorem GrIs.lent {V : Value → Value} (hV : ∀ σ v v', renV σ v = some v' → renV σ (V v) = some (V v')) {n m : Nat} {cs : List Value} {h0' : Hp} (hl : lk h0' m = some (lentR n cs)) (hf : Fl cs) :
    GrIs ⟨fun nx => V (.slice (some ⟨nx, 0, none⟩) n (capBig + nx)), [lentR n cs]⟩ (V (.slice (some ⟨m, 0, none⟩) n (capBig + m))) h0' (fun _ => m) := by
  refine ⟨fun nx => hV _ _ _ (f2s_slice0 (g := fun _ => m) (by simp) n), fun j r hj => ?_, fun i j hi hj _ => ?_⟩
  · match j, hj with
    | 0, hj => cases hj; exact ⟨hf, rfl, (fun e => by cases e), hl⟩
  · simp at hi hj; omega
def emV : Tv := ⟨noTz, noXz, noL, fun _ => [], noSy, fun _ => [], fun _ => 0⟩
theorem sp_n  : runZ emV Try.prog 9 11 [.slice none 0 0] [] 1 [] =
  Res.ok ((Value.slice none (0 : Nat) (0 : Nat), [], (5 : Nat), []), [], []) := by kernel_rfl
theorem sp_e (xs : List Value) (c : Nat) : prjV (runZ emV Try.prog 9 11 [.slice (some ⟨0, 0, none⟩) 0 c] [(0, ⟨.old, xs⟩)] 1 []) =
  Res.ok (Value.slice none (0 : Nat) (0 : Nat), [], []) := by kernel_rfl
theorem cd_nn  : prjV (runZ emV Try.prog 9 12 [.slice none 0 0, .slice none 0 0] [] 2 []) =
  Res.ok (Value.tuple (Array.mk [Value.slice none (0 : Nat) (0 : Nat), Value.int IntKind.i64 (0 : Int)]), [], []) := by kernel_rfl
theorem cd_en (xs : List Value) (c : Nat) : prjV (runZ emV Try.prog 9 12 [.slice (some ⟨0, 0, none⟩) 0 c, .slice none 0 0] [(0, ⟨.old, xs⟩)] 2 []) =
  Res.ok (Value.tuple (Array.mk [Value.slice none (0 : Nat) (0 : Nat), Value.int IntKind.i64 (0 : Int)]), [], []) := by kernel_rfl
theorem cd_ne (ys : List Value) (d : Nat) : prjV (runZ emV Try.prog 9 12 [.slice none 0 0, .slice (some ⟨1, 0, none⟩) 0 d] [(1, ⟨.old, ys⟩)] 2 []) =
  Res.ok (Value.tuple (Array.mk [Value.slice none (0 : Nat) (0 : Nat), Value.int IntKind.i64 (0 : Int)]), [], []) := by kernel_rfl
theorem cd_ee (xs ys : List Value) (c d : Nat) : prjV (runZ emV Try.prog 9 12 [.slice (some ⟨0, 0, none⟩) 0 c, .slice (some ⟨1, 0, none⟩) 0 d] [(0, ⟨.old, xs⟩), (1, ⟨.old, ys⟩)] 2 []) =
  Res.ok (Value.tuple (Array.mk [Value.slice none (0 : Nat) (0 : Nat), Value.int IntKind.i64 (0 : Int)]), [], []) := by kernel_rfl
theorem sp_gok : GOk Try.prog 11 [.s 1] (gS sSp) := by
  have hX : XOkZ emV Try.prog := noXz_ok rfl
  have hT : TOkZ emV Try.prog := noTz_okV rfl
  have hL : LOkZ emV Try.prog := noL_okV rfl
  refine gS_ok (fun tp gr tp' ob hG ho => ?_) (fun xs n c tp gr tp' ob hG ho hfl hl0 hc => ?_)
  · unfold sSp at hG
    split at hG
    · simp only [Option.some.injEq, Prod.mk.injEq] at hG
      obtain ⟨rfl, rfl, rfl⟩ := hG
      exact ⟨_, _, _, _, fun n => n, run_tri hX hT hL sp_n (by simp [Alls]) rfl, GrIs.flat fun σ => rfl⟩
    · simp only [Option.some.injEq, Prod.mk.injEq] at hG
      obtain ⟨rfl, rfl, rfl⟩ := hG
      exact absurd ho.1 (by omega)
    · cases hG
  · unfold sSp at hG
    split at hG
    · simp only [Option.some.injEq, Prod.mk.injEq] at hG
      obtain ⟨rfl, rfl, rfl⟩ := hG
      obtain ⟨rfl, _⟩ := ho
      obtain ⟨h', nx', d, T⟩ := run_val hX hT hL (sp_e xs c) (by simp [Alls]) rfl
      exact ⟨_, _, _, _, fun n => n, T, GrIs.flat fun σ => rfl⟩
    · simp only [Option.some.injEq, Prod.mk.injEq] at hG
      obtain ⟨rfl, rfl, rfl⟩ := hG
      obtain ⟨h1, h2, h3, _⟩ := ho
      exact ⟨_, _, _, _, fun _ => 1, sp_tri (by omega) h1 h2 h3, GrIs.lent (V := id) (fun σ v v' h => h) rfl (spnCells_Fl _)⟩
    · cases hG
theorem cd_gok : GOk Try.prog 12 [.s 1, .s 1] (gSS sCd) := by
  have hX : XOkZ emV Try.prog := noXz_ok rfl
  have hT : TOkZ emV Try.prog := noTz_okV rfl
  have hL : LOkZ emV Try.prog := noL_okV rfl
  have key : ∀ {args : List Value} {h : Hp}, (∃ h' nx' d, Tri Try.prog 12 args h 2 (.tuple ⟨[.slice none 0 0, .int .i64 0]⟩, h', nx', d)) → Ran Try.prog 12 args h 2 ⟨fun _ => .tuple ⟨[.slice none 0 0, .int .i64 0]⟩, []⟩ := fun ⟨h', nx', d, T⟩ => ⟨_, _, _, _, fun n => n, T, GrIs.flat fun σ => rfl⟩
  refine gSS_ok (fun tp gr tp' ob hG ho => ?_) (fun xs n c tp gr tp' ob hG ho hf hl hc => ?_) (fun ys m d tp gr tp' ob hG ho hf hl hc => ?_) (fun xs n c ys m d tp gr tp' ob hG ho hf hl hc hf2 hl2 hc2 => ?_) <;> (
    unfold sCd at hG
    split at hG
    case h_3 => cases hG
    all_goals (simp only [Option.some.injEq, Prod.mk.injEq] at hG; obtain ⟨rfl, rfl, rfl⟩ := hG))
  · exact key (run_val hX hT hL cd_nn (by simp [Alls]) rfl)
  · exact absurd ho.1 (by omega)
  · obtain ⟨rfl, _⟩ := ho
    exact key (run_val hX hT hL (cd_en xs c) (by simp [Alls]) rfl)
  · have h1 := ho.1
    have h2 := ho.2.2.1
    omega
  · obtain ⟨_, rfl, _⟩ := ho
    exact key (run_val hX hT hL (cd_ne ys d) (by simp [Alls]) rfl)
  · exact absurd ho.1 (by omega)
  · obtain ⟨rfl, rfl, _⟩ := ho
    exact key (run_val hX hT hL (cd_ee xs ys c d) (by simp [Alls]) rfl)
  · obtain ⟨h1, h2, rfl, h3, h4, _⟩ := ho
    exact ⟨_, _, _, _, fun _ => 2, cd_tri (by omega) (by omega) h1 h2 h3 h4, GrIs.lent (V := fun v => .tuple ⟨[v, .int .i64 0]⟩) (fun σ v v' h => renV_tuple_mk (renL_mk h (renL_mk (by simp only [renV]) rfl))) rfl (Fl.ints _ _)⟩
end Go.Proofs.Ytmjmdjcgjmjigaa
