/-
  The program's Spans: a batch's chains as a list.
-/
import Derived.Test.YtmjmdjcgjmjigaaChainA
namespace Go.Proofs.Ytmjmdjcgjmjigaa
set_option linter.unusedSimpArgs false
set_option linter.unusedVariables false
set_option linter.unusedSectionVars false
open Go.ChangeShapes Go.WideShapes Go.ChangeAt Go.RowKit
attribute [local go_sem] Oper.semAt_some
/-- What is given back: an own list with the cells xs. -/
def RetOwn (W : World) (size : Nat) (xs : List Value) (e : Ending) (w' : World) : Prop := ∃ v R, e = .returned v ∧ OwnV size xs v R ∧ St W w' R
def spnCells (l : List Spn) : List Value := l.flatMap fun x => [.int .i64 (x.1 : Int), .int .i64 (x.2.1 : Int), .bool x.2.2]
theorem spnCells_snoc (l : List Spn) (x : Spn) : spnCells (l ++ [x]) = spnCells l ++ [.int .i64 (x.1 : Int), .int .i64 (x.2.1 : Int), .bool x.2.2] := by simp [spnCells]
theorem spnCells_len (l : List Spn) : (spnCells l).length = l.length * 3 := by
  induction l with
  | nil => rfl
  | cons x l ih => simp only [spnCells, List.flatMap_cons, List.length_append, List.length_cons, List.length_nil] at ih ⊢; omega
theorem spansFrom_len : ∀ (bs : List Bool) (f i : Nat), (spansFrom f i bs).length ≤ bs.length
  | [], _, _ => by simp [spansFrom]
  | [b], _, _ => by simp [spansFrom]
  | b :: c :: rest, f, i => by
      have h1 := spansFrom_len (c :: rest) f (i + 1)
      have h2 := spansFrom_len (c :: rest) (i + 1) (i + 1)
      simp only [spansFrom]
      split <;> simp_all <;> omega
theorem eiSpan : EI Try.prog 25 31 3 24 := ei_of Try.underlying25 (z := .agg #[.int .i64 0, .int .i64 0, .bool false]) (by kernel_rfl) rfl (by decide)
set_option maxRecDepth 100000 in
set_option maxHeartbeats 2000000 in
theorem Spans_any (A : Option Addr) (n c : Nat) (bs : List Bool) (hn : n ≤ 1000) (h1 : bs.length = n) (W : World) (hs : Sl W A n 1 (boolCells bs)) :
    Calls Try.prog 11 #[.slice A n c] W (RetOwn W 3 (spnCells (spansOf bs))) := by
  refine (callsIn_wide (n := 8)).1 (callsIn_of_wp_marks Try.func11 rfl trivial ?_)
  simp only [Try.ntmps11, List.size_toArray, List.length_cons, List.length_nil, Nat.reduceAdd, Nat.reduceSub, Array.replicate_succ, Array.replicate_zero, List.push_toArray, List.append_toArray, List.nil_append, List.cons_append]
  have hS := St.refl W
  (repeat' (first | ((with_reducible refine g_in ?_); refine opIn wide_wide rfl ?_) | ((with_reducible refine g_alloc ?_); (refine s_alloc hS 25 rfl (.slice none 0 0) (by kernel_rfl) [.slice none 0 0] rfl ?_; clear hS; intro b_ w_ hS hA_; (try replace hA := hA.trans hA_); clear hA_; (try simp only [Act.put, List.setIfInBounds_toArray, List.set_cons_zero, List.set_cons_succ]))) | go_values | gi_guarded | gi_step | go_step | gi_upon | go_upon | gi_back | dsimp only))
  refine (spans_in A n c _).mono ?_
  rintro e w2 ⟨rfl, rfl⟩
  replace hS := hS.alloc #[.slice A n c] 22
  obtain ⟨w2, hw2⟩ : ∃ w2, w_.alloc (.cells #[.slice A n c] 22) = w2 := ⟨_, rfl⟩
  obtain ⟨Bn, hBn⟩ : ∃ Bn, w_.heap.size = Bn := ⟨_, rfl⟩
  rw [hw2, hBn] at hS
  simp only [hw2, hBn]
  clear hw2 hBn
  (repeat' (first | ((with_reducible refine g_in ?_); refine opIn wide_wide rfl ?_) | fail | go_values | gi_guarded | gi_step | go_step | gi_upon | go_upon | gi_back | dsimp only))
  have hsz : W.heap.size ≤ w2.heap.size := hS.x.size
  have hmk := hs.ext hS.x
  refine wpIn_rangeFunc_ownH (F := Fence.wide) rfl (by omega) (gf := 42) (lb := #[.pointer (some ⟨Bn, 0, none⟩)]) rfl trivial (fun args w => run_enter (by kernel_rfl) args w)
    (spans_stops (fun x : Spn => x) (spansOf bs) 7 (by omega) W.heap.size Bn A n c bs (List.map_id' _) hn h1 w2 (hS.cell 0 Bn 0 _ rfl _ rfl) (hS.lt 0 Bn _ rfl) hmk (fun h0 b off e => by obtain ⟨b', off', e', hb', _⟩ := hs.2 h0; rw [e] at e'; cases e'; exact hb') hsz)
    kpB_t (kpB_b hsz) (Below.refl _ _) (fun _ => rfl)
    (fun pre W1 => ∃ v R, OwnV 3 (spnCells pre) v R ∧ St W W1 ((Bn, [.slice A n c]) :: (b_, [v]) :: R))
    (fun _ _ _ => False)
    (fun s X Y row ⟨v, R, ho, h⟩ hg hr => ⟨v, R, ho, h.grown hsz hg hr⟩)
    (fun _ _ _ _ _ h _ _ => h)
    ⟨_, [], OwnV.nil 3, hS⟩
    (fun x a' W1 => ∃ Bx xs v R, a' = { tmps := #[.slice A n c, undef, .slice none 0 0, .pointer (some ⟨b_, 0, none⟩), .pointer (some ⟨Bx, 0, none⟩), .slice A n c, .func (.func 42) #[] #[.pointer (some ⟨Bn, 0, none⟩)], .agg #[.int .i64 (x.1 : Int), .int .i64 (x.2.1 : Int), .bool x.2.2], undef, undef, undef, undef, undef], defers := [] } ∧
      OwnV 3 xs v R ∧ St W W1 ((Bx, [.int .i64 (x.1 : Int), .int .i64 (x.2.1 : Int), .bool x.2.2]) :: (Bn, [.slice A n c]) :: (b_, [v]) :: R))
    (fun x a' s X Y row ⟨Bx, xs, v, R, e, ho, h⟩ hg hr => ⟨Bx, xs, v, R, e, ho, h.grown hsz hg hr⟩) ?assign ?body ?done ?stop
  case assign =>
    rintro l pre ⟨xf, xt, xo⟩ W1 K ⟨v, R, ho, hS⟩ hK
    simp only [spnV]
    simp only [List.zip_toArray, List.zip_cons_cons, List.zip_nil_left, List.zip_nil_right, List.size_toArray, List.length_cons, List.length_nil, List.foldl_toArray, List.foldl_toArray', List.foldl_cons, List.foldl_nil, List.setIfInBounds_toArray, List.set_cons_succ, List.set_cons_zero]
    have hA := Adv.refl W W1
    have HK := Lib.hid hK
    clear hK
    (repeat' (first | ((with_reducible refine g_in ?_); refine opIn (wide_round _) rfl ?_) | (first | ((with_reducible refine g_alloc ?_); (refine s_alloc hS 31 rfl (.agg #[.int .i64 0, .int .i64 0, .bool false]) (by kernel_rfl) [.int .i64 0, .int .i64 0, .bool false] rfl ?_; clear hS; intro b_ w_ hS hA_; (try replace hA := hA.trans hA_); clear hA_; (try simp only [Act.put, List.setIfInBounds_toArray, List.set_cons_zero, List.set_cons_succ]))) | ((with_reducible refine g_store ?_); (refine s_storeN 0 hS 31 3 _ _ rfl _ _ rfl _ rfl rfl rfl _ rfl (by simp; done) (by kernel_rfl) _ (by (try simp only [List.take_succ_cons, List.take_zero, List.drop_succ_cons, List.drop_zero, List.set_cons_zero, List.set_cons_succ, splice]) <;> exact rfl) ?_; clear hS; intro w_ hS hA_; (try replace hA := hA.trans hA_); clear hA_; (try simp only [Act.put, List.setIfInBounds_toArray, List.set_cons_zero, List.set_cons_succ])))) | go_values | gi_guarded | gi_step | go_step | gi_upon | go_upon | gi_back | dsimp only))
    exact HK.out _ _ (hA.1.from _) ⟨hA.2, fun _ => hS.cell 1 Bn 0 _ rfl _ rfl⟩ ⟨v, R, ho, hS.tail⟩ ⟨_, _, v, R, rfl, ho, hS⟩
  case body =>
    rintro l pre ⟨xf, xt, xo⟩ a' W1 hl ⟨r, hr⟩ ⟨v0, R0, ho0, hS0⟩ ⟨Bx, xs, v, R, rfl, ho, hS⟩ hlen
    have hv : v0 = v := by
      have e1 := hS0.cell 1 b_ 0 _ rfl _ rfl
      have e2 := hS.cell 2 b_ 0 _ rfl _ rfl
      rw [e1] at e2
      exact Option.some.inj e2
    subst hv
    have hxs : xs = spnCells pre := own_unique ho ho0 (fun p hp => (hS.2.1 p (by simp [hp])).2) (fun p hp => (hS0.2.1 p (by simp [hp])).2)
    subst hxs
    clear ho0 hS0 hr
    have hA := Adv.refl W W1
    have hlen' : pre.length < 1000 := Nat.lt_of_lt_of_le hlen (Nat.le_trans (spansFrom_len bs 0 0) (by omega))
    clear hlen
    simp only at hS ⊢
    (repeat' (first | ((with_reducible refine g_in ?_); refine opIn (wide_round _) rfl ?_) | (first | ((with_reducible refine g_load ?_); (refine s_loadN 0 hS 31 3 _ rfl _ _ rfl _ rfl _ (by (try simp only [List.take_succ_cons, List.take_zero, List.drop_succ_cons, List.drop_zero, List.set_cons_zero, List.set_cons_succ, splice]) <;> exact rfl) rfl (by kernel_rfl) (by kernel_rfl) ?_; (try simp only [Act.put, List.setIfInBounds_toArray, List.set_cons_zero, List.set_cons_succ]))) | ((with_reducible refine g_load ?_); (refine s_load1 2 hS _ _ rfl _ _ rfl _ rfl _ rfl (by kernel_rfl) ?_; (try simp only [Act.put, List.setIfInBounds_toArray, List.set_cons_zero, List.set_cons_succ]))) | ((with_reducible refine g_mk ?_); (refine s_mk (n := 1) (cs := [.int .i64 (xf : Int), .int .i64 (xt : Int), .bool xo]) (e := 31) hS (fun w => by go_simp; first | done | exact rfl) ?_; clear hS; intro b_ w_ hS hA_; (try replace hA := hA.trans hA_); clear hA_; (try simp only [Act.put, List.setIfInBounds_toArray, List.set_cons_zero, List.set_cons_succ]))) | ((with_reducible refine g_append ?_); (refine s_app 4 hS rfl ho _ _ eiSpan _ _ rfl rfl 0 _ 1 _ rfl _ rfl rfl rfl (by decide) (pre.length) (spnCells_len pre) (by omega) (by omega) ?_; clear hS; intro v_ R_ w_ ho_ hS hA_; (try replace hA := hA.trans hA_); clear hA_; obtain ⟨A_, n_, c_, rfl, hl_, hnc_, hcm_⟩ := ho_.form (by decide); simp only [List.take_succ_cons, List.take_zero, List.cons_append, List.nil_append] at hS; (try simp only [Act.put, List.setIfInBounds_toArray, List.set_cons_zero, List.set_cons_succ]))) | ((with_reducible refine g_store ?_); (refine s_store1 3 hS _ _ _ rfl _ _ rfl _ (by (conv => lhs; whnf) <;> exact rfl) rfl _ rfl (by simp; done) (by kernel_rfl) _ (by (try simp only [List.take_succ_cons, List.take_zero, List.drop_succ_cons, List.drop_zero, List.set_cons_zero, List.set_cons_succ, splice]) <;> exact rfl) ?_; clear hS; intro w_ hS hA_; (try replace hA := hA.trans hA_); clear hA_; (try simp only [Act.put, List.setIfInBounds_toArray, List.set_cons_zero, List.set_cons_succ])))) | go_values | gi_guarded | gi_step | go_step | gi_upon | go_upon | gi_back | dsimp only))
    refine ⟨hA.1.from _, ⟨hA.2, fun _ => hS.cell 2 Bn 0 _ rfl _ rfl⟩, _, R_, by rw [spnCells_snoc]; exact ho_, hS.tail.tail⟩
  case done =>
    rintro D ys W1 hD rfl ⟨v, R, ho, hS⟩ hK
    (repeat' (first | ((with_reducible refine g_in ?_); refine opIn wide_wide rfl ?_) | ((with_reducible refine g_load ?_); (refine s_load1 1 hS _ _ rfl _ _ rfl _ rfl _ rfl (by kernel_rfl) ?_; (try simp only [Act.put, List.setIfInBounds_toArray, List.set_cons_zero, List.set_cons_succ]))) | go_values | gi_guarded | gi_step | go_step | gi_upon | go_upon | gi_back | dsimp only))
    refine ⟨by simp, .inl ⟨_, _, rfl, run_takeDeferred hK, ?_⟩⟩
    refine ⟨_, results_tmp rfl _ _ _, v, R, rfl, ho, ?_⟩
    exact (hS.tail.tail).grown (Nat.le_refl _) (grownBy_putObj' W1 D (.deferred none)) (fun r e => by cases e; exact ⟨Nat.le_trans hsz hD, _, hK, rfl⟩)
  case stop =>
    rintro D c pre W1 hD hpre hF hK
    exact hF.elim
end Go.Proofs.Ytmjmdjcgjmjigaa
