/-
  The program's Codes: the codes of a batch's records.
-/
import Derived.Test.YtmjmdjcgjmjigaaChainC
namespace Go.Proofs.Ytmjmdjcgjmjigaa
set_option linter.unusedSimpArgs false
set_option linter.unusedVariables false
set_option linter.unusedSectionVars false
open Go.ChangeShapes Go.WideShapes Go.ChangeAt Go.RowKit
attribute [local go_sem] Oper.semAt_some
def codeAt (at_ code i : Int) : Int := if at_ < 0 then 0 else if i = at_ then code else 1
def chunkV (own : List Int) (x : Spn) : List Int := (List.range (x.2.1 - x.1)).map fun j => codeAt (failedV own x).1 (failedV own x).2 ((x.1 + j : Nat) : Int)
def codesV (bs : List Bool) (own : List Int) : List Int := (spansOf bs).flatMap (chunkV own)
theorem spansFrom_bd : ∀ (bs : List Bool) (f i : Nat), f ≤ i → ∀ x ∈ spansFrom f i bs, x.1 ≤ x.2.1 ∧ x.2.1 ≤ i + bs.length
  | [], _, _, _, x, h => by simp [spansFrom] at h
  | [b], f, i, hf, x, h => by
      simp only [spansFrom, List.mem_singleton] at h
      subst h
      simp; omega
  | b :: c :: rest, f, i, hf, x, h => by
      simp only [spansFrom] at h
      split at h
      · have := spansFrom_bd (c :: rest) f (i + 1) (by omega) x h
        simp only [List.length_cons] at this ⊢
        omega
      · rcases List.mem_cons.1 h with rfl | h
        · simp; omega
        · have := spansFrom_bd (c :: rest) (i + 1) (i + 1) (Nat.le_refl _) x h
          simp only [List.length_cons] at this ⊢
          omega
abbrev SpnN (n : Nat) := { x : Spn // x.1 ≤ x.2.1 ∧ x.2.1 ≤ n }
def spnsN (bs : List Bool) (n : Nat) (h : bs.length = n) : List (SpnN n) := (spansOf bs).attach.map fun x => ⟨x.1, by have := spansFrom_bd bs 0 0 (Nat.le_refl _) x.1 x.2; omega⟩
theorem spnsN_val (bs : List Bool) (n : Nat) (h : bs.length = n) : (spnsN bs n h).map (·.1) = spansOf bs := by
  unfold spnsN
  rw [List.map_map]
  exact List.attach_map_subtype_val _
theorem chunkV_len (own : List Int) (x : Spn) : (chunkV own x).length = x.2.1 - x.1 := by simp [chunkV]
theorem chunks_len {n : Nat} (hn : n ≤ 1000) (own : List Int) : ∀ (l : List (SpnN n)), (l.flatMap fun x => chunkV own x.1).length ≤ l.length * 1000
  | [] => by simp
  | x :: l => by
      have h1 := chunks_len hn own l
      have h2 := chunkV_len own x.1
      have h3 := x.2
      simp only [List.flatMap_cons, List.length_append, List.length_cons]
      omega
theorem chunk_step (own : List Int) (f t : Nat) (o : Bool) (k : Nat) (h1 : f ≤ k) (h2 : k < t) : (chunkV own (f, t, o)).take (k + 1 - f) = (chunkV own (f, t, o)).take (k - f) ++ [codeAt (failedV own (f, t, o)).1 (failedV own (f, t, o)).2 (k : Int)] := by
  rw [show k + 1 - f = (k - f) + 1 by omega, List.take_succ_eq_append_getElem (by rw [chunkV_len]; simp only; omega)]
  congr 1
  simp only [chunkV, List.getElem_map, List.getElem_range, List.cons.injEq, and_true]
  rw [show f + (k - f) = k by omega]
theorem cells_snoc (k : IntKind) (l : List Int) (z : Int) : cellsOf k (l ++ [z]) = cellsOf k l ++ [.int k z] := by simp [cellsOf]
theorem cells_len (k : IntKind) (l : List Int) : (cellsOf k l).length = l.length * 1 := by simp [cellsOf]
theorem eiInt : EI Try.prog 23 3 1 8 := ei_of Try.underlying23 (z := .int .i64 0) (by kernel_rfl) rfl (by decide)
/-- What is given back: an own list of integers, and 0. -/
def RetOwn2 (W : World) (size : Nat) (xs : List Value) (z : Int) (e : Ending) (w' : World) : Prop := ∃ v R, e = .returned (.tuple #[v, .int .i64 z]) ∧ OwnV size xs v R ∧ St W w' R
set_option maxRecDepth 100000 in
set_option maxHeartbeats 4000000 in
theorem Codes_any (A B : Option Addr) (n c d : Nat) (bs : List Bool) (own : List Int) (hn : n ≤ 1000) (h1 : bs.length = n) (h2 : own.length = n) (W : World) (hs : Sl W A n 1 (boolCells bs)) (ht : Sl W B n 1 (cellsOf .i64 own)) :
    Calls Try.prog 12 #[.slice A n c, .slice B n d] W (RetOwn2 W 1 (cellsOf .i64 (codesV bs own)) 0) := by
  have hlenN : (spnsN bs n h1).length ≤ 1000 := by
    have := congrArg List.length (spnsN_val bs n h1)
    have h3 := spansFrom_len bs 0 0
    unfold spansOf at this
    simp only [List.length_map] at this
    omega
  have hcv : codesV bs own = (spnsN bs n h1).flatMap fun x => chunkV own x.1 := by
    unfold codesV
    rw [← spnsN_val bs n h1, List.flatMap_map]
  rw [hcv]
  clear hcv
  refine (callsIn_wide (n := 8)).1 (callsIn_of_wp_marks Try.func12 rfl trivial ?_)
  simp only [Try.ntmps12, List.size_toArray, List.length_cons, List.length_nil, Nat.reduceAdd, Nat.reduceSub, Array.replicate_succ, Array.replicate_zero, List.push_toArray, List.append_toArray, List.nil_append, List.cons_append]
  have hS := St.refl W
  (repeat' (first | ((with_reducible refine g_in ?_); refine opIn wide_wide rfl ?_) | (first | ((with_reducible refine g_box ?_); (refine s_box hS _ _ rfl _ (by (conv => lhs; whnf) <;> exact rfl) _ (by (conv => lhs; whnf) <;> exact rfl) ?_; clear hS; intro bw w_ hS hA_; (try replace hA := hA.trans hA_); clear hA_; (try simp only [Act.put, List.setIfInBounds_toArray, List.set_cons_zero, List.set_cons_succ]))) | ((with_reducible refine g_load ?_); (refine s_load1 0 hS _ _ rfl _ _ rfl _ rfl _ rfl (by kernel_rfl) ?_; (try simp only [Act.put, List.setIfInBounds_toArray, List.set_cons_zero, List.set_cons_succ]))) | ((with_reducible refine g_alloc ?_); (refine s_alloc hS 23 rfl (.slice none 0 0) (by kernel_rfl) [.slice none 0 0] rfl ?_; clear hS; intro b_ w_ hS hA_; (try replace hA := hA.trans hA_); clear hA_; (try simp only [Act.put, List.setIfInBounds_toArray, List.set_cons_zero, List.set_cons_succ])))) | go_values | gi_guarded | gi_step | go_step | gi_upon | go_upon | gi_back | dsimp only))
  refine (spans_in A n c _).mono ?_
  rintro e w2 ⟨rfl, rfl⟩
  replace hS := hS.alloc #[.slice A n c] 22
  obtain ⟨w2, hw2⟩ : ∃ w2, w_.alloc (.cells #[.slice A n c] 22) = w2 := ⟨_, rfl⟩
  obtain ⟨Bn, hBn⟩ : ∃ Bn, w_.heap.size = Bn := ⟨_, rfl⟩
  rw [hw2, hBn] at hS
  simp only [hw2, hBn]
  clear hw2 hBn
  (repeat' (first | ((with_reducible refine g_in ?_); refine opIn wide_wide rfl ?_) | fail | go_values | gi_guarded | gi_step | go_step | gi_upon | go_upon | gi_back | dsimp only))
  have hsz : W.heap.size ≤ w2.heap.size := hS.x.size
  have hmk := hs.ext hS.x
  have HL := Lib.hid hlenN
  refine wpIn_rangeFunc_ownH (F := Fence.wide) rfl (by omega) (gf := 42) (lb := #[.pointer (some ⟨Bn, 0, none⟩)]) rfl trivial (fun args w => run_enter (by kernel_rfl) args w)
    (spans_stops (fun x : SpnN n => x.1) (spnsN bs n h1) 7 (by omega) W.heap.size Bn A n c bs (spnsN_val bs n h1) hn h1 w2 (hS.cell 0 Bn 0 _ rfl _ rfl) (hS.lt 0 Bn _ rfl) hmk (fun h0 b off e => by obtain ⟨b', off', e', hb', _⟩ := hs.2 h0; rw [e] at e'; cases e'; exact hb') hsz)
    kpB_t (kpB_b hsz) (Below.refl _ _) (fun _ => rfl)
    (fun (pre : List (SpnN n)) W1 => ∃ v R, OwnV 1 (cellsOf .i64 (pre.flatMap fun (x : SpnN n) => chunkV own x.1)) v R ∧ St W W1 ((Bn, [.slice A n c]) :: (b_, [v]) :: (bw, [.slice B n d]) :: R))
    (fun _ _ _ => False)
    (fun s X Y row ⟨v, R, ho, h⟩ hg hr => ⟨v, R, ho, h.grown hsz hg hr⟩)
    (fun _ _ _ _ _ h _ _ => h)
    ⟨_, [], OwnV.nil 1, hS⟩
    (fun x a' W1 => ∃ Bx xs v R, a' = { tmps := #[.slice A n c, .slice B n d, undef, .pointer (some ⟨bw, 0, none⟩), .slice none 0 0, .int .i64 0, .pointer (some ⟨b_, 0, none⟩), .pointer (some ⟨Bx, 0, none⟩), undef, undef, undef, .slice A n c, .int .i64 (n : Int), .slice B n d, .int .i64 (n : Int), .bool false, .slice A n c, .func (.func 42) #[] #[.pointer (some ⟨Bn, 0, none⟩)],
        .agg #[.int .i64 (x.1.1 : Int), .int .i64 (x.1.2.1 : Int), .bool x.1.2.2], undef, undef, undef, undef, undef, undef, undef, undef, undef, undef, undef, undef, undef, undef, undef, undef, undef, undef, undef, undef, undef, undef, undef, undef, undef, undef, undef, undef, undef, undef, undef, undef], defers := [] } ∧
      OwnV 1 xs v R ∧ St W W1 ((Bx, [.int .i64 (x.1.1 : Int), .int .i64 (x.1.2.1 : Int), .bool x.1.2.2]) :: (Bn, [.slice A n c]) :: (b_, [v]) :: (bw, [.slice B n d]) :: R))
    (fun x a' s X Y row ⟨Bx, xs, v, R, e, ho, h⟩ hg hr => ⟨Bx, xs, v, R, e, ho, h.grown hsz hg hr⟩) ?assign ?body ?done ?stop
  case assign =>
    rintro l pre ⟨⟨xf, xt, xo⟩, hx⟩ W1 K ⟨v, R, ho, hS⟩ hK
    simp only [spnV]
    simp only [List.zip_toArray, List.zip_cons_cons, List.zip_nil_left, List.zip_nil_right, List.size_toArray, List.length_cons, List.length_nil, List.foldl_toArray, List.foldl_toArray', List.foldl_cons, List.foldl_nil, List.setIfInBounds_toArray, List.set_cons_succ, List.set_cons_zero]
    have hA := Adv.refl W W1
    have HK := Lib.hid hK
    clear hK
    (repeat' (first | ((with_reducible refine g_in ?_); refine opIn (wide_round _) rfl ?_) | (first | ((with_reducible refine g_alloc ?_); (refine s_alloc hS 31 rfl (.agg #[.int .i64 0, .int .i64 0, .bool false]) (by kernel_rfl) [.int .i64 0, .int .i64 0, .bool false] rfl ?_; clear hS; intro b_ w_ hS hA_; (try replace hA := hA.trans hA_); clear hA_; (try simp only [Act.put, List.setIfInBounds_toArray, List.set_cons_zero, List.set_cons_succ]))) | ((with_reducible refine g_store ?_); (refine s_storeN 0 hS 31 3 _ _ rfl _ _ rfl _ rfl rfl rfl _ rfl (by simp; done) (by kernel_rfl) _ (by (try simp only [List.take_succ_cons, List.take_zero, List.drop_succ_cons, List.drop_zero, List.set_cons_zero, List.set_cons_succ, splice]) <;> exact rfl) ?_; clear hS; intro w_ hS hA_; (try replace hA := hA.trans hA_); clear hA_; (try simp only [Act.put, List.setIfInBounds_toArray, List.set_cons_zero, List.set_cons_succ])))) | go_values | gi_guarded | gi_step | go_step | gi_upon | go_upon | gi_back | dsimp only))
    exact HK.out _ _ (hA.1.from _) ⟨hA.2, fun _ => hS.cell 1 Bn 0 _ rfl _ rfl⟩ ⟨v, R, ho, hS.tail⟩ ⟨_, _, v, R, rfl, ho, hS⟩
  case body =>
    rintro l pre ⟨⟨xf, xt, xo⟩, hx1, hx2⟩ a' W1 hl ⟨r, hr⟩ ⟨v0, R0, ho0, hS0⟩ ⟨Bx, xs, v, R, rfl, ho, hS⟩ hlen
    have hv : v0 = v := by
      have e1 := hS0.cell 1 b_ 0 _ rfl _ rfl
      have e2 := hS.cell 2 b_ 0 _ rfl _ rfl
      rw [e1] at e2
      exact Option.some.inj e2
    subst hv
    have hxs : xs = cellsOf .i64 (pre.flatMap fun x => chunkV own x.1) := own_unique ho ho0 (fun p hp => (hS.2.1 p (by simp [hp])).2) (fun p hp => (hS0.2.1 p (by simp [hp])).2)
    subst hxs
    clear ho0 hS0 hr
    have hA := Adv.refl W W1
    have hlen' : (pre.flatMap fun x => chunkV own x.1).length ≤ 1000000 := by
      have := chunks_len hn own pre
      have := HL.out
      omega
    clear hlen
    simp only at hS hx1 hx2 ⊢
    have HF := Lib.hid (fun w h => failed_any xf xt xo B n d own hn h2 hx1 hx2 w h)
    have HCS := Lib.hid (fun k h1 h2 => chunk_step own xf xt xo k h1 h2)
    have hclen := chunkV_len own (xf, xt, xo)
    have HCL : Hid ((pre ++ [(⟨(xf, xt, xo), hx1, hx2⟩ : SpnN n)]).flatMap (fun x => chunkV own x.1) = (pre.flatMap fun x => chunkV own x.1) ++ (chunkV own (xf, xt, xo)).take (xt - xf)) := by
      show _ = _
      rw [List.take_of_length_le (by rw [hclen]; exact Nat.le_refl _)]
      simp
    clear hclen
    generalize (failedV own (xf, xt, xo)).1 = at_ at HF HCS
    generalize (failedV own (xf, xt, xo)).2 = code at HF HCS
    generalize (pre.flatMap fun x => chunkV own x.1) = base at *
    generalize chunkV own (xf, xt, xo) = ch at *
    (repeat' (first | ((with_reducible refine g_in ?_); refine opIn (wide_round _) rfl ?_) | (first | ((with_reducible refine g_load ?_); (refine s_loadN 0 hS 31 3 _ rfl _ _ rfl _ rfl _ (by (try simp only [List.take_succ_cons, List.take_zero, List.drop_succ_cons, List.drop_zero, List.set_cons_zero, List.set_cons_succ, splice]) <;> exact rfl) rfl (by kernel_rfl) (by kernel_rfl) ?_; (try simp only [Act.put, List.setIfInBounds_toArray, List.set_cons_zero, List.set_cons_succ]))) | ((with_reducible refine g_load ?_); (refine s_load1 3 hS _ _ rfl _ _ rfl _ rfl _ rfl (by kernel_rfl) ?_; (try simp only [Act.put, List.setIfInBounds_toArray, List.set_cons_zero, List.set_cons_succ]))) | ((with_reducible refine g_load ?_); (refine s_load1 0 hS _ _ rfl _ _ rfl _ rfl _ rfl (by kernel_rfl) ?_; (try simp only [Act.put, List.setIfInBounds_toArray, List.set_cons_zero, List.set_cons_succ])))) | go_values | gi_guarded | gi_step | go_step | gi_upon | go_upon | gi_back | dsimp only))
    (go_at_call 36; refine ((HF.out _ (ht.ext hS.x))).mono ?_; rintro e w_ ⟨rfl, hx_⟩; (try replace hA := hA.trans (Adv.of_ext hS.x hx_)); replace hS := hS.ext hx_; clear hx_)
    (repeat' (first | ((with_reducible refine g_in ?_); refine opIn (wide_round _) rfl ?_) | (first | ((with_reducible refine g_load ?_); (refine s_loadN 0 hS 31 3 _ rfl _ _ rfl _ rfl _ (by (try simp only [List.take_succ_cons, List.take_zero, List.drop_succ_cons, List.drop_zero, List.set_cons_zero, List.set_cons_succ, splice]) <;> exact rfl) rfl (by kernel_rfl) (by kernel_rfl) ?_; (try simp only [Act.put, List.setIfInBounds_toArray, List.set_cons_zero, List.set_cons_succ]))) | ((with_reducible refine g_load ?_); (refine s_load1 3 hS _ _ rfl _ _ rfl _ rfl _ rfl (by kernel_rfl) ?_; (try simp only [Act.put, List.setIfInBounds_toArray, List.set_cons_zero, List.set_cons_succ]))) | ((with_reducible refine g_load ?_); (refine s_load1 0 hS _ _ rfl _ _ rfl _ rfl _ rfl (by kernel_rfl) ?_; (try simp only [Act.put, List.setIfInBounds_toArray, List.set_cons_zero, List.set_cons_succ])))) | go_values | gi_guarded | gi_step | go_step | gi_upon | go_upon | gi_back | dsimp only))
    gi_loopw [10] (fun i wr => ∃ k v R, i = .int .i64 ((k : Nat) : Int) ∧ xf ≤ k ∧ k ≤ xt ∧ OwnV 1 (cellsOf .i64 (base ++ ch.take (k - xf))) v R ∧ St W wr ((Bx, [.int .i64 (xf : Int), .int .i64 (xt : Int), .bool xo]) :: (Bn, [.slice A n c]) :: (b_, [v]) :: (bw, [.slice B n d]) :: R) ∧ Adv W W1 wr)
      (fun i _ => xt - (intOf i).toNat)
    case atStart => exact ⟨xf, v0, R, rfl, by omega, hx1, by rw [Nat.sub_self, List.take_zero, List.append_nil]; exact ho, hS, hA⟩
    case round =>
      clear hS hA ho
      obtain ⟨k, v, R, rfl, hk1, hk2, ho, hS, hA⟩ := hrel
      have hk3 : k ≤ 1000 := by omega
      by_cases hlt : k < xt
      · have hstep := HCS.out k hk1 hlt
        have HST := Lib.hid hstep
        have hl1 : (base ++ ch.take (k - xf)).length ≤ 1001000 := by simp only [List.length_append, List.length_take]; omega
        clear hstep
        by_cases ha : at_ < 0
        · have HV : Hid (codeAt at_ code (k : Int) = 0) := if_pos ha
          (repeat' (first | ((with_reducible refine g_in ?_); refine opIn (wide_round _) rfl ?_) | (first | ((with_reducible refine g_load ?_); (refine s_load1 2 hS _ _ rfl _ _ rfl _ rfl _ rfl (by kernel_rfl) ?_; (try simp only [Act.put, List.setIfInBounds_toArray, List.set_cons_zero, List.set_cons_succ]))) | ((with_reducible refine g_load ?_); (refine s_load1 0 hS _ _ rfl _ _ rfl _ rfl _ rfl (by kernel_rfl) ?_; (try simp only [Act.put, List.setIfInBounds_toArray, List.set_cons_zero, List.set_cons_succ]))) | ((with_reducible refine g_mk ?_); (refine s_mk (n := 1) (cs := [.int .i64 0]) (e := 3) hS (fun w => by go_simp; first | done | exact rfl) ?_; clear hS; intro b_ w_ hS hA_; (try replace hA := hA.trans hA_); clear hA_; (try simp only [Act.put, List.setIfInBounds_toArray, List.set_cons_zero, List.set_cons_succ]))) | ((with_reducible refine g_append ?_); (refine s_app 5 hS rfl ho _ _ eiInt _ _ rfl rfl 0 _ 1 _ rfl _ rfl rfl rfl (by decide) ((base ++ ch.take (k - xf)).length) (cells_len _ _) (by omega) (by omega) ?_; clear hS; intro v_ R_ w_ ho_ hS hA_; (try replace hA := hA.trans hA_); clear hA_; obtain ⟨A_, n_, c_, rfl, hl_, hnc_, hcm_⟩ := ho_.form (by decide); simp only [List.take_succ_cons, List.take_zero, List.cons_append, List.nil_append] at hS; (try simp only [Act.put, List.setIfInBounds_toArray, List.set_cons_zero, List.set_cons_succ]))) | ((with_reducible refine g_store ?_); (refine s_store1 3 hS _ _ _ rfl _ _ rfl _ (by (conv => lhs; whnf) <;> exact rfl) rfl _ rfl (by simp; done) (by kernel_rfl) _ (by (try simp only [List.take_succ_cons, List.take_zero, List.drop_succ_cons, List.drop_zero, List.set_cons_zero, List.set_cons_succ, splice]) <;> exact rfl) ?_; clear hS; intro w_ hS hA_; (try replace hA := hA.trans hA_); clear hA_; (try simp only [Act.put, List.setIfInBounds_toArray, List.set_cons_zero, List.set_cons_succ])))) | go_values | gi_guarded | gi_step | go_step | gi_upon | go_upon | gi_back | dsimp only))
          refine ⟨⟨k + 1, _, R_, by go_num, by omega, by omega, ?_, hS.tail, hA⟩, by simp [intOf]; omega⟩
          rw [HST.out, HV.out, ← List.append_assoc, cells_snoc]; exact ho_
        · have ha' : decide (at_ < 0) = false := by simpa using ha
          by_cases hb : (k : Int) = at_
          · have HV : Hid (codeAt at_ code (k : Int) = code) := by show _ = _; rw [codeAt, if_neg ha, if_pos hb]
            have hb' : ((k : Int) == at_) = true := by simpa using hb
            clear hb ha
            (repeat' (first | ((with_reducible refine g_in ?_); refine opIn (wide_round _) rfl ?_) | (first | ((with_reducible refine g_load ?_); (refine s_load1 2 hS _ _ rfl _ _ rfl _ rfl _ rfl (by kernel_rfl) ?_; (try simp only [Act.put, List.setIfInBounds_toArray, List.set_cons_zero, List.set_cons_succ]))) | ((with_reducible refine g_load ?_); (refine s_load1 0 hS _ _ rfl _ _ rfl _ rfl _ rfl (by kernel_rfl) ?_; (try simp only [Act.put, List.setIfInBounds_toArray, List.set_cons_zero, List.set_cons_succ]))) | ((with_reducible refine g_mk ?_); (refine s_mk (n := 1) (cs := [.int .i64 code]) (e := 3) hS (fun w => by go_simp; first | done | exact rfl) ?_; clear hS; intro b_ w_ hS hA_; (try replace hA := hA.trans hA_); clear hA_; (try simp only [Act.put, List.setIfInBounds_toArray, List.set_cons_zero, List.set_cons_succ]))) | ((with_reducible refine g_append ?_); (refine s_app 5 hS rfl ho _ _ eiInt _ _ rfl rfl 0 _ 1 _ rfl _ rfl rfl rfl (by decide) ((base ++ ch.take (k - xf)).length) (cells_len _ _) (by omega) (by omega) ?_; clear hS; intro v_ R_ w_ ho_ hS hA_; (try replace hA := hA.trans hA_); clear hA_; obtain ⟨A_, n_, c_, rfl, hl_, hnc_, hcm_⟩ := ho_.form (by decide); simp only [List.take_succ_cons, List.take_zero, List.cons_append, List.nil_append] at hS; (try simp only [Act.put, List.setIfInBounds_toArray, List.set_cons_zero, List.set_cons_succ]))) | ((with_reducible refine g_store ?_); (refine s_store1 3 hS _ _ _ rfl _ _ rfl _ (by (conv => lhs; whnf) <;> exact rfl) rfl _ rfl (by simp; done) (by kernel_rfl) _ (by (try simp only [List.take_succ_cons, List.take_zero, List.drop_succ_cons, List.drop_zero, List.set_cons_zero, List.set_cons_succ, splice]) <;> exact rfl) ?_; clear hS; intro w_ hS hA_; (try replace hA := hA.trans hA_); clear hA_; (try simp only [Act.put, List.setIfInBounds_toArray, List.set_cons_zero, List.set_cons_succ])))) | go_values | gi_guarded | gi_step | go_step | gi_upon | go_upon | gi_back | dsimp only))
            refine ⟨⟨k + 1, _, R_, by go_num, by omega, by omega, ?_, hS.tail, hA⟩, by simp [intOf]; omega⟩
            rw [HST.out, HV.out, ← List.append_assoc, cells_snoc]; exact ho_
          · have HV : Hid (codeAt at_ code (k : Int) = 1) := by show _ = _; rw [codeAt, if_neg ha, if_neg hb]
            have hb' : ((k : Int) == at_) = false := by simpa using hb
            clear hb ha
            (repeat' (first | ((with_reducible refine g_in ?_); refine opIn (wide_round _) rfl ?_) | (first | ((with_reducible refine g_load ?_); (refine s_load1 2 hS _ _ rfl _ _ rfl _ rfl _ rfl (by kernel_rfl) ?_; (try simp only [Act.put, List.setIfInBounds_toArray, List.set_cons_zero, List.set_cons_succ]))) | ((with_reducible refine g_load ?_); (refine s_load1 0 hS _ _ rfl _ _ rfl _ rfl _ rfl (by kernel_rfl) ?_; (try simp only [Act.put, List.setIfInBounds_toArray, List.set_cons_zero, List.set_cons_succ]))) | ((with_reducible refine g_mk ?_); (refine s_mk (n := 1) (cs := [.int .i64 1]) (e := 3) hS (fun w => by go_simp; first | done | exact rfl) ?_; clear hS; intro b_ w_ hS hA_; (try replace hA := hA.trans hA_); clear hA_; (try simp only [Act.put, List.setIfInBounds_toArray, List.set_cons_zero, List.set_cons_succ]))) | ((with_reducible refine g_append ?_); (refine s_app 5 hS rfl ho _ _ eiInt _ _ rfl rfl 0 _ 1 _ rfl _ rfl rfl rfl (by decide) ((base ++ ch.take (k - xf)).length) (cells_len _ _) (by omega) (by omega) ?_; clear hS; intro v_ R_ w_ ho_ hS hA_; (try replace hA := hA.trans hA_); clear hA_; obtain ⟨A_, n_, c_, rfl, hl_, hnc_, hcm_⟩ := ho_.form (by decide); simp only [List.take_succ_cons, List.take_zero, List.cons_append, List.nil_append] at hS; (try simp only [Act.put, List.setIfInBounds_toArray, List.set_cons_zero, List.set_cons_succ]))) | ((with_reducible refine g_store ?_); (refine s_store1 3 hS _ _ _ rfl _ _ rfl _ (by (conv => lhs; whnf) <;> exact rfl) rfl _ rfl (by simp; done) (by kernel_rfl) _ (by (try simp only [List.take_succ_cons, List.take_zero, List.drop_succ_cons, List.drop_zero, List.set_cons_zero, List.set_cons_succ, splice]) <;> exact rfl) ?_; clear hS; intro w_ hS hA_; (try replace hA := hA.trans hA_); clear hA_; (try simp only [Act.put, List.setIfInBounds_toArray, List.set_cons_zero, List.set_cons_succ])))) | go_values | gi_guarded | gi_step | go_step | gi_upon | go_upon | gi_back | dsimp only))
            refine ⟨⟨k + 1, _, R_, by go_num, by omega, by omega, ?_, hS.tail, hA⟩, by simp [intOf]; omega⟩
            rw [HST.out, HV.out, ← List.append_assoc, cells_snoc]; exact ho_
      · have hkt : k = xt := by omega
        have HE : Hid (OwnV 1 (cellsOf .i64 (base ++ ch.take (xt - xf))) v R) := by show OwnV _ _ _ _; rw [← hkt]; exact ho
        clear ho
        (repeat' (first | ((with_reducible refine g_in ?_); refine opIn (wide_round _) rfl ?_) | ((with_reducible refine g_load ?_); (refine s_load1 0 hS _ _ rfl _ _ rfl _ rfl _ rfl (by kernel_rfl) ?_; (try simp only [Act.put, List.setIfInBounds_toArray, List.set_cons_zero, List.set_cons_succ]))) | go_values | gi_guarded | gi_step | go_step | gi_upon | go_upon | gi_back | dsimp only))
        exact ⟨hA.1.from _, ⟨hA.2, fun _ => hS.cell 1 Bn 0 _ rfl _ rfl⟩, v, R, by rw [HCL.out]; exact HE.out, hS.tail⟩
  case done =>
    rintro D ys W1 hD rfl ⟨v, R, ho, hS⟩ hK
    (repeat' (first | ((with_reducible refine g_in ?_); refine opIn wide_wide rfl ?_) | ((with_reducible refine g_load ?_); (refine s_load1 1 hS _ _ rfl _ _ rfl _ rfl _ rfl (by kernel_rfl) ?_; (try simp only [Act.put, List.setIfInBounds_toArray, List.set_cons_zero, List.set_cons_succ]))) | go_values | gi_guarded | gi_step | go_step | gi_upon | go_upon | gi_back | dsimp only))
    refine ⟨by simp, .inl ⟨_, _, rfl, run_takeDeferred hK, ?_⟩⟩
    refine ⟨.tuple #[v, .int .i64 0], by simp [results, Try.results12, go_sem], v, R, rfl, ho, ?_⟩
    exact (hS.tail.tail.tail).grown (Nat.le_refl _) (grownBy_putObj' W1 D (.deferred none)) (fun r e => by cases e; exact ⟨Nat.le_trans hsz hD, _, hK, rfl⟩)
  case stop =>
    rintro D c pre W1 hD hpre hF hK
    exact hF.elim
end Go.Proofs.Ytmjmdjcgjmjigaa
