/-
  The iterator over a batch's chains.
-/
import Derived.Test.YtmjmdjcgjmjigaaRows
import Derived.Test.YtmjmdjcgjmjigaaRound
import Derived.LoopIn
import Derived.LoopNIn
import Derived.OwnWalkIn
import Derived.TacticsInMore
import Derived.WalkKit
namespace Go.Proofs.Ytmjmdjcgjmjigaa
set_option linter.unusedSimpArgs false
set_option linter.unusedVariables false
set_option linter.unusedSectionVars false
open Go.ChangeShapes Go.WideShapes Go.ChangeAt Go.RowKit
attribute [local go_sem] Oper.semAt_some

/-- A chain: from, to, open. -/
abbrev Spn := Nat × Nat × Bool
def spansFrom (f i : Nat) : List Bool → List Spn
  | [] => []
  | [b] => [(f, i + 1, b)]
  | b :: c :: rest => if b then spansFrom f (i + 1) (c :: rest) else (f, i + 1, b) :: spansFrom (i + 1) (i + 1) (c :: rest)
def spansOf (bs : List Bool) : List Spn := spansFrom 0 0 bs
def spnV (x : Spn) : Value := .agg #[.int .i64 (x.1 : Int), .int .i64 (x.2.1 : Int), .bool x.2.2]
def boolCells (bs : List Bool) : List Value := bs.map Value.bool
theorem boolCells_getD {bs : List Bool} {i : Nat} (h : i < bs.length) : (boolCells bs).getD i undef = .bool (bs.getD i false) := by simp [boolCells, h]
theorem spansFrom_skip (f k : Nat) (bs : List Bool) (h : k + 1 < bs.length) (hb : bs.getD k false = true) : spansFrom f k (bs.drop k) = spansFrom f (k + 1) (bs.drop (k + 1)) := by
  rw [List.drop_eq_getElem_cons (by omega : k < bs.length), List.drop_eq_getElem_cons h]
  have : bs[k]'(by omega) = true := by simpa [List.getD, List.getElem?_eq_getElem (by omega : k < bs.length)] using hb
  simp [spansFrom, this]
theorem spansFrom_cut (f k : Nat) (bs : List Bool) (h : k < bs.length) (hb : bs.getD k false = false ∨ k + 1 = bs.length) : spansFrom f k (bs.drop k) = (f, k + 1, bs.getD k false) :: spansFrom (k + 1) (k + 1) (bs.drop (k + 1)) := by
  have e : bs.getD k false = bs[k]'h := by simp [List.getD, List.getElem?_eq_getElem h]
  rw [List.drop_eq_getElem_cons h, e]
  rcases Nat.lt_or_ge (k + 1) bs.length with h1 | h1
  · rw [List.drop_eq_getElem_cons h1]
    have : bs[k]'h = false := by
      rw [← e]
      rcases hb with hb | hb
      · exact hb
      · omega
    simp [spansFrom, this]
  · rw [List.drop_eq_nil_of_le h1]
    simp [spansFrom]
set_option maxHeartbeats 2000000 in
theorem spans1_in (m : Nat) (hm : 1 ≤ m) (l n₀ Bn : Nat) (A : Option Addr) (n c : Nat) (bs : List Bool) (hn : n ≤ 1000) (h1 : bs.length = n) (J Jx : List Spn → World → Prop)
    (hY : ∀ pre x W, J pre W → (pre ++ [x]) <+: spansOf bs → YieldAt Fence.wide (m - 1) Try.prog l #[spnV x] W fun e W' =>
      (e = .returned (.bool true) ∧ J (pre ++ [x]) W' ∧ KpB n₀ Bn (.slice A n c) W W') ∨ (e = .returned (.bool false) ∧ Jx (pre ++ [x]) W'))
    (W : World) (hB : W.cell? ⟨Bn, 0, none⟩ = some (.slice A n c)) (hs : Sl W A n 1 (boolCells bs)) (hlt : 0 < n → ∀ b off, A = some ⟨b, off, none⟩ → b < n₀) (hn₀ : n₀ ≤ W.heap.size) (h0 : J [] W) :
    CallsIn Fence.wide m Try.prog 42 #[.func (.yield l) #[] #[], .pointer (some ⟨Bn, 0, none⟩)] W fun e W' => (∃ v, e = .returned v) ∧
      ((∃ ys, ys = spansOf bs ∧ J ys W') ∨ (∃ pre, pre <+: spansOf bs ∧ Jx pre W')) := by
  have H1 := Lib.hid h1
  clear h1
  refine callsIn_of_wp Try.func42 rfl trivial ?_
  simp only [Try.ntmps42, List.size_toArray, List.length_cons, List.length_nil, Nat.reduceAdd, Nat.reduceSub, Array.replicate_succ, Array.replicate_zero, List.push_toArray, List.append_toArray, List.nil_append, List.cons_append]
  gi_wp2
  apply wpIn_scope_wide
  gi_wp2
  apply wpIn_label
  gi_wp2
  gi_loopw [3, 8] (fun f i wr => ∃ (pre : List Spn) (fr k : Nat), f = .int .i64 (fr : Int) ∧ i = .int .i64 (k : Int) ∧ k ≤ n ∧ fr ≤ k ∧ Hid (spansOf bs = pre ++ spansFrom fr k (bs.drop k)) ∧ J pre wr ∧ wr.cell? ⟨Bn, 0, none⟩ = some (.slice A n c) ∧ Below n₀ W wr)
    (fun _ i _ => n - (intOf i).toNat)
  case atStart => exact ⟨[], 0, 0, rfl, rfl, by omega, by omega, rfl, h0, hB, Below.refl _ _⟩
  case round =>
    obtain ⟨pre, fr, k, rfl, rfl, hk, hfr, hsp, hJ, hcell, hbel⟩ := hrel
    by_cases hlt' : k < n
    · obtain ⟨b, off, rfl, hb, hc⟩ := hs.at1 hlt'
      have hc' : wr.cell? ⟨b, off + k, none⟩ = some (.bool (bs.getD k false)) := by
        rw [hbel.cell (p := ⟨b, off + k, none⟩) (hlt (by omega) b off rfl), hc, boolCells_getD (by rw [H1.out]; exact hlt')]
      clear hc hs hB
      by_cases hskip : bs.getD k false = true ∧ k + 1 < n
      · obtain ⟨e1, e2⟩ := hskip
        have hsp' : Hid (spansOf bs = pre ++ spansFrom fr (k + 1) (bs.drop (k + 1))) := by
          have := hsp.out; rw [spansFrom_skip fr k bs (by rw [H1.out]; exact e2) e1] at this; exact this
        rw [e1] at hc'
        clear hsp e1
        gi_wp2
        exact ⟨⟨pre, fr, k + 1, rfl, by go_num, by omega, by omega, hsp', hJ, hcell, hbel⟩, by simp [intOf]; omega⟩
      · have hcut := spansFrom_cut fr k bs (by rw [H1.out]; exact hlt') (by
          rw [H1.out]
          cases hb' : bs.getD k false
          · exact .inl rfl
          · right
            rcases Nat.lt_or_ge (k + 1) n with h | h
            · exact absurd ⟨hb', h⟩ hskip
            · omega)
        have hsp' : Hid (spansOf bs = (pre ++ [(fr, k + 1, bs.getD k false)]) ++ spansFrom (k + 1) (k + 1) (bs.drop (k + 1))) := by
          have := hsp.out; rw [hcut] at this; show _ = _; rw [this]; simp
        have hlen : (pre ++ [(fr, k + 1, bs.getD k false)]) <+: spansOf bs := ⟨_, hsp'.out.symm⟩
        have hkn : bs.getD k false = true → n ≤ k + 1 := fun h => by
          rcases Nat.lt_or_ge (k + 1) n with h' | h'
          · exact absurd ⟨h, h'⟩ hskip
          · exact h'
        clear hcut hsp hskip
        obtain ⟨fn, tmps, assign, body, hy, hR⟩ := hY pre (fr, k + 1, bs.getD k false) wr hJ hlen
        clear hlen hY
        simp only [spnV] at hy
        rw [show ((k + 1 : Nat) : Int) = (k : Int) + 1 from rfl] at hy
        generalize bs.getD k false = bk at *
        have HR := Lib.hid hR
        clear hR
        have HKN := Lib.hid hkn
        clear hkn
        cases bk
        · gi_wp2
          refine HR.out.mono ?_
          rintro e W3 (⟨rfl, hJ3, hk3⟩ | ⟨rfl, hJx3⟩)
          · have hcell3 := hk3.2 hcell
            have hbel3 := hbel.trans hk3.1
            clear hcell hc' hJ hy HR hk3
            gi_wp2
            exact ⟨⟨_, k + 1, k + 1, by go_num, by go_num, by omega, by omega, hsp', hJ3, hcell3, hbel3⟩, by simp [intOf]; omega⟩
          · clear hcell hc' hJ hy HR
            gi_wp2
            (try rw [Exit.noGoto_ret])
            refine bodyPost_ret (results_none rfl _ _ _) rfl ?_
            exact ⟨⟨_, rfl⟩, .inr ⟨_, ⟨_, hsp'.out.symm⟩, hJx3⟩⟩
        · have hkn' := HKN.out rfl
          clear HKN
          gi_wp2
          refine HR.out.mono ?_
          rintro e W3 (⟨rfl, hJ3, hk3⟩ | ⟨rfl, hJx3⟩)
          · have hcell3 := hk3.2 hcell
            have hbel3 := hbel.trans hk3.1
            clear hcell hc' hJ hy HR hk3
            gi_wp2
            exact ⟨⟨_, k + 1, k + 1, by go_num, by go_num, by omega, by omega, hsp', hJ3, hcell3, hbel3⟩, by simp [intOf]; omega⟩
          · clear hcell hc' hJ hy HR
            gi_wp2
            (try rw [Exit.noGoto_ret])
            refine bodyPost_ret (results_none rfl _ _ _) rfl ?_
            exact ⟨⟨_, rfl⟩, .inr ⟨_, ⟨_, hsp'.out.symm⟩, hJx3⟩⟩
    · have hkn : k = n := by omega
      have hfin : spansOf bs = pre := by rw [hsp.out, List.drop_eq_nil_of_le (by rw [H1.out]; omega)]; simp [spansFrom]
      have HF := Lib.hid hfin
      clear hfin hkn
      gi_wp2
      (try rw [Exit.noGoto_normal])
      go_end0
      exact ⟨⟨_, rfl⟩, .inl ⟨pre, HF.out.symm, hJ⟩⟩
theorem spans_in (A : Option Addr) (n c : Nat) (W : World) :
    Calls Try.prog 35 #[.slice A n c] W fun e w' => e = .returned (.func (.func 42) #[] #[.pointer (some ⟨W.heap.size, 0, none⟩)]) ∧ w' = W.alloc (.cells #[.slice A n c] 22) := by
  go_enter Try.func35, Try.ntmps35
  go_wp2_with fail
  go_ret
  exact ⟨rfl, rfl⟩
theorem spans_stops {α : Type} (pr : α → Spn) (xs : List α) (m : Nat) (hm : 1 ≤ m) (n₀ Bn : Nat) (A : Option Addr) (n c : Nat) (bs : List Bool) (hxs : xs.map pr = spansOf bs) (hn : n ≤ 1000) (h1 : bs.length = n) (w : World) (hB : w.cell? ⟨Bn, 0, none⟩ = some (.slice A n c)) (hBn : Bn < w.heap.size)
    (hs : Sl w A n 1 (boolCells bs)) (hlt : 0 < n → ∀ b off, A = some ⟨b, off, none⟩ → b < n₀) (hn₀ : n₀ ≤ w.heap.size) :
    SeqStopsK Fence.wide m Try.prog 42 #[.pointer (some ⟨Bn, 0, none⟩)] (fun x : α => #[spnV (pr x)]) (KpB n₀ Bn (.slice A n c)) (fun ys => ys = xs) (fun pre => pre <+: xs) xs.length w := fun l J Jx W hW _ _ hY h0 => by
  refine (spans1_in m hm l n₀ Bn A n c bs hn h1 (fun pre W => ∃ p, p.map pr = pre ∧ p <+: xs ∧ J p W) (fun pre W => ∃ p, p.map pr = pre ∧ p <+: xs ∧ Jx p W) ?_ W ((Ext.cell hW Bn 0 hBn).trans hB) (hs.ext hW) hlt (Nat.le_trans hn₀ (Ext.size hW)) ⟨[], rfl, List.nil_prefix, h0⟩).mono ?_
  · rintro pre x W1 ⟨p, rfl, hp, hJ⟩ hpx
    obtain ⟨r, hr⟩ := hp
    obtain ⟨s, hs⟩ := hpx
    rw [← hxs, ← hr, List.map_append, List.append_assoc, List.append_cancel_left_eq] at hs
    cases r with
    | nil => simp at hs
    | cons y r =>
      simp only [List.map_cons, List.cons_append, List.nil_append, List.cons.injEq] at hs
      obtain ⟨rfl, _⟩ := hs
      have hpy : p ++ [y] <+: xs := ⟨r, by rw [← hr]; simp⟩
      obtain ⟨fn, tmps, assign, body, e1, e2⟩ := hY p y W1 hJ (by rw [← hr]; simp)
      refine ⟨fn, tmps, assign, body, e1, e2.mono ?_⟩
      rintro e W2 (⟨rfl, hJ2, hk⟩ | ⟨rfl, hJ2⟩)
      · exact .inl ⟨rfl, ⟨p ++ [y], by simp, hpy, hJ2⟩, hk⟩
      · exact .inr ⟨rfl, p ++ [y], by simp, hpy, hJ2⟩
  · rintro e W' ⟨hv, (⟨ys, rfl, p, hp, hpx, hJ⟩ | ⟨pre, _, p, hp, hpx, hJ⟩)⟩
    · refine ⟨hv, .inl ⟨xs, rfl, ?_⟩⟩
      have : p = xs := hpx.eq_of_length (by have := congrArg List.length (hp.trans hxs.symm); simpa using this)
      rw [← this]; exact hJ
    · exact ⟨hv, .inr ⟨p, hpx, hJ⟩⟩
end Go.Proofs.Ytmjmdjcgjmjigaa
