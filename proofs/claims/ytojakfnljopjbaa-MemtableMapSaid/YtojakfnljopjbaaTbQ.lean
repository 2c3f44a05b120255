/-
  Chapter 12: binary search over a list of pairs.
-/
import Derived.Test.YtojakfnljopjbaaMdQ
import Derived.Test.YtojakfnljopjbaaDtA
import Derived.Test.YtojakfnljopjbaaKitW
namespace Go.Proofs.Ytojakfnljopjbaa
set_option linter.unusedSimpArgs false
set_option linter.unusedVariables false
set_option linter.unusedSectionVars false
open Go Go.RowKit
/-! ### what a deep row holds -/
def dvInts : DV → List Int
  | .sl _ _ ds => ds.map fun d => match d with | .fl (.int _ x) => x | _ => 0
  | _ => []
def prsOf : List DV → List Pr
  | d1 :: d2 :: .fl (.bool b) :: r => (dvInts d1, dvInts d2, b) :: prsOf r
  | _ => []
theorem dvInts_sl (n : Nat) (c : Option Nat) (l : List Int) : dvInts (.sl n c (byD l)) = l := by
  simp only [dvInts, byD, List.map_map]
  exact (List.map_congr_left (g := id) fun x _ => rfl).trans (List.map_id l)
theorem prsOf_of : ∀ {ps : List Pr} {ds : List DV}, Prs ds ps → prsOf ds = ps
  | [], ds, h => by rw [show ds = [] from h]; rfl
  | p :: ps, ds, h => by
      obtain ⟨c1, c2, r, rfl, hr⟩ := h
      have := prsOf_of hr
      show (dvInts _, dvInts _, p.2.2) :: prsOf r = _
      rw [dvInts_sl, dvInts_sl, this]
def ltK (a b : List Int) : Bool := !decide (cmpI a b ≥ 0)
/-- How many keys are less. -/
def lbP : List Pr → List Int → Nat
  | [], _ => 0
  | p :: ps, k => bif ltK p.1 k then lbP ps k + 1 else 0
def hitP (ps : List Pr) (k : List Int) : Bool := match ps[lbP ps k]? with
  | some p => decide (p.1 = k)
  | none => false
def sdA (n : Nat) : Value := .slice (some ⟨0, 0, none⟩) n (capBig + 0)
def kyA (m : Nat) : Value := .slice (some ⟨2, 0, none⟩) m (capBig + 2)
def fnA : Value := .func (.func 47) #[] #[]
def bsH (ds : List DV) (ky : List Value) : Hp := [(0, ⟨.sw ds, []⟩), (2, ⟨.ow, ky⟩)]
def bsTab : FuncId → List Nat := fun f => bif Nat.beq f 46 then [17, 31, 38, 47] else []
def bsSy : FuncId → Nat → Option Nat := lsSy 46 [(20, 0), (21, 0), (22, 0), (23, 0), (27, 0), (28, 32), (33, 0), (43, 0), (44, 32)]
def bsV (L : LFun) (T : TFun) : Tv := ⟨T, cmpY, L, bsTab, bsSy, fun _ => [], fun _ => 0⟩
def bsS (n m i j : Nat) : List (Nat × Value) := [(0, sdA n), (1, kyA m), (2, fnA), (8, iV n), (9, iV i), (10, iV j)]
theorem bs_lt (inr : Bool) (n m i j : Nat) (ds : List DV) (ky : List Value) : prjP [0, 1, 2, 8, 9, 10] 10 (codeZ (bsV noL noTz) Try.prog (runZ (bsV noL noTz) Try.prog 9) 46 inr 100000 (bodyIn Try.prog 46 3) (SL 49 (bsS n m i j)) (bsH ds ky) 10 [true, true]) =
  Res.ok ((Xt.normal, 49, [(0, Value.slice (some (Addr.mk 0 0 none)) n 18446744073709551616), (1, Value.slice (some (Addr.mk 2 0 none)) m (capBig + 2)), (2, Value.func (Fn.func 47) (Array.mk []) (Array.mk [])), (8,
 Value.int IntKind.i64 (↑n : Int)), (9, Value.int IntKind.i64 (↑((i + j) / 2 + 1) : Int)), (10, Value.int IntKind.i64 (↑j : Int))], [(0, Rw.mk (Kd.sw ds) []), (2, Rw.mk Kd.ow ky)], 13, [], []), [], [decide ((↑i : Int) <
 (↑j : Int)) = true, rg IntKind.i64 (↑(i + j) : Int), rg IntKind.u64 (↑(i + j) : Int), (0 : Int) ≤ (1 : Int) ∧ (1 : Int) ≤ (64 : Int), rg IntKind.i64 (↑((i + j) / 2) : Int), (0 : Int) ≤ (↑((i + j) / 2) : Int) ∧ (↑((i + j)
 / 2) : Int) < (↑n : Int), ShOb Try.prog 29 false true ds ((i + j) / 2 * 3) 10, BytI (dLen ds ((i + j) / 2 * 3 + 0)) (dVals ds ((i + j) / 2 * 3 + 0)), BytI m ky, decide (cmpI (intsOf (dVals ds ((i + j) / 2 * 3 + 0)))
 (intsOf ky) < (0 : Int)) = true, rg IntKind.i64 (↑((i + j) / 2 + 1) : Int)]) := by kernel_rfl
theorem bs_ge (inr : Bool) (n m i j : Nat) (ds : List DV) (ky : List Value) : prjP [0, 1, 2, 8, 9, 10] 10 (codeZ (bsV noL noTz) Try.prog (runZ (bsV noL noTz) Try.prog 9) 46 inr 100000 (bodyIn Try.prog 46 3) (SL 49 (bsS n m i j)) (bsH ds ky) 10 [true, false]) =
  Res.ok ((Xt.normal, 49, [(0, Value.slice (some (Addr.mk 0 0 none)) n 18446744073709551616), (1, Value.slice (some (Addr.mk 2 0 none)) m (capBig + 2)), (2, Value.func (Fn.func 47) (Array.mk []) (Array.mk [])), (8,
 Value.int IntKind.i64 (↑n : Int)), (9, Value.int IntKind.i64 (↑i : Int)), (10, Value.int IntKind.i64 (↑((i + j) / 2) : Int))], [(0, Rw.mk (Kd.sw ds) []), (2, Rw.mk Kd.ow ky)], 13, [], []), [], [decide ((↑i : Int) < (↑j :
 Int)) = true, rg IntKind.i64 (↑(i + j) : Int), rg IntKind.u64 (↑(i + j) : Int), (0 : Int) ≤ (1 : Int) ∧ (1 : Int) ≤ (64 : Int), rg IntKind.i64 (↑((i + j) / 2) : Int), (0 : Int) ≤ (↑((i + j) / 2) : Int) ∧ (↑((i + j) / 2) :
 Int) < (↑n : Int), ShOb Try.prog 29 false true ds ((i + j) / 2 * 3) 10, BytI (dLen ds ((i + j) / 2 * 3 + 0)) (dVals ds ((i + j) / 2 * 3 + 0)), BytI m ky, decide (cmpI (intsOf (dVals ds ((i + j) / 2 * 3 + 0))) (intsOf ky)
 < (0 : Int)) = false]) := by kernel_rfl
theorem bs_end (inr : Bool) (n m i j : Nat) (ds : List DV) (ky : List Value) : prjP [0, 1, 2, 8, 9] 10 (codeZ (bsV noL noTz) Try.prog (runZ (bsV noL noTz) Try.prog 9) 46 inr 100000 (bodyIn Try.prog 46 3) (SL 49 (bsS n m i j)) (bsH ds ky) 10 [false]) =
  Res.ok ((Xt.exit 0, 49, [(0, Value.slice (some (Addr.mk 0 0 none)) n 18446744073709551616), (1, Value.slice (some (Addr.mk 2 0 none)) m (capBig + 2)), (2, Value.func (Fn.func 47) (Array.mk []) (Array.mk [])), (8,
 Value.int IntKind.i64 (↑n : Int)), (9, Value.int IntKind.i64 (↑i : Int))], [(0, Rw.mk (Kd.sw ds) []), (2, Rw.mk Kd.ow ky)], 10, [], []), [], [decide ((↑i : Int) < (↑j : Int)) = false]) := by kernel_rfl
end Go.Proofs.Ytojakfnljopjbaa
/-
  Chapter 12: keys' order (plain laws).
-/
namespace Go.Proofs.Ytojakfnljopjbaa
set_option linter.unusedSimpArgs false
set_option linter.unusedVariables false
set_option linter.unusedSectionVars false
open Go Go.RowKit
theorem ltK_nn : ltK [] [] = false := rfl
theorem ltK_nc (b : Int) (m : List Int) : ltK [] (b :: m) = true := rfl
theorem ltK_cn (a : Int) (l : List Int) : ltK (a :: l) [] = false := rfl
theorem ltK_cc (a b : Int) (l m : List Int) : ltK (a :: l) (b :: m) = if a < b then true else if b < a then false else ltK l m := by
  unfold ltK
  simp only [cmpI]
  by_cases h1 : a < b
  · simp [h1]
  · by_cases h2 : b < a
    · simp [h1, h2]
    · simp [h1, h2]
theorem ltK_cmp (a b : List Int) : ltK a b = decide (cmpI a b < 0) := by
  unfold ltK
  by_cases h : cmpI a b < 0
  · have : ¬ (cmpI a b ≥ 0) := by omega
    simp [h, this]
  · have : cmpI a b ≥ 0 := by omega
    simp [h, this]
theorem cmpI_zero : ∀ (a b : List Int), cmpI a b = 0 ↔ a = b
  | [], [] => by simp [cmpI]
  | [], _ :: _ => by simp [cmpI]
  | _ :: _, [] => by simp [cmpI]
  | a :: l, b :: m => by
      simp only [cmpI]
      by_cases h1 : a < b
      · have : a ≠ b := by omega
        simp [h1, this]
      · by_cases h2 : b < a
        · have : a ≠ b := by omega
          simp [h1, h2, this]
        · have : a = b := by omega
          simp [h1, h2, this, cmpI_zero l m]
theorem ltK_irr : ∀ a : List Int, ltK a a = false
  | [] => rfl
  | a :: l => by rw [ltK_cc, if_neg (by omega), if_neg (by omega)]; exact ltK_irr l
theorem ltK_trans : ∀ {a b c : List Int}, ltK a b = true → ltK b c = true → ltK a c = true
  | _, [], [], _, h => by rw [ltK_nn] at h; cases h
  | _, _ :: _, [], _, h => by rw [ltK_cn] at h; cases h
  | [], _, _ :: _, _, _ => ltK_nc ..
  | a :: l, [], c :: n, h, _ => by rw [ltK_cn] at h; cases h
  | a :: l, b :: m, c :: n, h1, h2 => by
      rw [ltK_cc] at h1 h2 ⊢
      by_cases e1 : a < b
      · by_cases e2 : b < c
        · rw [if_pos (by omega)]
        · rw [if_neg e2] at h2
          by_cases e3 : c < b
          · rw [if_pos e3] at h2; cases h2
          · rw [if_pos (by omega)]
      · rw [if_neg e1] at h1
        by_cases e3 : b < a
        · rw [if_pos e3] at h1; cases h1
        · rw [if_neg e3] at h1
          by_cases e2 : b < c
          · rw [if_pos (by omega)]
          · rw [if_neg e2] at h2
            by_cases e4 : c < b
            · rw [if_pos e4] at h2; cases h2
            · rw [if_neg e4] at h2
              rw [if_neg (by omega), if_neg (by omega)]
              exact ltK_trans h1 h2
theorem ltK_tot : ∀ {a b : List Int}, ltK a b = false → ltK b a = false → a = b
  | [], [], _, _ => rfl
  | [], _ :: _, h, _ => by rw [ltK_nc] at h; cases h
  | _ :: _, [], _, h => by rw [ltK_nc] at h; cases h
  | a :: l, b :: m, h1, h2 => by
      rw [ltK_cc] at h1 h2
      by_cases e1 : a < b
      · rw [if_pos e1] at h1; cases h1
      · rw [if_neg e1] at h1
        by_cases e2 : b < a
        · rw [if_pos e2] at h2; cases h2
        · rw [if_neg e2] at h1
          rw [if_neg e2, if_neg e1] at h2
          rw [ltK_tot h1 h2, show a = b by omega]
/-! ### the least place -/
theorem asc_tail {p : Pr} {ps : List Pr} (h : asc (p :: ps) = true) : asc ps = true := by
  cases ps with
  | nil => rfl
  | cons q l => simp only [asc, Bool.and_eq_true] at h; exact h.2
theorem asc_head {p q : Pr} {ps : List Pr} (h : asc (p :: q :: ps) = true) : ltK p.1 q.1 = true := by
  simp only [asc, Bool.and_eq_true] at h
  exact h.1
theorem asc_all : ∀ {ps : List Pr} {p : Pr}, asc (p :: ps) = true → ∀ q ∈ ps, ltK p.1 q.1 = true
  | [], p, _, q, hq => by cases hq
  | r :: ps, p, h, q, hq => by
      have h1 := asc_head h
      rcases List.mem_cons.1 hq with rfl | hq
      · exact h1
      · exact ltK_trans h1 (asc_all (asc_tail h) q hq)
theorem lb_le : ∀ (ps : List Pr) (k : List Int), lbP ps k ≤ ps.length
  | [], k => by simp [lbP]
  | p :: ps, k => by
      simp only [lbP]
      cases ltK p.1 k with
      | true => simp only [cond_true, List.length_cons]; have := lb_le ps k; omega
      | false => simp
theorem lb_at : ∀ {ps : List Pr} {k : List Int} {h : Nat} {p : Pr}, asc ps = true → ps[h]? = some p → (ltK p.1 k = true ↔ h < lbP ps k)
  | [], k, h, p, _, hp => by simp at hp
  | q :: ps, k, h, p, ha, hp => by
      simp only [lbP]
      cases hq : ltK q.1 k with
      | true =>
        simp only [cond_true]
        cases h with
        | zero => simp only [List.getElem?_cons_zero, Option.some.injEq] at hp; subst hp; simp [hq]
        | succ h =>
          have := lb_at (k := k) (asc_tail ha) (show ps[h]? = some p by simpa using hp)
          rw [this]; omega
      | false =>
        simp only [cond_false, Nat.not_lt_zero, iff_false]
        cases h with
        | zero => simp only [List.getElem?_cons_zero, Option.some.injEq] at hp; subst hp; rw [hq]; decide
        | succ h =>
          have h1 := asc_all ha p (List.mem_of_getElem? (show ps[h]? = some p by simpa using hp))
          intro h2
          rw [ltK_trans h1 h2] at hq
          cases hq
theorem lb_drop {ps : List Pr} {k : List Int} (ha : asc ps = true) : ∀ p ∈ ps.take (lbP ps k), ltK p.1 k = true := fun p hp => by
  obtain ⟨i, hi, e⟩ := List.mem_iff_getElem.1 hp
  rw [List.length_take] at hi
  have : ps[i]? = some p := by rw [← e, List.getElem_take]; exact List.getElem?_eq_getElem (by omega)
  exact (lb_at ha this).2 (by omega)
theorem hit_iff {ps : List Pr} {k : List Int} (ha : asc ps = true) : hitP ps k = true ↔ ∃ p ∈ ps, p.1 = k := by
  unfold hitP
  constructor
  · intro h
    split at h
    · rename_i p hp; exact ⟨p, List.mem_of_getElem? hp, by simpa using h⟩
    · cases h
  · rintro ⟨p, hp, rfl⟩
    obtain ⟨i, hi, e⟩ := List.mem_iff_getElem.1 hp
    have h1 : ps[i]? = some p := by rw [← e]; exact List.getElem?_eq_getElem hi
    have h2 : ¬ i < lbP ps p.1 := fun h => by have := (lb_at ha h1).2 h; rw [ltK_irr] at this; cases this
    have h3 : lbP ps p.1 < ps.length := by have := lb_le ps p.1; omega
    have h4 : ps[lbP ps p.1]? = some ps[lbP ps p.1] := List.getElem?_eq_getElem h3
    rw [h4]
    simp only [decide_eq_true_eq]
    have h5 : ltK (ps[lbP ps p.1]).1 p.1 = false := by
      cases h6 : ltK (ps[lbP ps p.1]).1 p.1 with
      | false => rfl
      | true => have := (lb_at ha h4).1 h6; omega
    by_cases h7 : i = lbP ps p.1
    · subst h7
      rw [h4] at h1
      exact congrArg Prod.fst (Option.some.inj h1)
    · -- ahead of i: less
      exfalso
      have h8 : lbP ps p.1 < i := by omega
      have h9 : p ∈ ps.drop (lbP ps p.1 + 1) := by
        rw [List.mem_iff_getElem?]
        exact ⟨i - (lbP ps p.1 + 1), by rw [List.getElem?_drop, show lbP ps p.1 + 1 + (i - (lbP ps p.1 + 1)) = i by omega]; exact h1⟩
      have hd : asc (ps.drop (lbP ps p.1)) = true := by
        have : ∀ (n : Nat) (l : List Pr), asc l = true → asc (l.drop n) = true := by
          intro n
          induction n with
          | zero => intro l h; simpa using h
          | succ n ih =>
            intro l h
            cases l with
            | nil => rfl
            | cons x l => exact ih l (asc_tail h)
        exact this _ _ ha
      rw [List.drop_eq_getElem_cons h3] at hd
      have := asc_all hd p h9
      rw [this] at h5
      cases h5
end Go.Proofs.Ytojakfnljopjbaa
/-
  Chapter 12: binary search: its loop, its contract.
-/
namespace Go.Proofs.Ytojakfnljopjbaa
set_option linter.unusedSimpArgs false
set_option linter.unusedVariables false
set_option linter.unusedSectionVars false
open Go Go.RowKit
/-- A row is a sorted list of pairs. -/
structure TbOk (ds : List DV) (n : Nat) : Prop where
  P : Prs ds (prsOf ds)
  O : ∀ p ∈ prsOf ds, PrOk p
  l : (prsOf ds).length = n
  m : n ≤ 100
  a : asc (prsOf ds) = true
theorem bsX {L : LFun} {T : TFun} : XOkZ (bsV L T) Try.prog := XOneZ.ok cmpY_ok rfl
theorem bsT0 {L : LFun} : TOkZ (bsV L noTz) Try.prog := noTz_okV rfl
theorem bsL0 {T : TFun} : LOkZ (bsV noL T) Try.prog := noL_okV rfl
theorem sw_row {lo N : Nat} {ρ : Nat → Nat} {h0 h1 : Hp} {n m : Nat} {ds : List DV} (hn : fnN lo N ρ n = some m) (hl : lk h1 m = some ⟨.sw ds, []⟩) : RbRow lo N ρ h0 h1 n ⟨.sw ds, []⟩ := rb_rec hn hl trivial
theorem ow_row {lo N : Nat} {ρ : Nat → Nat} {h0 h1 : Hp} {n m : Nat} {cs : List Value} (hn : fnN lo N ρ n = some m) (hl : lk h1 m = some ⟨.ow, cs⟩) (hf : ∀ τ, renL τ cs = some cs) : RbRow lo N ρ h0 h1 n ⟨.ow, cs⟩ := ⟨m, _, hn, hl, rfl, trivial, .inl (hf _)⟩
theorem BytI.fl {n : Nat} {cs : List Value} (h : BytI n cs) : ∀ τ, renL τ cs = some cs := fun τ => by rw [h.1]; exact byV_ren _ τ
theorem bs_loop {inr : Bool} {h0 : Hp} {ds : List DV} {ky : List Value} {n m : Nat} (hT : TbOk ds n) (hK : BytI m ky) : ∀ (r i j : Nat), j - i ≤ r → i ≤ lbP (prsOf ds) (intsOf ky) → lbP (prsOf ds) (intsOf ky) ≤ j → j ≤ n →
    LRuns inr Try.prog (bodyIn Try.prog 46 3) 6 40 h0 49 (bsS n m i j) (bsH ds ky) 10 (.exit 0, [(0, sdA n), (1, kyA m), (2, fnA), (8, iV n), (9, iV (lbP (prsOf ds) (intsOf ky)))], bsH ds ky)
  | r, i, j, hr, h1, h2, h3 => by
      have hrow : ∀ (ρ : Nat → Nat) (N : Nat), N = 10 ∨ N = 40 → RbL 6 N ρ h0 (bsH ds ky) (bsH ds ky) := fun ρ N hN => by
        rcases hN with rfl | rfl
        · exact ⟨sw_row (m := 0) rfl rfl, ow_row (m := 2) rfl rfl hK.fl, trivial⟩
        · exact ⟨sw_row (m := 0) rfl rfl, ow_row (m := 2) rfl rfl hK.fl, trivial⟩
      by_cases hij : i < j
      · have hm := hT.m
        have hh : (i + j) / 2 < (prsOf ds).length := by rw [hT.l]; omega
        have F := hT.P.facts (List.getElem?_eq_getElem hh)
        obtain ⟨p, hp⟩ : ∃ p, (prsOf ds)[(i + j) / 2] = p := ⟨_, rfl⟩
        have hat := lb_at (k := intsOf ky) hT.a (List.getElem?_eq_getElem hh)
        have bp := (hT.O p (by rw [← hp]; exact List.getElem_mem hh)).1
        rw [hp] at F hat
        have f0 := F.l0
        have v0 := F.v0
        have o1 := F.o29 10
        have y1 := byV_bytI bp
        have i0 := byV_ints p.1
        rw [ltK_cmp, decide_eq_true_eq] at hat
        cases r with
        | zero => omega
        | succ r =>
          by_cases hc : cmpI p.1 (intsOf ky) < 0
          · have hlt := hat.1 hc
            refine LRuns.step (code_runsP bsX bsL0 (runZ_ok bsX bsT0 bsL0 mixed 9) mixed (bs_lt inr n m i j ds ky) ?_) rfl (by omega) (by omega) (fun n => n) ?_ (hrow _ _ (.inl rfl)) rfl (bs_loop hT hK r ((i + j) / 2 + 1) j (by omega) (by omega) h2 h3)
            · simp only [Alls, rg, decide_eq_true_eq, decide_eq_false_iff_not, Nat.add_zero, f0, v0, i0]
              repeat' (with_reducible apply And.intro)
              all_goals first | omega | (with_reducible assumption) | (with_reducible exact trivial) | skip
            · exact ⟨rfl, rb_slg rfl rfl, rfl, rb_slg rfl rfl, rfl, rfl, rfl, rfl, rfl, rfl, rfl, rfl, trivial⟩
          · have hge : lbP (prsOf ds) (intsOf ky) ≤ (i + j) / 2 := by
              rcases Nat.lt_or_ge ((i + j) / 2) (lbP (prsOf ds) (intsOf ky)) with h | h
              · exact absurd (hat.2 h) hc
              · exact h
            refine LRuns.step (code_runsP bsX bsL0 (runZ_ok bsX bsT0 bsL0 mixed 9) mixed (bs_ge inr n m i j ds ky) ?_) rfl (by omega) (by omega) (fun n => n) ?_ (hrow _ _ (.inl rfl)) rfl (bs_loop hT hK r i ((i + j) / 2) (by omega) h1 hge (by omega))
            · simp only [Alls, rg, decide_eq_true_eq, decide_eq_false_iff_not, Nat.add_zero, f0, v0, i0]
              repeat' (with_reducible apply And.intro)
              all_goals first | omega | (with_reducible assumption) | (with_reducible exact trivial) | skip
            · exact ⟨rfl, rb_slg rfl rfl, rfl, rb_slg rfl rfl, rfl, rfl, rfl, rfl, rfl, rfl, rfl, rfl, trivial⟩
      · obtain rfl : i = lbP (prsOf ds) (intsOf ky) := by omega
        refine LRuns.exit (code_runsP bsX bsL0 (runZ_ok bsX bsT0 bsL0 mixed 9) mixed (bs_end inr n m _ j ds ky) ?_) (by intro e; cases e) rfl (by omega) (by omega) (fun n => n) ?_ (hrow _ _ (.inr rfl)) rfl
        · simp only [Alls, decide_eq_false_iff_not]
          exact ⟨by omega, trivial⟩
        · exact ⟨rfl, rb_slg rfl rfl, rfl, rb_slg rfl rfl, rfl, rfl, rfl, rfl, rfl, rfl, trivial⟩
def BsOk (ds : List DV) (ky : List Value) (n m : Nat) : Prop := TbOk ds n ∧ BytI m ky
def bsPk (live : List (Nat × Value)) (h : Hp) : Option (Nat × Nat × List DV × List Value) := match live, lk h 0, lk h 2 with
  | (_, .slice _ n _) :: (_, .slice _ m _) :: _, some ⟨.sw ds, _⟩, some ⟨.ow, ky⟩ => some (n, m, ds, ky)
  | _, _, _ => none
def bsSp : LSpec := lspec bsPk (fun a => (bsS a.1 a.2.1 0 a.1, bsH a.2.2.1 a.2.2.2, 6)) (fun a tp => some ((.exit 0, [(0, sdA a.1), (1, kyA a.2.1), (2, fnA), (8, iV a.1), (9, iV (lbP (prsOf a.2.2.1) (intsOf a.2.2.2)))], bsH a.2.2.1 a.2.2.2, 40, []), tp, [BsOk a.2.2.1 a.2.2.2 a.1 a.2.1]))
def bsLo (P : Program) : LFun := mkL 46 3 49 [0, 1, 2, 8, 9, 10] (bodyIn P 46 3) bsSp
theorem bsSp_ok : LSOk Try.prog 49 [0, 1, 2, 8, 9, 10] (bodyIn Try.prog 46 3) bsSp := by
  refine lspec_ok fun a tp xt l2 h2 nx2 d tp' ob hs ho inr ts hn hg => ?_
  obtain ⟨n, m, ds, ky⟩ := a
  simp only at hs hg
  simp only [Option.some.injEq, Prod.mk.injEq] at hs
  obtain ⟨⟨rfl, rfl, rfl, rfl, rfl⟩, rfl, rfl⟩ := hs
  obtain ⟨⟨hT, hK⟩, _⟩ := ho
  have hle := lb_le (prsOf ds) (intsOf ky)
  rw [hT.l] at hle
  have key := bs_loop (inr := inr) (h0 := bsH ds ky) hT hK n 0 n (by omega) (by omega) hle (Nat.le_refl _)
  refine LRuns.enter (N := 10) (l2 := bsS n m 0 n) hn hg (by omega) (by omega) (fun n => n) ?_ ?_ rfl key ?_
  · exact ⟨rfl, rb_slg rfl rfl, rfl, rb_slg rfl rfl, rfl, rfl, rfl, rfl, rfl, rfl, rfl, rfl, trivial⟩
  · exact ⟨sw_row (m := 0) rfl rfl, ow_row (m := 2) rfl rfl hK.fl, trivial⟩
  · exact tidy_of (by omega) (fun m hm hd => rfl) rfl
theorem bs_f0 (n m : Nat) (ds : List DV) (ky : List Value) : prjV (runZ (bsV (bsLo Try.prog) noTz) Try.prog 9 46 [sdA n, kyA m, fnA] (bsH ds ky) 6 [false]) =
  Res.ok (Value.tuple (Array.mk [Value.int IntKind.i64 (↑(lbP (prsOf ds) (intsOf ky)) : Int), Value.bool false]), [], [bodyIn Try.prog (46 : FuncId) 3 = bodyIn Try.prog (46 : FuncId) 3, [(0, Value.slice (some (Addr.mk 0 0
 none)) n 18446744073709551616), (1, Value.slice (some (Addr.mk 2 0 none)) m (capBig + 2)), (2, Value.func (Fn.func 47) #[] #[]), (8, Value.int IntKind.i64 (↑n : Int)), (9, Value.int IntKind.i64 (0 : Int)), (10, Value.int
 IntKind.i64 (↑n : Int))] = bsS n m 0 n, bsH ds ky = bsH ds ky, 6 = 6, BsOk ds ky n m, decide ((↑(lbP (prsOf ds) (intsOf ky)) : Int) < (↑n : Int)) = false]) := by kernel_rfl
theorem bs_f1 (n m : Nat) (ds : List DV) (ky : List Value) : prjV (runZ (bsV (bsLo Try.prog) noTz) Try.prog 9 46 [sdA n, kyA m, fnA] (bsH ds ky) 6 [true, false]) =
  Res.ok (Value.tuple (Array.mk [Value.int IntKind.i64 (↑(lbP (prsOf ds) (intsOf ky)) : Int), Value.bool false]), [], [bodyIn Try.prog (46 : FuncId) 3 = bodyIn Try.prog (46 : FuncId) 3, [(0, Value.slice (some (Addr.mk 0 0
 none)) n 18446744073709551616), (1, Value.slice (some (Addr.mk 2 0 none)) m (capBig + 2)), (2, Value.func (Fn.func 47) #[] #[]), (8, Value.int IntKind.i64 (↑n : Int)), (9, Value.int IntKind.i64 (0 : Int)), (10, Value.int
 IntKind.i64 (↑n : Int))] = bsS n m 0 n, bsH ds ky = bsH ds ky, 6 = 6, BsOk ds ky n m, decide ((↑(lbP (prsOf ds) (intsOf ky)) : Int) < (↑n : Int)) = true, (0 : Int) ≤ (↑(lbP (prsOf ds) (intsOf ky)) : Int) ∧ (↑(lbP (prsOf
 ds) (intsOf ky)) : Int) < (↑n : Int), ShOb Try.prog 29 false true ds (lbP (prsOf ds) (intsOf ky) * 3) 40, BytI (dLen ds (lbP (prsOf ds) (intsOf ky) * 3 + 0)) (dVals ds (lbP (prsOf ds) (intsOf ky) * 3 + 0)), BytI m ky,
 (cmpI (intsOf (dVals ds (lbP (prsOf ds) (intsOf ky) * 3 + 0))) (intsOf ky) == (0 : Int)) = false]) := by kernel_rfl
theorem bs_f2 (n m : Nat) (ds : List DV) (ky : List Value) : prjV (runZ (bsV (bsLo Try.prog) noTz) Try.prog 9 46 [sdA n, kyA m, fnA] (bsH ds ky) 6 [true, true]) =
  Res.ok (Value.tuple (Array.mk [Value.int IntKind.i64 (↑(lbP (prsOf ds) (intsOf ky)) : Int), Value.bool true]), [], [bodyIn Try.prog (46 : FuncId) 3 = bodyIn Try.prog (46 : FuncId) 3, [(0, Value.slice (some (Addr.mk 0 0
 none)) n 18446744073709551616), (1, Value.slice (some (Addr.mk 2 0 none)) m (capBig + 2)), (2, Value.func (Fn.func 47) #[] #[]), (8, Value.int IntKind.i64 (↑n : Int)), (9, Value.int IntKind.i64 (0 : Int)), (10, Value.int
 IntKind.i64 (↑n : Int))] = bsS n m 0 n, bsH ds ky = bsH ds ky, 6 = 6, BsOk ds ky n m, decide ((↑(lbP (prsOf ds) (intsOf ky)) : Int) < (↑n : Int)) = true, (0 : Int) ≤ (↑(lbP (prsOf ds) (intsOf ky)) : Int) ∧ (↑(lbP (prsOf
 ds) (intsOf ky)) : Int) < (↑n : Int), ShOb Try.prog 29 false true ds (lbP (prsOf ds) (intsOf ky) * 3) 40, BytI (dLen ds (lbP (prsOf ds) (intsOf ky) * 3 + 0)) (dVals ds (lbP (prsOf ds) (intsOf ky) * 3 + 0)), BytI m ky,
 (cmpI (intsOf (dVals ds (lbP (prsOf ds) (intsOf ky) * 3 + 0))) (intsOf ky) == (0 : Int)) = true]) := by kernel_rfl
def bsVal (ds : List DV) (ky : List Value) (b : Bool) : Value := .tuple ⟨[.int .i64 (lbP (prsOf ds) (intsOf ky) : Int), .bool b]⟩
theorem bs_run {n m : Nat} {ds : List DV} {ky : List Value} (h : BsOk ds ky n m) : ∃ h' nx' d, Tri Try.prog 46 [sdA n, kyA m, fnA] (bsH ds ky) 6 (bsVal ds ky (hitP (prsOf ds) (intsOf ky)), h', nx', d) := by
  have run : ∀ {tp tp' : Tape} {v : Value} {ob : List Prop}, prjV (runZ (bsV (bsLo Try.prog) noTz) Try.prog 9 46 [sdA n, kyA m, fnA] (bsH ds ky) 6 tp) = .ok (v, tp', ob) → Alls ob → ∃ h' nx' d, Tri Try.prog 46 [sdA n, kyA m, fnA] (bsH ds ky) 6 (v, h', nx', d) := fun e ho => run_val bsX bsT0 (L_okV rfl (mkL_ok bsSp_ok)) e ho rfl
  obtain ⟨hT, hK⟩ := id h
  have hle := lb_le (prsOf ds) (intsOf ky)
  rw [hT.l] at hle
  by_cases h1 : lbP (prsOf ds) (intsOf ky) < n
  · have hh : lbP (prsOf ds) (intsOf ky) < (prsOf ds).length := by rw [hT.l]; exact h1
    have F := hT.P.facts (List.getElem?_eq_getElem hh)
    have e1 : hitP (prsOf ds) (intsOf ky) = decide ((prsOf ds)[lbP (prsOf ds) (intsOf ky)].1 = intsOf ky) := by unfold hitP; rw [List.getElem?_eq_getElem hh]
    have bp := (hT.O _ (List.getElem_mem hh)).1
    generalize (prsOf ds)[lbP (prsOf ds) (intsOf ky)] = p at F e1 bp
    have f0 := F.l0
    have v0 := F.v0
    have o1 := F.o29 40
    have y1 := byV_bytI bp
    have i0 := byV_ints p.1
    have c0 := cmpI_zero p.1 (intsOf ky)
    by_cases h2 : p.1 = intsOf ky
    · rw [e1, decide_eq_true h2]
      refine run (bs_f2 n m ds ky) ?_
      simp only [Alls, rg, decide_eq_true_eq, decide_eq_false_iff_not, Nat.add_zero, f0, v0, i0, c0.2 h2]
      repeat' (with_reducible apply And.intro)
      all_goals first | omega | (with_reducible assumption) | (with_reducible exact trivial) | (with_reducible rfl) | exact rfl
    · rw [e1, decide_eq_false h2]
      refine run (bs_f1 n m ds ky) ?_
      have c1 : (cmpI p.1 (intsOf ky) == 0) = false := by
        have : cmpI p.1 (intsOf ky) ≠ 0 := fun e => h2 (c0.1 e)
        simpa using this
      simp only [Alls, rg, decide_eq_true_eq, decide_eq_false_iff_not, Nat.add_zero, f0, v0, i0, c1]
      repeat' (with_reducible apply And.intro)
      all_goals first | omega | (with_reducible assumption) | (with_reducible exact trivial) | (with_reducible rfl) | exact rfl
  · have e1 : hitP (prsOf ds) (intsOf ky) = false := by unfold hitP; rw [List.getElem?_eq_none (by rw [hT.l]; omega)]
    rw [e1]
    refine run (bs_f0 n m ds ky) ?_
    simp only [Alls, decide_eq_false_iff_not]
    repeat' (with_reducible apply And.intro)
    all_goals first | omega | (with_reducible assumption) | (with_reducible exact trivial) | (with_reducible rfl) | exact rfl
def gBs : GSpecD := fun aL tp => match aL, tp with
  | [.dl ds n, .sl ky m, .fl fn], b :: tp' => some (⟨fun _ => bsVal ds ky b, []⟩, tp', [BsOk ds ky n m ∧ hitP (prsOf ds) (intsOf ky) = b ∧ fn = fnA])
  | _, _ => none
theorem GrD.flat {v : Value} {h0' : Hp} (hv : ∀ σ, renV σ v = some v) : GrD ⟨fun _ => v, []⟩ v h0' (fun n => n) := ⟨fun nx => hv _, fun j r h => by simp at h, fun i j h => by simp at h⟩
theorem bs_gok : GOkD Try.prog 46 gBs := by
  intro aL tp gr tp' ob hG ho cs hc
  unfold gBs at hG
  split at hG
  case h_2 => cases hG
  rename_i ds n ky m fn b tp2
  simp only [Option.some.injEq, Prod.mk.injEq] at hG
  obtain ⟨rfl, rfl, rfl⟩ := hG
  obtain ⟨⟨h1, rfl, rfl⟩, _⟩ := ho
  obtain ⟨h', nx', d, T⟩ := bs_run h1
  exact ⟨_, h', nx', d, fun n => n, T, GrD.flat fun σ => rfl⟩
def bsT : TFun := mkD 46 [.d, .s, .f] gBs
theorem bsT_one : TOneZ Try.prog bsT := mkD_ok bs_gok
end Go.Proofs.Ytojakfnljopjbaa
/-
  Chapter 12: Get.
-/
namespace Go.Proofs.Ytojakfnljopjbaa
set_option linter.unusedSimpArgs false
set_option linter.unusedVariables false
set_option linter.unusedSectionVars false
open Go Go.RowKit
def tbTab : FuncId → List Nat := fun f => []
def tbSy : FuncId → Nat → Option Nat := orSy (lsSy 18 [(25, 0), (26, 32)]) (orSy (lsSy 37 [(8, 43)]) (lsSy 48 [(4, 0), (7, 43)]))
def tbV (L : LFun) (T : TFun) : Tv := ⟨T, cmpY, L, tbTab, tbSy, fun _ => [], fun _ => 0⟩
def ptA : Value := .pointer (some ⟨0, 0, none⟩)
def tbC (n c : Nat) : List Value := [.bool true, .slice (some ⟨1, 0, none⟩) n c]
def gtH (n c : Nat) (ds : List DV) (ky : List Value) : Hp := [(0, ⟨.ow, tbC n c⟩), (1, ⟨.sw ds, []⟩), (2, ⟨.ow, ky⟩)]
theorem gt_no (n c m : Nat) (ds : List DV) (ky : List Value) : prjV (runZ (tbV noL bsT) Try.prog 12 18 [ptA, kyA m] (gtH n c ds ky) 4 [false]) =
  Res.ok (Value.tuple (Array.mk [Value.agg (Array.mk [Value.slice none 0 0, Value.slice none 0 0, Value.bool false]), Value.int IntKind.i64 (6 : Int)]), [], [n = 0 → ds = [], (∀ (τ : Sg), renL τ ky = some ky) ∧ (m = 0 → ky
 = []), BsOk ds ky n m ∧ hitP (prsOf ds) (intsOf ky) = false ∧ Value.func (Fn.func 47) (Array.mk []) (Array.mk []) = Value.func (Fn.func 47) #[] #[]]) := by kernel_rfl
theorem gt_yes (n c m : Nat) (ds : List DV) (ky : List Value) : runZ (tbV noL bsT) Try.prog 12 18 [ptA, kyA m] (gtH n c ds ky) 4 [true] =
  Res.ok ((Value.tuple (Array.mk [Value.agg (Array.mk [Value.slice (some (Addr.mk 11 0 none)) (dLen ds (lbP (prsOf ds) (intsOf ky) * 3 + 0)) (capBig + 11), Value.slice (some (Addr.mk 13 0 none)) (dLen ds (lbP (prsOf ds)
 (intsOf ky) * 3 + 1)) (capBig + 13), Value.bool (dBool ds (lbP (prsOf ds) (intsOf ky) * 3 + 2))]), Value.int IntKind.i64 (0 : Int)]), [(8, Rw.mk Kd.shut [Value.slice (some (Addr.mk 11 0 none)) (dLen ds (lbP (prsOf ds)
 (intsOf ky) * 3 + 0)) (capBig + 11), Value.slice (some (Addr.mk 13 0 none)) (dLen ds (lbP (prsOf ds) (intsOf ky) * 3 + 1)) (capBig + 13), Value.bool (dBool ds (lbP (prsOf ds) (intsOf ky) * 3 + 2))]), (7, Rw.mk Kd.shut
 [Value.slice (some (Addr.mk 5 0 none)) (dLen ds (lbP (prsOf ds) (intsOf ky) * 3 + 0)) (capBig + 5), Value.slice (some (Addr.mk 6 0 none)) (dLen ds (lbP (prsOf ds) (intsOf ky) * 3 + 1)) (capBig + 6), Value.bool (dBool ds
 (lbP (prsOf ds) (intsOf ky) * 3 + 2))]), (6, Rw.mk Kd.old (dVals ds (lbP (prsOf ds) (intsOf ky) * 3 + 1))), (5, Rw.mk Kd.old (dVals ds (lbP (prsOf ds) (intsOf ky) * 3 + 0))), (4, Rw.mk Kd.shut [Value.slice (some (Addr.mk
 11 0 none)) (dLen ds (lbP (prsOf ds) (intsOf ky) * 3 + 0)) (capBig + 11), Value.slice (some (Addr.mk 13 0 none)) (dLen ds (lbP (prsOf ds) (intsOf ky) * 3 + 1)) (capBig + 13), Value.bool (dBool ds (lbP (prsOf ds) (intsOf
 ky) * 3 + 2))]), (0, Rw.mk Kd.ow [Value.bool true, Value.slice (some (Addr.mk 1 0 none)) n c]), (1, Rw.mk (Kd.sw ds) []), (2, Rw.mk Kd.ow ky), (9, Rw.mk Kd.shut []), (11, Rw.mk Kd.of (List.take (dLen ds (lbP (prsOf ds)
 (intsOf ky) * 3 + 0)) (dVals ds (lbP (prsOf ds) (intsOf ky) * 3 + 0)))), (13, Rw.mk Kd.of (List.take (dLen ds (lbP (prsOf ds) (intsOf ky) * 3 + 1)) (dVals ds (lbP (prsOf ds) (intsOf ky) * 3 + 1))))], 14, []), [], [n = 0 →
 ds = [], (∀ (τ : Sg), renL τ ky = some ky) ∧ (m = 0 → ky = []), BsOk ds ky n m ∧ hitP (prsOf ds) (intsOf ky) = true ∧ Value.func (Fn.func 47) (Array.mk []) (Array.mk []) = Value.func (Fn.func 47) #[] #[], (0 : Int) ≤
 (↑(lbP (prsOf ds) (intsOf ky)) : Int) ∧ (↑(lbP (prsOf ds) (intsOf ky)) : Int) < (↑n : Int), ShOb Try.prog 29 false true ds (lbP (prsOf ds) (intsOf ky) * 3) 5, 0 < dLen ds (lbP (prsOf ds) (intsOf ky) * 3 + 0), dLen ds (lbP
 (prsOf ds) (intsOf ky) * 3 + 0) * 1 ≤ 140737488355328 ∧ dLen ds (lbP (prsOf ds) (intsOf ky) * 3 + 0) ≤ 9223372036854775807, List.length (List.take (dLen ds (lbP (prsOf ds) (intsOf ky) * 3 + 0)) (dVals ds (lbP (prsOf ds)
 (intsOf ky) * 3 + 0))) = dLen ds (lbP (prsOf ds) (intsOf ky) * 3 + 0) * 1, ∀ (τ : Sg), renL τ (List.take (dLen ds (lbP (prsOf ds) (intsOf ky) * 3 + 0)) (dVals ds (lbP (prsOf ds) (intsOf ky) * 3 + 0))) = some (List.take
 (dLen ds (lbP (prsOf ds) (intsOf ky) * 3 + 0)) (dVals ds (lbP (prsOf ds) (intsOf ky) * 3 + 0))), dLen ds (lbP (prsOf ds) (intsOf ky) * 3 + 0) ≤ List.length (dVals ds (lbP (prsOf ds) (intsOf ky) * 3 + 0)), all1 (List.take
 (dLen ds (lbP (prsOf ds) (intsOf ky) * 3 + 0)) (dVals ds (lbP (prsOf ds) (intsOf ky) * 3 + 0))) = true, dLen ds (lbP (prsOf ds) (intsOf ky) * 3 + 1) * 1 ≤ 140737488355328 ∧ dLen ds (lbP (prsOf ds) (intsOf ky) * 3 + 1) ≤
 9223372036854775807, List.length (List.take (dLen ds (lbP (prsOf ds) (intsOf ky) * 3 + 1)) (dVals ds (lbP (prsOf ds) (intsOf ky) * 3 + 1))) = dLen ds (lbP (prsOf ds) (intsOf ky) * 3 + 1) * 1, ∀ (τ : Sg), renL τ (List.take
 (dLen ds (lbP (prsOf ds) (intsOf ky) * 3 + 1)) (dVals ds (lbP (prsOf ds) (intsOf ky) * 3 + 1))) = some (List.take (dLen ds (lbP (prsOf ds) (intsOf ky) * 3 + 1)) (dVals ds (lbP (prsOf ds) (intsOf ky) * 3 + 1))), dLen ds
 (lbP (prsOf ds) (intsOf ky) * 3 + 1) ≤ List.length (dVals ds (lbP (prsOf ds) (intsOf ky) * 3 + 1)), all1 (List.take (dLen ds (lbP (prsOf ds) (intsOf ky) * 3 + 1)) (dVals ds (lbP (prsOf ds) (intsOf ky) * 3 + 1))) = true]) := by kernel_rfl
/-- A pair that a table may have. -/
structure PkOk (p : Pr) : Prop where
  k1 : 1 ≤ p.1.length
  k2 : p.1.length ≤ 200
  v2 : p.2.1.length ≤ 200
structure TbK (ds : List DV) (n : Nat) : Prop where
  T : TbOk ds n
  K : ∀ p ∈ prsOf ds, PkOk p
def atP (ps : List Pr) (k : List Int) : Pr := ps.getD (lbP ps k) ([], [], false)
theorem atP_hit {ps : List Pr} {k : List Int} (h : hitP ps k = true) : ps[lbP ps k]? = some (atP ps k) ∧ (atP ps k).1 = k ∧ lbP ps k < ps.length := by
  unfold hitP at h
  split at h
  · rename_i p hp
    have e : atP ps k = p := by unfold atP; rw [List.getD_eq_getElem?_getD, hp]; rfl
    exact ⟨by rw [hp, e], by rw [e]; simpa using h, (List.getElem?_eq_some_iff.1 hp).1⟩
  · cases h
def prV (p : Pr) (nx : Nat) : Value := .agg ⟨[.slice (some ⟨nx, 0, none⟩) p.1.length (capBig + nx), .slice (some ⟨nx + 1, 0, none⟩) p.2.1.length (capBig + (nx + 1)), .bool p.2.2]⟩
def gGet : GSpecD := fun aL tp => match aL, tp with
  | [.tb [.bool true] ds n, .sl ky m], false :: tp' => some (⟨fun _ => .tuple ⟨[.agg ⟨zPr⟩, .int .i64 6]⟩, []⟩, tp', [TbK ds n ∧ BytI m ky ∧ hitP (prsOf ds) (intsOf ky) = false])
  | [.tb [.bool true] ds n, .sl ky m], true :: tp' => some (⟨fun nx => .tuple ⟨[prV (atP (prsOf ds) (intsOf ky)) nx, .int .i64 0]⟩, [⟨.of, byV (atP (prsOf ds) (intsOf ky)).1⟩, ⟨.of, byV (atP (prsOf ds) (intsOf ky)).2.1⟩]⟩, tp', [TbK ds n ∧ BytI m ky ∧ hitP (prsOf ds) (intsOf ky) = true])
  | _, _ => none
theorem tbX {L : LFun} {T : TFun} : XOkZ (tbV L T) Try.prog := XOneZ.ok cmpY_ok rfl
theorem tbT {L : LFun} : TOkZ (tbV L bsT) Try.prog := T_okV rfl bsT_one
theorem tbL0 {T : TFun} : LOkZ (tbV noL T) Try.prog := noL_okV rfl
theorem get_gok : GOkD Try.prog 18 gGet := by
  intro aL tp gr tp' ob hG ho cs hc
  unfold gGet at hG
  split at hG
  · rename_i ds n ky m tp2
    simp only [Option.some.injEq, Prod.mk.injEq] at hG
    obtain ⟨rfl, rfl, rfl⟩ := hG
    obtain ⟨⟨h1, h2, h3⟩, _⟩ := ho
    obtain ⟨c, d, rfl⟩ : ∃ c d, cs = [c, d] := by
      match cs, hc with
      | [c, d], _ => exact ⟨c, d, rfl⟩
    have he : (prsOf ds).length = 0 → ds = [] := fun e => by
      have := h1.T.P
      rw [List.eq_nil_of_length_eq_zero e] at this
      exact this
    obtain ⟨h', nx', dd, T⟩ := run_val (V := tbV noL bsT) tbX tbT tbL0 (gt_no n c m ds ky) ⟨fun e => he (by rw [h1.T.l, e]), ⟨h2.fl, fun e => List.eq_nil_of_length_eq_zero (by rw [h2.2.2, e])⟩, ⟨⟨h1.T, h2⟩, h3, rfl⟩, trivial⟩ rfl
    exact ⟨_, h', nx', dd, fun n => n, T, GrD.flat fun σ => rfl⟩
  · rename_i ds n ky m tp2
    simp only [Option.some.injEq, Prod.mk.injEq] at hG
    obtain ⟨rfl, rfl, rfl⟩ := hG
    obtain ⟨⟨h1, h2, h3⟩, _⟩ := ho
    obtain ⟨c, d, rfl⟩ : ∃ c d, cs = [c, d] := by
      match cs, hc with
      | [c, d], _ => exact ⟨c, d, rfl⟩
    have he : (prsOf ds).length = 0 → ds = [] := fun e => by
      have := h1.T.P
      rw [List.eq_nil_of_length_eq_zero e] at this
      exact this
    obtain ⟨g1, g2, g3⟩ := atP_hit h3
    have F := h1.T.P.facts g1
    have hm := List.mem_of_getElem? g1
    have hK := h1.K _ hm
    have hlt : lbP (prsOf ds) (intsOf ky) < n := by rw [← h1.T.l]; exact g3
    have T := gt_yes n c m ds ky
    have f0 := F.l0
    have f1 := F.l1
    have v0 := F.v0
    have v1 := F.v1
    have gb := F.g
    have o1 := F.o29 5
    generalize atP (prsOf ds) (intsOf ky) = p at *
    have hl0 := byV_len p.1
    have hl1 := byV_len p.2.1
    have t0 : List.take p.1.length (byV p.1) = byV p.1 := List.take_of_length_le (by omega)
    have t1 : List.take p.2.1.length (byV p.2.1) = byV p.2.1 := List.take_of_length_le (by omega)
    have a0 : all1 (byV p.1) = true := all1_map p.1
    have a1 : all1 (byV p.2.1) = true := all1_map p.2.1
    have r0 := byV_ren p.1
    have r1 := byV_ren p.2.1
    obtain ⟨k1, k2, k3⟩ := hK
    simp only [Nat.add_zero, f0, f1, v0, v1, gb, t0, t1] at T
    have T2 := run_tri tbX tbT tbL0 T ?_ rfl
    · refine ⟨_, _, _, _, fun i => 11 + 2 * i, T2, ⟨fun nx => ?_, fun j r hj => ?_, fun i j hi hj e => by omega⟩⟩
      · have e1 := f2s_slice (nx := nx) (k := 2) (g := fun i => 11 + 2 * i) (j := 0) (by omega) p.1.length
        have e2 := f2s_slice (nx := nx) (k := 2) (g := fun i => 11 + 2 * i) (j := 1) (by omega) p.2.1.length
        exact renV_tuple_mk (renL_mk (renV_agg_mk (renL_mk e1 (renL_mk e2 (renL_mk rfl rfl)))) (renL_mk rfl rfl))
      · match j, hj with
        | 0, hj => cases hj; exact ⟨r0, rfl, rfl⟩
        | 1, hj => cases hj; exact ⟨r1, rfl, rfl⟩
    · have hb2 : BsOk ds ky n m := ⟨h1.T, h2⟩
      have hds : n = 0 → ds = [] := fun e => he (by rw [h1.T.l, e])
      have hky : m = 0 → ky = [] := fun e => List.eq_nil_of_length_eq_zero (by rw [h2.2.2, e])
      have hfl := h2.fl
      simp only [Alls, rg, decide_eq_true_eq, decide_eq_false_iff_not, Nat.mul_one, hl0, hl1]
      repeat' (with_reducible apply And.intro)
      all_goals first | omega | (with_reducible assumption) | (with_reducible exact trivial) | (with_reducible rfl) | exact h3 | skip
  · cases hG
def getT : TFun := mkD 18 [.t 3, .s] gGet
theorem getT_one : TOneZ Try.prog getT := mkD_ok get_gok
end Go.Proofs.Ytojakfnljopjbaa
