/-
  Chapter 30: headers that may be; Delete; how often an op is in a list.
-/
import Derived.Test.YtcahhoemlmbnaaaDelA
namespace Go.Proofs.Ytcahhoemlmbnaaa
set_option linter.unusedSimpArgs false
set_option linter.unusedVariables false
set_option linter.unusedSectionVars false
open Go Go.RowKit

def hdrL (x : Int) : List Value := [.int .i64 3, .int .i64 0, .int .i64 0, .int .i64 0, .int .i64 0, .int .i64 x, .int .i64 0, .int .i64 0, .int .i64 0, .int .u64 0, .int .u64 0, .int .i64 0, .int .i64 0, .int .u64 0, .int .i64 0, .int .i64 0]
def pk (x : Int) : List Value := .int .i64 0 :: .int .i64 1 :: (hdrL x ++ [.slice none 0 0])
def pks : List Int → List Value
  | [] => []
  | x :: l => pk x ++ pks l
def hkV : Tv := ⟨noTz, noXz, noL, tbl 29 [26, 31], noSy, fun _ => [], fun _ => 0⟩
theorem hk_run (x : Int) : prjV (runZ hkV Try.prog 9 29 [.agg ⟨hdrL x⟩] [] 1 [false, false, false, false, false, false, false, false, false, false, false, false, false, false, false, false, false, false, false, false]) =
  Res.ok (Value.int IntKind.i64 (0 : Int), [], [false = false, false = false, false = false, false = false, decide (x < (0 : Int)) = false, decide (x > (1073741824 : Int)) = false, false = false, false = false, false =
 false, false = false, false = false, false = false, false = false, false = false, false = false, false = false, false = false, false = false, false = false, false = false]) := by kernel_rfl
def ctV (L : LFun) : Tv := ⟨noTz, noXz, L, tbl 14 [10, 21], allSy 14 [], fun _ => [], fun _ => 0⟩
def ctB (P : Program) : Code := bodyIn P 14 3
def ctS (n c : Nat) (x : Int) (k i : Nat) : List (Nat × Value) := [(0, .slice (some ⟨0, 0, none⟩) n c), (1, .int .i64 x), (5, .int .i64 (k : Int)), (6, .int .i64 (i : Int))]
theorem ct_hit (inr : Bool) (xs : List Value) (n c k i : Nat) (x : Int) : prjZ [0, 1, 5, 6] (codeZ (ctV noL) Try.prog (runZ (ctV noL) Try.prog 5) 14 inr 100000 (ctB Try.prog) (SL 25 (ctS n c x k i)) [(0, ⟨.old, xs⟩)] 2 [true, true]) =
  Res.ok ((Xt.normal, 25, [(0, Value.slice (some (Addr.mk 0 0 none)) n c), (1, Value.int IntKind.i64 x), (5, Value.int IntKind.i64 (↑(k + 1) : Int)), (6, Value.int IntKind.i64 (↑(i + 1) : Int))], [(0, Rw.mk Kd.old xs)], 2,
 [], []), [], [decide ((↑i : Int) < (↑n : Int)) = true, (0 : Int) ≤ (↑i : Int) ∧ (↑i : Int) < (↑n : Int), xs[i * 19 + 2 + 0 + 5]? = some (Value.int IntKind.i64 (intAt xs (i * 19 + 2 + 0 + 5))), (intAt xs (i * 19 + 2 + 0 +
 5) == x) = true, rg IntKind.i64 (↑(k + 1) : Int), rg IntKind.i64 (↑(i + 1) : Int)]) := by kernel_rfl
theorem ct_miss (inr : Bool) (xs : List Value) (n c k i : Nat) (x : Int) : prjZ [0, 1, 5, 6] (codeZ (ctV noL) Try.prog (runZ (ctV noL) Try.prog 5) 14 inr 100000 (ctB Try.prog) (SL 25 (ctS n c x k i)) [(0, ⟨.old, xs⟩)] 2 [true, false]) =
  Res.ok ((Xt.normal, 25, [(0, Value.slice (some (Addr.mk 0 0 none)) n c), (1, Value.int IntKind.i64 x), (5, Value.int IntKind.i64 (↑k : Int)), (6, Value.int IntKind.i64 (↑(i + 1) : Int))], [(0, Rw.mk Kd.old xs)], 2, [],
 []), [], [decide ((↑i : Int) < (↑n : Int)) = true, (0 : Int) ≤ (↑i : Int) ∧ (↑i : Int) < (↑n : Int), xs[i * 19 + 2 + 0 + 5]? = some (Value.int IntKind.i64 (intAt xs (i * 19 + 2 + 0 + 5))), (intAt xs (i * 19 + 2 + 0 + 5)
 == x) = false, rg IntKind.i64 (↑(i + 1) : Int)]) := by kernel_rfl
theorem ct_end (inr : Bool) (xs : List Value) (n c k i : Nat) (x : Int) : prjZ [5] (codeZ (ctV noL) Try.prog (runZ (ctV noL) Try.prog 5) 14 inr 100000 (ctB Try.prog) (SL 25 (ctS n c x k i)) [(0, ⟨.old, xs⟩)] 2 [false]) =
  Res.ok ((Xt.exit 0, 25, [(5, Value.int IntKind.i64 (↑k : Int))], [(0, Rw.mk Kd.old xs)], 2, [], []), [], [decide ((↑i : Int) < (↑n : Int)) = false]) := by kernel_rfl
def cnt (xs : List Value) (x : Int) : Nat → Nat → Nat
  | 0, _ => 0
  | r + 1, i => (if intAt xs (i * 19 + 2 + 0 + 5) = x then 1 else 0) + cnt xs x r (i + 1)
def PkOk (xs : List Value) (n : Nat) : Prop := ∃ l, xs = pks l ∧ l.length = n ∧ n ≤ 1000
def ctSpec : LSpec := lspec (fun live h => match live, h with | (_, .slice _ n c) :: (_, .int _ x) :: _, [(_, r)] => some (n, c, x, r.cs) | _, _ => none) (fun a => (ctS a.1 a.2.1 a.2.2.1 0 0, [(0, ⟨.old, a.2.2.2⟩)], 2))
  (fun a tp => some ((.exit 0, [(5, .int .i64 (cnt a.2.2.2 a.2.2.1 a.1 0 : Nat))], [(0, ⟨.old, a.2.2.2⟩)], 2, []), tp, [PkOk a.2.2.2 a.1, a.1 ≤ a.2.1 ∧ a.2.1 ≤ 9223372036854775807]))
def ctL (P : Program) : LFun := mkL 14 3 25 [0, 1, 5, 6] (ctB P) ctSpec
theorem ct_all (xs : List Value) (n c : Nat) (x : Int) : prjV (runZ (ctV (ctL Try.prog)) Try.prog 5 14 [.slice (some ⟨0, 0, none⟩) n c, .int .i64 x] [(0, ⟨.old, xs⟩)] 2 []) =
  Res.ok (Value.int IntKind.i64 (↑(cnt xs x n 0) : Int), [], [ctB Try.prog = ctB Try.prog, [(0, Value.slice (some (Addr.mk 0 0 none)) n c), (1, Value.int IntKind.i64 x), (5, Value.int IntKind.i64 (0 : Int)), (6, Value.int
 IntKind.i64 (0 : Int))] = ctS n c x 0 0, [(0, Rw.mk Kd.old xs)] = [(0, Rw.mk Kd.old xs)], 2 = 2, PkOk xs n, n ≤ c ∧ c ≤ 9223372036854775807]) := by kernel_rfl

/-! ### packets -/
theorem pk_len (x : Int) : (pk x).length = 19 := rfl
theorem pk_fl (x : Int) : Fl (pk x) := Fl.of rfl
theorem pk_one (x : Int) : all1 (pk x) = true := rfl
theorem pks_len : ∀ l, (pks l).length = l.length * 19
  | [] => rfl
  | x :: l => by simp only [pks, List.length_append, pk_len, pks_len l, List.length_cons]; omega
theorem pks_fl : ∀ l, Fl (pks l)
  | [] => Fl.of rfl
  | x :: l => (pk_fl x).app (pks_fl l)
theorem pks_one : ∀ l, all1 (pks l) = true
  | [] => rfl
  | x :: l => by simp only [pks]; exact all1_app.2 ⟨pk_one x, pks_one l⟩
theorem pks_app : ∀ a b, pks (a ++ b) = pks a ++ pks b
  | [], b => rfl
  | x :: a, b => by simp only [List.cons_append, pks, pks_app a b, List.append_assoc]
theorem pks_take : ∀ (l : List Int) (i : Nat), (pks l).take (i * 19) = pks (l.take i)
  | l, 0 => by simp [pks]
  | [], i + 1 => by simp [pks]
  | x :: l, i + 1 => by
      simp only [pks, List.take_succ_cons]
      rw [List.take_append, List.take_of_length_le (by rw [pk_len]; omega), pk_len, show (i + 1) * 19 - 19 = i * 19 by omega, pks_take l i]
theorem pks_drop : ∀ (l : List Int) (i : Nat), (pks l).drop (i * 19) = pks (l.drop i)
  | l, 0 => by simp [pks]
  | [], i + 1 => by simp [pks]
  | x :: l, i + 1 => by
      simp only [pks, List.drop_succ_cons]
      rw [List.drop_append, List.drop_of_length_le (by rw [pk_len]; omega), List.nil_append, pk_len, show (i + 1) * 19 - 19 = i * 19 by omega, pks_drop l i]
theorem pks_del (l : List Int) (i : Nat) : delP (pks l) (i : Int) = pks (l.take i ++ l.drop (i + 1)) := by
  unfold delP
  rw [Int.toNat_natCast, pks_take, pks_drop, pks_app]
theorem pks_row {l : List Int} {i : Nat} (h : i < l.length) : ((pks l).drop (i * 19)).take 19 = pk (l.getD i 0) := by
  have e : l.drop i = l.getD i 0 :: l.drop (i + 1) := by rw [List.drop_eq_getElem_cons h]; simp [h]
  rw [pks_drop, e]
  simp only [pks]
  exact List.take_left' (pk_len _)
theorem pks_at {l : List Int} {i j : Nat} (h : i < l.length) (hj : j < 19) : (pks l)[i * 19 + j]? = (pk (l.getD i 0))[j]? := by
  rw [← pks_row h, List.getElem?_take, if_pos hj, List.getElem?_drop]
theorem pks_op {l : List Int} {i : Nat} (h : i < l.length) : (pks l)[i * 19 + 2 + 0 + 5]? = some (.int .i64 (l.getD i 0)) := by
  rw [show i * 19 + 2 + 0 + 5 = i * 19 + 7 by omega, pks_at h (by omega)]; rfl
theorem pks_int {l : List Int} {i : Nat} (h : i < l.length) : intAt (pks l) (i * 19 + 2 + 0 + 5) = l.getD i 0 := by
  unfold intAt; rw [pks_op h]

/-! ### headers -/
def gChk : GSpec := fun av tp => match av with
  | [.fl (.agg ⟨_ :: _ :: _ :: _ :: _ :: .int _ x :: _⟩)] => some (⟨fun _ => .int .i64 0, []⟩, tp, [av = [.fl (.agg ⟨hdrL x⟩)] ∧ 0 ≤ x ∧ x ≤ 1073741824])
  | _ => none
theorem chk_gok : GOk Try.prog 29 [.f] gChk := by
  have hX : XOkZ hkV Try.prog := noXz_ok rfl
  have hT : TOkZ hkV Try.prog := noTz_okV rfl
  have hL : LOkZ hkV Try.prog := noL_okV rfl
  intro av tp gr tp' ob hG ho hP caps hcap
  unfold gChk at hG
  split at hG
  case h_2 => cases hG
  rename_i x _
  simp only [Option.some.injEq, Prod.mk.injEq] at hG
  obtain ⟨rfl, rfl, rfl⟩ := hG
  obtain ⟨⟨ha, x0, x1⟩, _⟩ := ho
  rw [ha]
  obtain ⟨h', nx', dd, T⟩ := run_val hX hT hL (hk_run x) (by
    simp only [Alls, decide_eq_false_iff_not]
    repeat' apply And.intro
    all_goals first | omega | (with_reducible exact trivial)) rfl
  exact ⟨_, _, _, _, fun n => n, T, GrIs.flat fun σ => rfl⟩

/-! ### Delete -/
def delT : TFun := fun f args h nx tp => bif Nat.beq f 33 then (match args with
  | [.slice (some ⟨m, 0, none⟩) n c, .int .i64 i, .int .i64 j] => match lk h m with
    | some ⟨.room 19 z, cs⟩ => some (.ok ((.slice (some ⟨nx, 0, none⟩) (n - 1) (capBig + nx), (nx, ⟨.room 19 zPk, delP cs i⟩) :: delH h m, nx + 1, [m]), tp, [c = capBig + m ∧ z = zPk ∧ 0 ≤ i ∧ i < (n : Int) ∧ j = i + 1 ∧ cs.length = n * 19 ∧ Fl cs ∧ all1 cs = true]))
    | _ => none
  | _ => none) else none
theorem delT_one : TOneZ Try.prog delT := by
  intro f args h nx tp out tp' ob e ho
  unfold delT at e
  rcases bif_or e with ⟨hf, e1⟩ | ⟨_, e1⟩
  case inr => cases e1
  clear e
  obtain rfl := Nat.eq_of_beq_eq_true hf
  split at e1
  case h_2 => cases e1
  rename_i m n c i j
  split at e1
  case h_2 => cases e1
  rename_i z cs hl
  simp only [Option.some.injEq, Res.ok.injEq, Prod.mk.injEq] at e1
  obtain ⟨rfl, rfl, rfl⟩ := e1
  obtain ⟨⟨rfl, rfl, g1, g2, g3, g4, g5, g6⟩, _⟩ := ho
  exact del_tri hl g1 g2 g3 g4 g5 g6

/-! ### count -/
theorem ct_loop {inr : Bool} {h0 : Hp} {l : List Int} {n c : Nat} {x : Int} (hl : l.length = n) (hn : n ≤ 1000) (hc : n ≤ c ∧ c ≤ 9223372036854775807) : ∀ (r k i : Nat), i + r = n → k ≤ i →
    LRuns inr Try.prog (ctB Try.prog) 2 2 h0 25 (ctS n c x k i) [(0, ⟨.old, pks l⟩)] 2 (.exit 0, [(5, .int .i64 (((k + cnt (pks l) x r i : Nat)) : Int))], [(0, ⟨.old, pks l⟩)])
  | 0, k, i, hr, hk => by
      have hX : XOkZ (ctV noL) Try.prog := noXz_ok rfl
      have hT : TOkZ (ctV noL) Try.prog := noTz_okV rfl
      have hL : LOkZ (ctV noL) Try.prog := noL_okV rfl
      refine LRuns.exit (code_runs hX hL (runZ_ok hX hT hL mixed 5) mixed (ct_end inr (pks l) n c k i x) ?_) (by intro e; cases e) rfl (by omega) (by omega) (fun n => n) ?_ ?_ rfl
      · simp only [Alls, decide_eq_false_iff_not]
        exact ⟨by omega, trivial⟩
      · exact ⟨rfl, rfl, trivial⟩
      · exact ⟨rb_old (by omega) rfl (pks_fl l), trivial⟩
  | r + 1, k, i, hr, hk => by
      have hX : XOkZ (ctV noL) Try.prog := noXz_ok rfl
      have hT : TOkZ (ctV noL) Try.prog := noTz_okV rfl
      have hL : LOkZ (ctV noL) Try.prog := noL_okV rfl
      have hi : i < l.length := by omega
      have e1 := pks_op hi
      have e2 := pks_int hi
      by_cases hx : l.getD i 0 = x
      · have nx := ct_loop (inr := inr) (h0 := h0) (x := x) hl hn hc r (k + 1) (i + 1) (by omega) (by omega)
        rw [show k + 1 + cnt (pks l) x r (i + 1) = k + cnt (pks l) x (r + 1) i by simp only [cnt, e2, hx, if_true]; omega] at nx
        refine LRuns.step (code_runs hX hL (runZ_ok hX hT hL mixed 5) mixed (ct_hit inr (pks l) n c k i x) ?_) rfl (by omega) (Nat.le_refl _) (fun n => n) ?_ ?_ rfl nx
        · simp only [e1, e2, Alls, rg, decide_eq_true_eq, beq_iff_eq]
          repeat' apply And.intro
          all_goals first | omega | (with_reducible assumption) | (with_reducible exact trivial) | (with_reducible rfl)
        · exact ⟨rfl, rb_slc rfl (by unfold capBig; omega), rfl, rfl, rfl, rfl, rfl, rfl, trivial⟩
        · exact ⟨rb_old (by omega) rfl (pks_fl l), trivial⟩
      · have nx := ct_loop (inr := inr) (h0 := h0) (x := x) hl hn hc r k (i + 1) (by omega) (by omega)
        rw [show k + cnt (pks l) x r (i + 1) = k + cnt (pks l) x (r + 1) i by simp only [cnt, e2, if_neg hx]; omega] at nx
        refine LRuns.step (code_runs hX hL (runZ_ok hX hT hL mixed 5) mixed (ct_miss inr (pks l) n c k i x) ?_) rfl (by omega) (Nat.le_refl _) (fun n => n) ?_ ?_ rfl nx
        · simp only [e1, e2, Alls, rg, decide_eq_true_eq, beq_eq_false_iff_ne]
          repeat' apply And.intro
          all_goals first | omega | (with_reducible assumption) | (with_reducible exact trivial) | (with_reducible rfl)
        · exact ⟨rfl, rb_slc rfl (by unfold capBig; omega), rfl, rfl, rfl, rfl, rfl, rfl, trivial⟩
        · exact ⟨rb_old (by omega) rfl (pks_fl l), trivial⟩
theorem ctS_ok : LSOk Try.prog 25 [0, 1, 5, 6] (ctB Try.prog) ctSpec := by
  refine lspec_ok fun x tp xt l2 h2 nx2 d tp' ob hs ho inr ts hn hg => ?_
  obtain ⟨n, c, v, xs⟩ := x
  simp only at hs hg
  simp only [Option.some.injEq, Prod.mk.injEq] at hs
  obtain ⟨⟨rfl, rfl, rfl, rfl, rfl⟩, rfl, rfl⟩ := hs
  obtain ⟨⟨l, rfl, hl, hn1⟩, hc, _⟩ := ho
  have key := ct_loop (inr := inr) (h0 := [(0, ⟨.old, pks l⟩)]) (x := v) hl hn1 hc n 0 0 (by omega) (by omega)
  rw [Nat.zero_add] at key
  refine LRuns.enter (l2 := ctS n c v 0 0) hn hg (Nat.le_refl 2) (by omega) (fun n => n) ?_ ?_ rfl key ?_
  · exact ⟨rfl, rb_slc rfl (by unfold capBig; omega), rfl, rfl, rfl, rfl, rfl, rfl, trivial⟩
  · exact ⟨rb_old (by omega) rfl (pks_fl l), trivial⟩
  · exact tidy_of (by omega) (fun n hn hd => rfl) rfl
def gCnt : GSpec := fun av tp => match av with
  | [.sl xs n, .fl (.int .i64 x)] => some (⟨fun _ => .int .i64 (cnt xs x n 0 : Nat), []⟩, tp, [PkOk xs n])
  | _ => none
theorem cnt_gok : GOk Try.prog 14 [.s 19, .f] gCnt := by
  have hX : XOkZ (ctV (ctL Try.prog)) Try.prog := noXz_ok rfl
  have hT : TOkZ (ctV (ctL Try.prog)) Try.prog := noTz_okV rfl
  have hL : LOkZ (ctV (ctL Try.prog)) Try.prog := L_okV rfl (mkL_ok ctS_ok)
  intro av tp gr tp' ob hG ho hP caps hcap
  unfold gCnt at hG
  split at hG
  case h_2 => cases hG
  rename_i xs n x
  simp only [Option.some.injEq, Prod.mk.injEq] at hG
  obtain ⟨rfl, rfl, rfl⟩ := hG
  obtain ⟨c, d, rfl⟩ := caps2 hcap
  obtain ⟨h', nx', dd, T⟩ := run_val hX hT hL (ct_all xs n c x) ⟨rfl, rfl, rfl, rfl, ho.1, hcap.1, trivial⟩ rfl
  exact ⟨_, _, _, _, fun n => n, T, GrIs.flat fun σ => rfl⟩
def netT : TFun := orTz (mkT 8 [] gTrueY) (orTz (mkT 29 [.f] gChk) (orTz (mkT 14 [.s 19, .f] gCnt) delT))
def awV : Tv := ⟨noTz, noXz, noL, fun _ => [], noSy, fun _ => [], fun _ => 0⟩
theorem net_aw  : prjV (runZ awV Try.prog 30 8 [] [] 0 []) =
  Res.ok (Value.bool true, [], []) := by kernel_rfl
theorem aw_gok : GOk Try.prog 8 [] gTrueY :=
  gTrueY_tri (run_val (V := awV) (noXz_ok rfl) (noTz_okV rfl) (noL_okV rfl) net_aw trivial rfl)
theorem netT_one : TOneZ Try.prog netT := orTz_ok (mkT_one aw_gok) (orTz_ok (mkT_one chk_gok) (orTz_ok (mkT_one cnt_gok) delT_one))
end Go.Proofs.Ytcahhoemlmbnaaa
