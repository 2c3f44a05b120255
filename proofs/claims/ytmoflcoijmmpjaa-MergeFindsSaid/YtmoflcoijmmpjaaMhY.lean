/-
  Chapter 14: merge.Find: runs of its loops' rounds.
-/
import Derived.Test.YtmoflcoijmmpjaaMhZ
import Derived.Test.YtmoflcoijmmpjaaMhV
namespace Go.Proofs.Ytmoflcoijmmpjaa
set_option linter.unusedSimpArgs false
set_option linter.unusedVariables false
set_option linter.unusedSectionVars false
open Go Go.RowKit
def fdTab : FuncId → List Nat := fun f => bif Nat.beq f 14 then [13, 19] else bif Nat.beq f 33 then [9] else []
def fdSy : FuncId → Nat → Option Nat := orSy (lsSy 14 [(13, 0), (14, 0), (15, 37), (19, 0), (20, 0), (21, 36), (28, 0), (29, 0)]) (orSy (lsSy 34 [(5, 43), (8, 43)]) (lsSy 33 [(6, 0), (8, 0), (9, 0)]))
def fdV (L : LFun) : Tv := ⟨noTz, cmpY, L, fdTab, fdSy, fun _ => [], fun _ => 0⟩
def kyV (m : Nat) : Value := .slice (some ⟨2, 0, none⟩) m (capBig + 2)
def cpV : Value := .pointer (some ⟨4, 0, none⟩)
def flV (n : Nat) : Value := .slice (some ⟨60, 0, none⟩) n (capBig + 60)
def fdH (ds : List DV) (ks : List Value) : Hp := [(4, ⟨.shut, zPr⟩), (0, ⟨.sw ds, []⟩), (2, ⟨.ow, ks⟩)]
theorem fi_go (inr : Bool) (n m i l j : Nat) (ds es : List DV) (ks : List Value) : prjP [1, 4, 10, 11, 12, 16, 17, 18] 100 (codeZ (fdV noL) Try.prog (runZ (fdV noL) Try.prog 9) 14 inr 100000 (bodyIn Try.prog 14 5) (SL 31 [(1, kyV
 m), (4, cpV), (10, llA n), (11, iV n), (12, iV i), (16, flV l), (17, iV l), (18, iV j)]) ((60, ⟨.sw es, []⟩) :: fdH ds ks) 100 [true, false])
 =
  (let a1 := (dVals es (j * 3 + 0)); let a2 := (intsOf (List.take (dLen es (j * 3 + 0)) a1)); Res.ok ((Xt.normal, 31, [(1, Value.slice (some (Addr.mk 2 0 none)) m (capBig + 2)), (4, Value.pointer (some (Addr.mk 4 0 none))), (10,
 Value.slice (some (Addr.mk 0 0 none)) n 18446744073709551616), (11, Value.int IntKind.i64 (↑n : Int)), (12, Value.int IntKind.i64 (↑i : Int)), (16, Value.slice (some (Addr.mk 60 0 none)) l (capBig + 60)), (17, Value.int
 IntKind.i64 (↑l : Int)), (18, Value.int IntKind.i64 (↑(j + 1) : Int))], [(101, Rw.mk Kd.ow (dVals es (j * 3 + 1))), (100, Rw.mk Kd.ow a1), (60, Rw.mk (Kd.sw es) []), (4, Rw.mk Kd.shut [Value.slice none 0 0, Value.slice none 0 0,
 Value.bool false]), (0, Rw.mk (Kd.sw ds) []), (2, Rw.mk Kd.ow ks)], 103, [102], []), [], [decide ((↑j : Int) < (↑l : Int)) = true, (0 : Int) ≤ (↑j : Int) ∧ (↑j : Int) < (↑l : Int), ShOb Try.prog 32 false true es (j * 3) 100, dLen
 es (j * 3 + 0) ≤ List.length a1, List.take (dLen es (j * 3 + 0)) a1 = List.map (Value.int IntKind.u8) a2, m ≤ List.length ks, List.take m ks = List.map (Value.int IntKind.u8) (intsOf (List.take m ks)), strEq (strOfI a2) (strOfI
 (intsOf (List.take m ks))) = false, rg IntKind.i64 (↑(j + 1) : Int)])) := by
 kernel_rfl
theorem fi_hit (inr : Bool) (n m i l j : Nat) (ds es : List DV) (ks : List Value) : prjZ [4, 5] (codeZ (fdV noL) Try.prog (runZ (fdV noL) Try.prog 9) 14 inr 100000 (bodyIn Try.prog 14 5) (SL 31 [(1, kyV m), (4, cpV), (10, llA n),
 (11, iV n), (12, iV i), (16, flV l), (17, iV l), (18, iV j)]) ((60, ⟨.sw es, []⟩) :: fdH ds ks) 100 [true, true])
 =
  (let a5 := (dBool es (j * 3 + 2)); let a4 := (j * 3 + 1); let a8 := (dLen es a4); let a3 := (j * 3 + 0); let a7 := (dVals es a3); let a6 := (dLen es a3); let a2 := (List.take a8 (dVals es a4)); let a1 := (List.take a6 a7);
 Res.ok ((Xt.ret, 31, [(4, Value.pointer (some (Addr.mk 4 0 none))), (5, Value.bool true)], [(104, Rw.mk Kd.shut [Value.slice (some (Addr.mk 106 0 none)) a6 (capBig + 106), Value.slice (some (Addr.mk 108 0 none)) a8 (capBig + 108),
 Value.bool a5]), (103, Rw.mk Kd.shut [Value.slice (some (Addr.mk 100 0 none)) a6 (capBig + 100), Value.slice (some (Addr.mk 101 0 none)) a8 (capBig + 101), Value.bool a5]), (102, Rw.mk Kd.shut [Value.slice (some (Addr.mk 100 0
 none)) a6 (capBig + 100), Value.slice (some (Addr.mk 101 0 none)) a8 (capBig + 101), Value.bool a5]), (101, Rw.mk Kd.ow (dVals es a4)), (100, Rw.mk Kd.ow a7), (60, Rw.mk (Kd.sw es) []), (4, Rw.mk Kd.shut [Value.slice (some
 (Addr.mk 106 0 none)) a6 (capBig + 106), Value.slice (some (Addr.mk 108 0 none)) a8 (capBig + 108), Value.bool a5]), (0, Rw.mk (Kd.sw ds) []), (2, Rw.mk Kd.ow ks), (106, Rw.mk Kd.of a1), (108, Rw.mk Kd.of a2)], 109, [4, 102], []),
 [], [decide ((↑j : Int) < (↑l : Int)) = true, (0 : Int) ≤ (↑j : Int) ∧ (↑j : Int) < (↑l : Int), ShOb Try.prog 32 false true es (j * 3) 100, dLen es a3 ≤ List.length a7, List.take a6 a7 = List.map (Value.int IntKind.u8) (intsOf
 a1), m ≤ List.length ks, List.take m ks = List.map (Value.int IntKind.u8) (intsOf (List.take m ks)), strEq (strOfI (intsOf a1)) (strOfI (intsOf (List.take m ks))) = true, dLen es a3 * 1 ≤ 140737488355328 ∧ dLen es a3 ≤
 9223372036854775807, List.length a1 = dLen es a3 * 1, ∀ (τ : Sg), renL τ a1 = some a1, dLen es a3 ≤ List.length a7, all1 a1 = true, dLen es a4 * 1 ≤ 140737488355328 ∧ dLen es a4 ≤ 9223372036854775807, List.length a2 = dLen es a4 *
 1, ∀ (τ : Sg), renL τ a2 = some a2, dLen es a4 ≤ List.length (dVals es a4), all1 a2 = true])) := by
 kernel_rfl
theorem fi_end (inr : Bool) (n m i l j : Nat) (ds es : List DV) (ks : List Value) : prjP [1, 4, 10, 11, 12] 100 (codeZ (fdV noL) Try.prog (runZ (fdV noL) Try.prog 9) 14 inr 100000 (bodyIn Try.prog 14 5) (SL 31 [(1, kyV m), (4, cpV), (10, llA n), (11, iV n), (12, iV i), (16, flV l), (17, iV l), (18, iV j)]) ((60, ⟨.sw es, []⟩) :: fdH ds ks) 100 [false]) =
  Res.ok ((Xt.exit 2, 31, [(1, Value.slice (some (Addr.mk 2 0 none)) m (capBig + 2)), (4, Value.pointer (some (Addr.mk 4 0 none))), (10, Value.slice (some (Addr.mk 0 0 none)) n 18446744073709551616), (11, Value.int
 IntKind.i64 (↑n : Int)), (12, Value.int IntKind.i64 (↑i : Int))], [(60, Rw.mk (Kd.sw es) []), (4, Rw.mk Kd.shut [Value.slice none 0 0, Value.slice none 0 0, Value.bool false]), (0, Rw.mk (Kd.sw ds) []), (2, Rw.mk Kd.ow
 ks)], 100, [], []), [], [decide ((↑j : Int) < (↑l : Int)) = false]) := by kernel_rfl
end Go.Proofs.Ytmoflcoijmmpjaa
/-
  Chapter 14: merge.Find: the laws of its loops; its contract.
-/
namespace Go.Proofs.Ytmoflcoijmmpjaa
set_option linter.unusedSimpArgs false
set_option linter.unusedVariables false
set_option linter.unusedSectionVars false
open Go Go.RowKit
theorem fdX {L : LFun} : XOkZ (fdV L) Try.prog := XOneZ.ok cmpY_ok rfl
theorem fdT {L : LFun} : TOkZ (fdV L) Try.prog := noTz_okV rfl
theorem fdL : LOkZ (fdV noL) Try.prog := noL_okV rfl
def slN (k n : Nat) : Value := .slice (some ⟨k, 0, none⟩) n (capBig + k)
def mwC (A a b : Nat) (g : Bool) : List Value := [slN A a, slN (A + 1) b, .bool g]
def fiS (n m i ln j : Nat) : List (Nat × Value) := [(1, kyV m), (4, cpV), (10, llA n), (11, iV n), (12, iV i), (16, flV ln), (17, iV ln), (18, iV j)]
def fhH (A : Nat) (p : Pr) (ds : List DV) (ks : List Value) : Hp := [(4, ⟨.shut, mwC A p.1.length p.2.1.length p.2.2⟩), (A, ⟨.of, byV p.1⟩), (A + 1, ⟨.of, byV p.2.1⟩), (0, ⟨.sw ds, []⟩), (2, ⟨.ow, ks⟩)]
def fiO (n m i : Nat) (ds : List DV) (ks : List Value) (o : Option Pr) : LO := match o with
  | none => (.exit 2, [(1, kyV m), (4, cpV), (10, llA n), (11, iV n), (12, iV i)], fdH ds ks)
  | some p => (.ret, [(4, cpV), (5, .bool true)], fhH 80 p ds ks)
theorem of_row {lo N : Nat} {ρ : Nat → Nat} {h0 h1 : Hp} {n m : Nat} {cs : List Value} (hn : fnN lo N ρ n = some m) (hl : lk h1 m = some ⟨.of, cs⟩) (hf : ∀ τ, renL τ cs = some cs) : RbRow lo N ρ h0 h1 n ⟨.of, cs⟩ := ⟨m, _, hn, hl, rfl, rfl, .inl (hf _)⟩
theorem of_eq {Y X : List Value} (h : Y = X) : some (Rw.mk .of Y) = some (Rw.mk .of X) := by rw [h]
theorem sh_row {lo N : Nat} {ρ : Nat → Nat} {h0 h1 : Hp} {n m : Nat} {cs cs' : List Value} (hn : fnN lo N ρ n = some m) (hl : lk h1 m = some ⟨.shut, cs'⟩) (hc : renL (sgf lo N ρ) cs = some cs') : RbRow lo N ρ h0 h1 n ⟨.shut, cs⟩ := ⟨m, _, hn, hl, rfl, rfl, .inl hc⟩
theorem sh_eq {Y X : List Value} (h : Y = X) : some (Rw.mk .shut Y) = some (Rw.mk .shut X) := by rw [h]
theorem mw2_ren {f : Sg} {A B C a b : Nat} {g : Bool} (h1 : f.b A = some (B, 0)) (h2 : f.c A = some (capBig + B)) (h3 : f.b (A + 1) = some (C, 0)) (h4 : f.c (A + 1) = some (capBig + C)) (hn : ∀ n, f.f n ≠ none) (hw : f.w = false) : renL f (mwC A a b g) = some [slN B a, slN C b, .bool g] :=
  renL_mk (rb_slg h1 h2 (hn _) hw) (renL_mk (rb_slg h3 h4 (hn _) hw) rfl)
structure FdL (l : List Pr) : Prop where
  O : ∀ p ∈ l, PrOk p
  z : ∀ p ∈ l, PrSz p
  l9 : l.length ≤ 9000000
structure FdK (ks : List Value) (m : Nat) (K : List Int) : Prop where
  e : ks = byV K
  l : m = K.length
  b : ∀ x ∈ K, 0 ≤ x ∧ x < 256
theorem fi_loop {inr : Bool} {h0 : Hp} {ds : List DV} {ks : List Value} {K : List Int} {n m i : Nat} {l : List Pr} (hK : FdK ks m K) (hL : FdL l) : ∀ (r j : Nat), j + r = l.length →
    LRuns inr Try.prog (bodyIn Try.prog 14 5) 61 200 h0 31 (fiS n m i l.length j) ((60, ⟨.sw (cpD l), []⟩) :: fdH ds ks) 100 (fiO n m i ds ks (fnL (l.drop j) K))
  | 0, j, hr => by
      rw [List.drop_of_length_le (by omega)]
      refine LRuns.exit (code_runsP fdX fdL (runZ_ok fdX fdT fdL mixed 9) mixed (fi_end inr n m i l.length j ds (cpD l) ks) ?_) (by intro e; cases e) rfl (by omega) (by omega) (fun n => n) ?_ ?_ rfl
      · simp only [Alls, decide_eq_false_iff_not]
        exact ⟨by omega, trivial⟩
      · exact ⟨rfl, rb_slg rfl rfl, rfl, rfl, rfl, rb_slg rfl rfl, rfl, rfl, rfl, rfl, trivial⟩
      · exact ⟨sh_row (m := 4) rfl rfl rfl, sw_row (m := 0) rfl rfl, ow_row (m := 2) rfl rfl (by rw [hK.e]; exact byV_ren _), trivial⟩
  | r + 1, j, hr => by
      have hj : j < l.length := by omega
      obtain ⟨p, hp⟩ : ∃ p, l[j] = p := ⟨_, rfl⟩
      have F := (cpD_prs l).facts (i := j) (p := p) (by rw [← hp]; exact List.getElem?_eq_getElem hj)
      have hm : p ∈ l := by rw [← hp]; exact List.getElem_mem hj
      have hd : l.drop j = p :: l.drop (j + 1) := by rw [List.drop_eq_getElem_cons hj, hp]
      have f0 := F.l0
      have f1 := F.l1
      have v0 := F.v0
      have v1 := F.v1
      have fg := F.g
      have bp := (hL.O p hm).1
      have bv := (hL.O p hm).2
      have z0 := (hL.z p hm).k
      have z1 := (hL.z p hm).v
      have l9 := hL.l9
      obtain ⟨rfl, rfl, bK⟩ := hK
      have hK : FdK (byV K) K.length K := ⟨rfl, rfl, bK⟩
      have hse0 := strEq_I bp bK
      rw [hd]
      by_cases hk : p.1 = K
      · have e : fnL (p :: l.drop (j + 1)) K = some p := by simp [fnL, hk]
        rw [e]
        rw [decide_eq_true hk] at hse0
        refine LRuns.exit (code_runs fdX fdL (runZ_ok fdX fdT fdL mixed 9) mixed (fi_hit inr n K.length i l.length j ds (cpD l) (byV K)) ?_) (by intro e; cases e) rfl (by omega) (by omega) (fun n => bif Nat.beq n 80 then 106 else bif Nat.beq n 81 then 108 else n) ?_ ?_ rfl
        ·
          simp only [Alls, rg, decide_eq_true_eq, decide_eq_false_iff_not, Nat.add_zero, Nat.zero_add, Nat.mul_one, ixO_eq, Int.toNat_natCast, f0, f1, v0, v1, tk_by, byV_ints, byV_len]
          repeat' (with_reducible apply And.intro)
          all_goals first | omega | (with_reducible assumption) | exact F.o29 _ | (with_reducible exact trivial) | (with_reducible rfl) | exact byV_eq _ | exact a1_by _ | exact byV_ren _ | exact fun e => nil_by e | skip
        · exact ⟨rfl, rfl, rfl, rfl, trivial⟩
        · refine ⟨sh_row (m := 4) rfl (sh_eq ?_) (mw2_ren (B := 106) (C := 108) rfl rfl rfl rfl (fun n => by intro e; cases e) rfl), of_row (m := 106) rfl (of_eq ?_) (byV_ren _), of_row (m := 108) rfl (of_eq ?_) (byV_ren _), sw_row (m := 0) rfl rfl, ow_row (m := 2) rfl rfl (byV_ren _), trivial⟩
          · simp only [Nat.add_zero, f0, f1, fg]
            first | done | rfl
          · simp only [Nat.add_zero, f0, v0, tk_by]
          · simp only [Nat.add_zero, f1, v1, tk_by]
      · have e : fnL (p :: l.drop (j + 1)) K = fnL (l.drop (j + 1)) K := by simp [fnL, hk]
        rw [e]
        rw [decide_eq_false hk] at hse0
        refine LRuns.step (code_runsP fdX fdL (runZ_ok fdX fdT fdL mixed 9) mixed (fi_go inr n K.length i l.length j ds (cpD l) (byV K)) ?_) rfl (by omega) (by omega) (fun n => n) ?_ ?_ rfl (fi_loop hK hL r (j + 1) (by omega))
        ·
          simp only [Alls, rg, decide_eq_true_eq, decide_eq_false_iff_not, Nat.add_zero, Nat.zero_add, Nat.mul_one, ixO_eq, Int.toNat_natCast, f0, f1, v0, v1, tk_by, byV_ints, byV_len]
          repeat' (with_reducible apply And.intro)
          all_goals first | omega | (with_reducible assumption) | exact F.o29 _ | (with_reducible exact trivial) | (with_reducible rfl) | exact byV_eq _ | exact a1_by _ | exact byV_ren _ | exact fun e => nil_by e | skip
        · exact ⟨rfl, rb_slg rfl rfl, rfl, rfl, rfl, rb_slg rfl rfl, rfl, rfl, rfl, rfl, rfl, rb_slg rfl rfl, rfl, rfl, rfl, rfl, trivial⟩
        · exact ⟨sw_row (m := 60) rfl rfl, sh_row (m := 4) rfl rfl rfl, sw_row (m := 0) rfl rfl, ow_row (m := 2) rfl rfl (byV_ren _), trivial⟩
structure FiOk (es : List DV) (ks : List Value) (m ln : Nat) : Prop where
  K : FdK ks m (intsOf ks)
  e : es = cpD (prsOf es)
  L : FdL (prsOf es)
  l : (prsOf es).length = ln
def fiPk (live : List (Nat × Value)) (h : Hp) : Option ((Nat × Nat × Nat × Nat) × List DV × List DV × List Value) := match live, lk h 60, lk h 0, lk h 2 with
  | (_, .slice _ m _) :: _ :: (_, .slice _ n _) :: _ :: (_, .int _ i) :: (_, .slice _ ln _) :: _, some ⟨.sw es, _⟩, some ⟨.sw ds, _⟩, some ⟨.ow, ks⟩ => some ((n, m, i.toNat, ln), es, ds, ks)
  | _, _, _, _ => none
def fiSp (p : Pr) : LSpec := lspec fiPk (fun a => (fiS a.1.1 a.1.2.1 a.1.2.2.1 a.1.2.2.2 0, (60, ⟨.sw a.2.1, []⟩) :: fdH a.2.2.1 a.2.2.2, 61)) (fun a tp => match tp with
  | false :: tp' => some ((.exit 2, [(1, kyV a.1.2.1), (4, cpV), (10, llA a.1.1), (11, iV a.1.1), (12, iV a.1.2.2.1)], fdH a.2.2.1 a.2.2.2, 200, [60]), tp', [FiOk a.2.1 a.2.2.2 a.1.2.1 a.1.2.2.2, fnL (prsOf a.2.1) (intsOf a.2.2.2) = none])
  | true :: tp' => some ((.ret, [(4, cpV), (5, .bool true)], fhH 80 p a.2.2.1 a.2.2.2, 200, [60, 4]), tp', [FiOk a.2.1 a.2.2.2 a.1.2.1 a.1.2.2.2, fnL (prsOf a.2.1) (intsOf a.2.2.2) = some p])
  | [] => none)
theorem fiSp_ok (p : Pr) : LSOk Try.prog 31 [1, 4, 10, 11, 12, 16, 17, 18] (bodyIn Try.prog 14 5) (fiSp p) := by
  refine lspec_ok fun a tp xt l2 h2 nx2 d tp' ob hs ho inr ts hn hg => ?_
  obtain ⟨⟨n, m, i, ln⟩, es, ds, ks⟩ := a
  simp only at hs hg
  have fin : FiOk es ks m ln → ∀ key d, key = fiO n m i ds ks (fnL (prsOf es) (intsOf ks)) → Tidy ((60, ⟨.sw es, []⟩) :: fdH ds ks) 61 key.2.2 200 d → Runs inr (fun F m Q => Code.againIn F m Try.prog (bodyIn Try.prog 14 5) Q) ts ((60, ⟨.sw es, []⟩) :: fdH ds ks) 61 (key.1, SL 31 key.2.1, key.2.2, 200, d, []) := fun h key d hk hT => by
    have q := fi_loop (inr := inr) (h0 := (60, ⟨.sw es, []⟩) :: fdH ds ks) (ds := ds) (n := n) (i := i) h.K h.L (prsOf es).length 0 (by omega)
    rw [List.drop_zero, ← hk, h.l, ← h.e] at q
    refine LRuns.enter (N := 100) (l2 := fiS n m i ln 0) hn hg (by omega) (by omega) (fun n => n) ?_ ?_ rfl q hT
    · exact ⟨rfl, rb_slg rfl rfl, rfl, rfl, rfl, rb_slg rfl rfl, rfl, rfl, rfl, rfl, rfl, rb_slg rfl rfl, rfl, rfl, rfl, rfl, trivial⟩
    · exact ⟨sw_row (m := 60) rfl rfl, sh_row (m := 4) rfl rfl rfl, sw_row (m := 0) rfl rfl, ow_row (m := 2) rfl rfl (by rw [h.K.e]; exact byV_ren _), trivial⟩
  split at hs
  · simp only [Option.some.injEq, Prod.mk.injEq] at hs
    obtain ⟨⟨rfl, rfl, rfl, rfl, rfl⟩, rfl, rfl⟩ := hs
    obtain ⟨h, h1, _⟩ := ho
    refine fin h (.exit 2, [(1, kyV m), (4, cpV), (10, llA n), (11, iV n), (12, iV i)], fdH ds ks) [60] (by rw [h1]; rfl) (tidy_of (by omega) (fun j hj hd => ?_) rfl)
    have : j ≠ 60 := fun e => hd (by simp [e])
    have e : lk ((60, ⟨.sw es, []⟩) :: fdH ds ks) j = lk (fdH ds ks) j := by rw [lk_cons, if_neg this.symm]
    exact e.symm
  · simp only [Option.some.injEq, Prod.mk.injEq] at hs
    obtain ⟨⟨rfl, rfl, rfl, rfl, rfl⟩, rfl, rfl⟩ := hs
    obtain ⟨h, h1, _⟩ := ho
    refine fin h (.ret, [(4, cpV), (5, .bool true)], fhH 80 p ds ks) [60, 4] (by rw [h1]; rfl) (tidy_of (by omega) (fun j hj hd => ?_) rfl)
    have h1 : j ≠ 60 := fun e => hd (by simp [e])
    have h2 : j ≠ 4 := fun e => hd (by simp [e])
    unfold fhH fdH
    simp only [lk_cons, if_neg h1.symm, if_neg h2.symm, if_neg (show ¬ 80 = j by omega), if_neg (show ¬ 80 + 1 = j by omega)]
  · cases hs
def fiLo (P : Program) (p : Pr) : LFun := mkL 14 5 31 [1, 4, 10, 11, 12, 16, 17, 18] (bodyIn P 14 5) (fiSp p)
theorem fiLo_one (p : Pr) : LOne Try.prog (fiLo Try.prog p) := mkL_ok (fiSp_ok p)
theorem fo_go (inr : Bool) (n m i : Nat) (ds : List DV) (ks : List Value) (p : Pr) : prjP [1, 4, 10, 11, 12] 60 (codeZ (fdV (fiLo Try.prog p)) Try.prog (runZ (fdV (fiLo Try.prog p)) Try.prog 9) 14 inr 100000 (bodyIn Try.prog 14 2)
 (SL 31 [(1, kyV m), (4, cpV), (10, llA n), (11, iV n), (12, iV i)]) (fdH ds ks) 60 [true, false])
 =
  (let a6 := (11, Value.int IntKind.i64 (↑n : Int)); let a5 := (4, Value.pointer (some (Addr.mk 4 0 none))); let a4 := (dSub ds (i + 0)); let a3 := (dLen ds (i + 0)); let a2 := (1, Value.slice (some (Addr.mk 2 0 none)) m (capBig +
 2)); let a1 := (10, Value.slice (some (Addr.mk 0 0 none)) n 18446744073709551616); Res.ok ((Xt.normal, 31, [a2, a5, a1, a6, (12, Value.int IntKind.i64 (↑(i + 1) : Int))], [(4, Rw.mk Kd.shut [Value.slice none 0 0, Value.slice none
 0 0, Value.bool false]), (0, Rw.mk (Kd.sw ds) []), (2, Rw.mk Kd.ow ks)], 200, [60], []), [], [decide ((↑i : Int) < (↑n : Int)) = true, (0 : Int) ≤ (↑i : Int) ∧ (↑i : Int) < (↑n : Int), ShOb Try.prog 27 true true ds i 60, bodyIn
 Try.prog (14 : FuncId) 5 = bodyIn Try.prog (14 : FuncId) 5, [a2, a5, a1, a6, (12, Value.int IntKind.i64 (↑i : Int)), (16, Value.slice (some (Addr.mk 60 0 none)) a3 (capBig + 60)), (17, Value.int IntKind.i64 (↑a3 : Int)), (18,
 Value.int IntKind.i64 (0 : Int))] = fiS n m i a3 0, rowsU (List.map olR [bif true then Rw.mk (Kd.sd a4) [] else Rw.mk Kd.old (dVals ds (i + 0))]) 60 (fdH ds ks) = (60, Rw.mk (Kd.sw a4) []) :: fdH ds ks, 61 = 61, FiOk a4 ks m a3,
 fnL (prsOf a4) (intsOf ks) = none, rg IntKind.i64 (↑(i + 1) : Int)])) := by
 kernel_rfl
theorem fo_hit (inr : Bool) (n m i : Nat) (ds : List DV) (ks : List Value) (p : Pr) : prjZ [4, 5] (codeZ (fdV (fiLo Try.prog p)) Try.prog (runZ (fdV (fiLo Try.prog p)) Try.prog 9) 14 inr 100000 (bodyIn Try.prog 14 2) (SL 31 [(1,
 kyV m), (4, cpV), (10, llA n), (11, iV n), (12, iV i)]) (fdH ds ks) 60 [true, true])
 =
  (let a3 := (4, Value.pointer (some (Addr.mk 4 0 none))); let a2 := (dSub ds (i + 0)); let a1 := (dLen ds (i + 0)); Res.ok ((Xt.ret, 31, [a3, (5, Value.bool true)], [(4, Rw.mk Kd.shut [Value.slice (some (Addr.mk 80 0 none))
 (List.length (Prod.fst p)) (capBig + 80), Value.slice (some (Addr.mk 81 0 none)) (List.length (Prod.fst (Prod.snd p))) (capBig + 81), Value.bool (Prod.snd (Prod.snd p))]), (80, Rw.mk Kd.of (byV (Prod.fst p))), (81, Rw.mk Kd.of
 (byV (Prod.fst (Prod.snd p)))), (0, Rw.mk (Kd.sw ds) []), (2, Rw.mk Kd.ow ks)], 200, [60, 4], []), [], [decide ((↑i : Int) < (↑n : Int)) = true, (0 : Int) ≤ (↑i : Int) ∧ (↑i : Int) < (↑n : Int), ShOb Try.prog 27 true true ds i 60,
 bodyIn Try.prog (14 : FuncId) 5 = bodyIn Try.prog (14 : FuncId) 5, [(1, Value.slice (some (Addr.mk 2 0 none)) m (capBig + 2)), a3, (10, Value.slice (some (Addr.mk 0 0 none)) n 18446744073709551616), (11, Value.int IntKind.i64 (↑n
 : Int)), (12, Value.int IntKind.i64 (↑i : Int)), (16, Value.slice (some (Addr.mk 60 0 none)) a1 (capBig + 60)), (17, Value.int IntKind.i64 (↑a1 : Int)), (18, Value.int IntKind.i64 (0 : Int))] = fiS n m i a1 0, rowsU (List.map olR
 [bif true then Rw.mk (Kd.sd a2) [] else Rw.mk Kd.old (dVals ds (i + 0))]) 60 (fdH ds ks) = (60, Rw.mk (Kd.sw a2) []) :: fdH ds ks, 61 = 61, FiOk a2 ks m a1, fnL (prsOf a2) (intsOf ks) = some p])) := by
 kernel_rfl
theorem fo_end (inr : Bool) (n m i : Nat) (ds : List DV) (ks : List Value) (p : Pr) : prjP [4] 60 (codeZ (fdV (fiLo Try.prog p)) Try.prog (runZ (fdV (fiLo Try.prog p)) Try.prog 9) 14 inr 100000 (bodyIn Try.prog 14 2) (SL 31 [(1, kyV m), (4, cpV), (10, llA n), (11, iV n), (12, iV i)]) (fdH ds ks) 60 [false]) =
  Res.ok ((Xt.exit 0, 31, [(4, Value.pointer (some (Addr.mk 4 0 none)))], [(4, Rw.mk Kd.shut [Value.slice none 0 0, Value.slice none 0 0, Value.bool false]), (0, Rw.mk (Kd.sw ds) []), (2, Rw.mk Kd.ow ks)], 60, [], []), [],
 [decide ((↑i : Int) < (↑n : Int)) = false]) := by kernel_rfl
def foS (n m i : Nat) : List (Nat × Value) := [(1, kyV m), (4, cpV), (10, llA n), (11, iV n), (12, iV i)]
def foO (ds : List DV) (ks : List Value) (o : Option Pr) : LO := match o with
  | none => (.exit 0, [(4, cpV)], fdH ds ks)
  | some p => (.ret, [(4, cpV), (5, .bool true)], fhH 20 p ds ks)
structure FdLL (L : List (List Pr)) (n : Nat) : Prop where
  l : L.length = n
  n9 : n ≤ 9000000
  L : ∀ l ∈ L, FdL l
theorem fo_loop {inr : Bool} {h0 : Hp} {L : List (List Pr)} {ks : List Value} {K : List Int} {n m : Nat} (hK : FdK ks m K) (hL : FdLL L n) : ∀ (r i : Nat), i + r = n →
    LRuns inr Try.prog (bodyIn Try.prog 14 2) 5 300 h0 31 (foS n m i) (fdH (llD L) ks) 60 (foO (llD L) ks (fnd (L.drop i) K))
  | 0, i, hr => by
      have hl := hL.l
      rw [List.drop_of_length_le (by omega)]
      refine LRuns.exit (code_runsP fdX (L_okV rfl (fiLo_one ([], [], false))) (runZ_ok fdX fdT (L_okV rfl (fiLo_one ([], [], false))) mixed 9) mixed (fo_end inr n m i (llD L) ks ([], [], false)) ?_) (by intro e; cases e) rfl (by omega) (by omega) (fun n => n) ?_ ?_ rfl
      · simp only [Alls, decide_eq_false_iff_not]
        exact ⟨by omega, trivial⟩
      · exact ⟨rfl, rfl, trivial⟩
      · exact ⟨sh_row (m := 4) rfl rfl rfl, sw_row (m := 0) rfl rfl, ow_row (m := 2) rfl rfl (by rw [hK.e]; exact byV_ren _), trivial⟩
  | r + 1, i, hr => by
      have hl := hL.l
      have hn9 := hL.n9
      have hi : i < L.length := by omega
      obtain ⟨l, hx⟩ : ∃ l, L[i]? = some l := ⟨L[i], List.getElem?_eq_getElem hi⟩
      have A := ll_at hx
      have hf := hL.L l (List.mem_of_getElem? hx)
      have hd : L.drop i = l :: L.drop (i + 1) := by
        obtain ⟨h1, h2⟩ := List.getElem?_eq_some_iff.1 hx
        rw [List.drop_eq_getElem_cons hi, h2]
      have o1 := A.o 60
      have ei : intsOf ks = K := by rw [hK.e]; exact byV_ints K
      have fi : FiOk (cpD l) ks m l.length := ⟨by rw [ei]; exact hK, by rw [prsOf_cp], by rw [prsOf_cp]; exact hf, by rw [prsOf_cp]⟩
      have hkr : ∀ τ, renL τ ks = some ks := by rw [hK.e]; exact byV_ren _
      rw [hd]
      cases hh : fnL l K with
      | some p =>
        have e : fnd (l :: L.drop (i + 1)) K = some p := by simp only [fnd, hh]
        rw [e]
        have hLp : LOkZ (fdV (fiLo Try.prog p)) Try.prog := L_okV rfl (fiLo_one p)
        have run := fo_hit inr n m i (llD L) ks p
        have fh : fnL (prsOf (cpD l)) (intsOf ks) = some p := by rw [prsOf_cp, ei]; exact hh
        refine LRuns.exit (code_runs fdX hLp (runZ_ok fdX fdT hLp mixed 9) mixed run ?_) (by intro e; cases e) rfl (by omega) (by omega) (fun n => bif Nat.beq n 20 then 80 else bif Nat.beq n 21 then 81 else n) ?_ ?_ rfl
        · simp only [Alls, rg, decide_eq_true_eq, Nat.add_zero, A.n, A.s]
          repeat' (with_reducible apply And.intro)
          all_goals first | omega | (with_reducible assumption) | (with_reducible exact trivial) | rfl | exact o1
        · exact ⟨rfl, rfl, rfl, rfl, trivial⟩
        · exact ⟨sh_row (m := 4) rfl rfl (mw2_ren (B := 80) (C := 81) rfl rfl rfl rfl (fun n => by intro e; cases e) rfl), of_row (m := 80) rfl rfl (byV_ren _), of_row (m := 81) rfl rfl (byV_ren _), sw_row (m := 0) rfl rfl, ow_row (m := 2) rfl rfl hkr, trivial⟩
      | none =>
        have e : fnd (l :: L.drop (i + 1)) K = fnd (L.drop (i + 1)) K := by simp only [fnd, hh]
        rw [e]
        have hLp : LOkZ (fdV (fiLo Try.prog ([], [], false))) Try.prog := L_okV rfl (fiLo_one ([], [], false))
        have run := fo_go inr n m i (llD L) ks ([], [], false)
        have fh : fnL (prsOf (cpD l)) (intsOf ks) = none := by rw [prsOf_cp, ei]; exact hh
        refine LRuns.step (code_runsP fdX hLp (runZ_ok fdX fdT hLp mixed 9) mixed run ?_) rfl (by omega) (by omega) (fun n => n) ?_ ?_ rfl (fo_loop hK hL r (i + 1) (by omega))
        · simp only [Alls, rg, decide_eq_true_eq, Nat.add_zero, A.n, A.s]
          repeat' (with_reducible apply And.intro)
          all_goals first | omega | (with_reducible assumption) | (with_reducible exact trivial) | rfl | exact o1
        · exact ⟨rfl, rb_slg rfl rfl, rfl, rfl, rfl, rb_slg rfl rfl, rfl, rfl, rfl, rfl, trivial⟩
        · exact ⟨sh_row (m := 4) rfl rfl rfl, sw_row (m := 0) rfl rfl, ow_row (m := 2) rfl rfl hkr, trivial⟩
structure FoOk (ds : List DV) (ks : List Value) (m n : Nat) : Prop where
  K : FdK ks m (intsOf ks)
  e : ds = llD (llOf ds)
  L : FdLL (llOf ds) n
def foPk (live : List (Nat × Value)) (h : Hp) : Option ((Nat × Nat) × List DV × List Value) := match live, lk h 0, lk h 2 with
  | (_, .slice _ m _) :: _ :: (_, .slice _ n _) :: _, some ⟨.sw ds, _⟩, some ⟨.ow, ks⟩ => some ((n, m), ds, ks)
  | _, _, _ => none
def foSp (p : Pr) : LSpec := lspec foPk (fun a => (foS a.1.1 a.1.2 0, fdH a.2.1 a.2.2, 5)) (fun a tp => match tp with
  | false :: tp' => some ((.exit 0, [(4, cpV)], fdH a.2.1 a.2.2, 300, []), tp', [FoOk a.2.1 a.2.2 a.1.2 a.1.1, fnd (llOf a.2.1) (intsOf a.2.2) = none])
  | true :: tp' => some ((.ret, [(4, cpV), (5, .bool true)], fhH 20 p a.2.1 a.2.2, 300, [4]), tp', [FoOk a.2.1 a.2.2 a.1.2 a.1.1, fnd (llOf a.2.1) (intsOf a.2.2) = some p])
  | [] => none)
theorem foSp_ok (p : Pr) : LSOk Try.prog 31 [1, 4, 10, 11, 12] (bodyIn Try.prog 14 2) (foSp p) := by
  refine lspec_ok fun a tp xt l2 h2 nx2 d tp' ob hs ho inr ts hn hg => ?_
  obtain ⟨⟨n, m⟩, ds, ks⟩ := a
  simp only at hs hg
  have fin : FoOk ds ks m n → ∀ key d, key = foO ds ks (fnd (llOf ds) (intsOf ks)) → Tidy (fdH ds ks) 5 key.2.2 300 d → Runs inr (fun F m Q => Code.againIn F m Try.prog (bodyIn Try.prog 14 2) Q) ts (fdH ds ks) 5 (key.1, SL 31 key.2.1, key.2.2, 300, d, []) := fun h key d hk hT => by
    have q := fo_loop (inr := inr) (h0 := fdH ds ks) h.K h.L n 0 (by omega)
    rw [List.drop_zero, ← h.e, ← hk] at q
    refine LRuns.enter (N := 60) (l2 := foS n m 0) hn hg (by omega) (by omega) (fun n => n) ?_ ?_ rfl q hT
    · exact ⟨rfl, rb_slg rfl rfl, rfl, rfl, rfl, rb_slg rfl rfl, rfl, rfl, rfl, rfl, trivial⟩
    · exact ⟨sh_row (m := 4) rfl rfl rfl, sw_row (m := 0) rfl rfl, ow_row (m := 2) rfl rfl (by rw [h.K.e]; exact byV_ren _), trivial⟩
  split at hs
  · simp only [Option.some.injEq, Prod.mk.injEq] at hs
    obtain ⟨⟨rfl, rfl, rfl, rfl, rfl⟩, rfl, rfl⟩ := hs
    obtain ⟨h, h1, _⟩ := ho
    exact fin h (.exit 0, [(4, cpV)], fdH ds ks) [] (by rw [h1]; rfl) (tidy_of (by omega) (fun j hj hd => rfl) rfl)
  · simp only [Option.some.injEq, Prod.mk.injEq] at hs
    obtain ⟨⟨rfl, rfl, rfl, rfl, rfl⟩, rfl, rfl⟩ := hs
    obtain ⟨h, h1, _⟩ := ho
    refine fin h (.ret, [(4, cpV), (5, .bool true)], fhH 20 p ds ks) [4] (by rw [h1]; rfl) (tidy_of (by omega) (fun j hj hd => ?_) rfl)
    have h2 : j ≠ 4 := fun e => hd (by simp [e])
    unfold fhH fdH
    simp only [lk_cons, if_neg h2.symm, if_neg (show ¬ 20 = j by omega), if_neg (show ¬ 20 + 1 = j by omega)]
  · cases hs
def foLo (P : Program) (p : Pr) : LFun := mkL 14 2 31 [1, 4, 10, 11, 12] (bodyIn P 14 2) (foSp p)
theorem foLo_one (p : Pr) : LOne Try.prog (foLo Try.prog p) := mkL_ok (foSp_ok p)
theorem fd_no (n m : Nat) (ds : List DV) (ks : List Value) (p : Pr) : prjV (runZ (fdV (foLo Try.prog p)) Try.prog 9 14 [llA n, kyV m] [(0, ⟨.sw ds, []⟩), (2, ⟨.ow, ks⟩)] 4 [false]) =
  Res.ok (Value.tuple (Array.mk [Value.agg (Array.mk [Value.slice none 0 0, Value.slice none 0 0, Value.bool false]), Value.bool false]), [], [bodyIn Try.prog (14 : FuncId) 2 = bodyIn Try.prog (14 : FuncId) 2, [(1,
 Value.slice (some (Addr.mk 2 0 none)) m (capBig + 2)), (4, Value.pointer (some (Addr.mk 4 0 none))), (10, Value.slice (some (Addr.mk 0 0 none)) n 18446744073709551616), (11, Value.int IntKind.i64 (↑n : Int)), (12,
 Value.int IntKind.i64 (0 : Int))] = foS n m 0, [(4, Rw.mk Kd.shut [Value.slice none 0 0, Value.slice none 0 0, Value.bool false]), (0, Rw.mk (Kd.sw ds) []), (2, Rw.mk Kd.ow ks)] = fdH ds ks, 5 = 5, FoOk ds ks m n, fnd
 (llOf ds) (intsOf ks) = none]) := by kernel_rfl
theorem fd_yes (n m : Nat) (ds : List DV) (ks : List Value) (p : Pr) : runZ (fdV (foLo Try.prog p)) Try.prog 9 14 [llA n, kyV m] [(0, ⟨.sw ds, []⟩), (2, ⟨.ow, ks⟩)] 4 [true] =
  (let a1 := (Prod.fst (Prod.snd p)); Res.ok ((Value.tuple (Array.mk [Value.agg (Array.mk [Value.slice (some (Addr.mk 20 0 none)) (List.length (Prod.fst p)) (capBig + 20), Value.slice (some (Addr.mk 21 0 none)) (List.length a1)
 (capBig + 21), Value.bool (Prod.snd (Prod.snd p))]), Value.bool true]), [(4, Rw.mk Kd.shut [Value.slice (some (Addr.mk 20 0 none)) (List.length (Prod.fst p)) (capBig + 20), Value.slice (some (Addr.mk 21 0 none)) (List.length a1)
 (capBig + 21), Value.bool (Prod.snd (Prod.snd p))]), (20, Rw.mk Kd.of (byV (Prod.fst p))), (21, Rw.mk Kd.of (byV a1)), (0, Rw.mk (Kd.sw ds) []), (2, Rw.mk Kd.ow ks)], 300, []), [], [bodyIn Try.prog (14 : FuncId) 2 = bodyIn
 Try.prog (14 : FuncId) 2, [(1, Value.slice (some (Addr.mk 2 0 none)) m (capBig + 2)), (4, Value.pointer (some (Addr.mk 4 0 none))), (10, Value.slice (some (Addr.mk 0 0 none)) n 18446744073709551616), (11, Value.int IntKind.i64 (↑n
 : Int)), (12, Value.int IntKind.i64 (0 : Int))] = foS n m 0, [(4, Rw.mk Kd.shut [Value.slice none 0 0, Value.slice none 0 0, Value.bool false]), (0, Rw.mk (Kd.sw ds) []), (2, Rw.mk Kd.ow ks)] = fdH ds ks, 5 = 5, FoOk ds ks m n,
 fnd (llOf ds) (intsOf ks) = some p])) := by
 kernel_rfl
def pairV (A : Nat) (p : Pr) : Value := .agg ⟨mwC A p.1.length p.2.1.length p.2.2⟩
def gFd (p : Pr) : GSpecD := fun aL tp => match aL, tp with
  | [.dl ds n, .sl ks m], false :: tp' => some (⟨fun _ => .tuple ⟨[.agg ⟨zPr⟩, .bool false]⟩, []⟩, tp', [FoOk ds ks m n, fnd (llOf ds) (intsOf ks) = none])
  | [.dl ds n, .sl ks m], true :: tp' => some (⟨fun nx => .tuple ⟨[pairV nx p, .bool true]⟩, [⟨.of, byV p.1⟩, ⟨.of, byV p.2.1⟩]⟩, tp', [FoOk ds ks m n, fnd (llOf ds) (intsOf ks) = some p])
  | _, _ => none
theorem fd_gok (p : Pr) : GOkD Try.prog 14 (gFd p) := by
  intro aL tp gr tp' ob hG ho cs hc
  have hLp : LOkZ (fdV (foLo Try.prog p)) Try.prog := L_okV rfl (foLo_one p)
  unfold gFd at hG
  split at hG
  · rename_i ds n ks m tp2
    simp only [Option.some.injEq, Prod.mk.injEq] at hG
    obtain ⟨rfl, rfl, rfl⟩ := hG
    obtain ⟨h, h1, _⟩ := ho
    obtain ⟨h', nx', d, T⟩ := run_val fdX fdT hLp (fd_no n m ds ks p) ⟨rfl, rfl, rfl, rfl, h, h1, trivial⟩ rfl
    exact ⟨_, h', nx', d, fun n => n, T, GrD.flat fun σ => rfl⟩
  · rename_i ds n ks m tp2
    simp only [Option.some.injEq, Prod.mk.injEq] at hG
    obtain ⟨rfl, rfl, rfl⟩ := hG
    obtain ⟨h, h1, _⟩ := ho
    have T := run_tri fdX fdT hLp (fd_yes n m ds ks p) ⟨rfl, rfl, rfl, rfl, h, h1, trivial⟩ rfl
    refine ⟨_, _, _, _, fun j => 20 + j, T, ⟨fun nx => ?_, fun j r hj => ?_, fun i j hi hj e => by simp at e; omega⟩⟩
    · have e := mw2_ren (f := f2s nx 2 (fun j => 20 + j)) (A := nx) (B := 20) (C := 21) (a := p.1.length) (b := p.2.1.length) (g := p.2.2) (by simp [f2s]) (by simp [f2s]) (by simp [f2s]) (by simp [f2s]) (fun n => by simp [f2s]) rfl
      simp only [pairV, renV, renA, renL]
      simp only [List.length_cons, List.length_nil, Nat.zero_add, Nat.reduceAdd]
      rw [e]
      rfl
    · match j, hj with
      | 0, hj => cases hj; exact ⟨byV_ren _, rfl, rfl⟩
      | 1, hj => cases hj; exact ⟨byV_ren _, rfl, rfl⟩
  · cases hG
end Go.Proofs.Ytmoflcoijmmpjaa
/-
  Chapter 14: the statement MergeFinds: runs of its inner loop's rounds.
-/
namespace Go.Proofs.Ytmoflcoijmmpjaa
set_option linter.unusedSimpArgs false
set_option linter.unusedVariables false
set_option linter.unusedSectionVars false
open Go Go.RowKit
def mfTab : FuncId → List Nat := fun f => bif Nat.beq f 6 then [22, 43, 52, 76] else bif Nat.beq f 29 then [9] else bif Nat.beq f 17 then [22] else []
def mfSy : FuncId → Nat → Option Nat := orSy (lsSy 6 [(22, 0), (41, 0), (43, 0), (45, 0), (49, 0), (50, 37), (52, 0), (54, 0), (57, 0), (58, 37), (60, 0), (61, 0), (62, 32), (67, 0), (68, 37), (70, 0), (71, 36)]) (lsSy 29 [(6, 0), (8, 0), (9, 0)])
def mfV (L : LFun) (T : TFun) : Tv := ⟨T, cmpY, L, mfTab, mfSy, fun _ => [], fun _ => 0⟩
def mkY (m : Nat) : Value := .slice (some ⟨4, 0, none⟩) m (capBig + 4)
def mlR (o : Nat) : Value := .slice (some ⟨6, 0, none⟩) o (capBig + 6)
def mpC (c : Nat) : Value := .pointer (some ⟨c, 0, none⟩)
def mBs (ds : List DV) (ks : List Value) : Hp := [(0, ⟨.sw ds, []⟩), (4, ⟨.ow, ks⟩)]
def mLn (ds : List DV) (ks : List Value) (os : List DV) : Hp := mBs ds ks
def mLr (ds : List DV) (ks : List Value) (os : List DV) : Hp := (6, ⟨.df 3 zPr os, []⟩) :: mBs ds ks
def mfI (n m i k C : Nat) (dr met : Bool) (lv : Value) : List (Nat × Value) := [(0, llA n), (1, .bool dr), (2, mkY m), (7, .bool true), (8, lv), (10, mpC C), (11, .bool met), (12, iV i), (13, iV k)]
theorem mf_nNm (inr : Bool) (n m i k o a b : Nat) (dr g : Bool) (ds os : List DV) (ks xs ys : List Value) : prjP [0, 1, 2, 7, 8, 10, 11, 12, 13] 100 (codeZ (mfV noL noTz) Try.prog (runZ (mfV noL noTz) Try.prog 9) 6 inr 100000
 (bodyIn Try.prog 6 12) (SL 100 (mfI n m i k 6 dr false nlV)) ((6, ⟨.shut, zPr⟩) :: mLn ds ks os) 100 [true, false])
 =
  (let a4 := (↑i : Int); let a2 := (k * 3 + 0 + 0); let a1 := (dSub ds (i + 0)); let a3 := (intsOf (List.take (dLen a1 a2) (dVals a1 a2))); Res.ok ((Xt.normal, 100, [(0, Value.slice (some (Addr.mk 0 0 none)) n
 18446744073709551616), (1, Value.bool dr), (2, Value.slice (some (Addr.mk 4 0 none)) m (capBig + 4)), (7, Value.bool true), (8, Value.slice none 0 0), (10, Value.pointer (some (Addr.mk 6 0 none))), (11, Value.bool false), (12,
 Value.int IntKind.i64 a4), (13, Value.int IntKind.i64 (↑(k + 1) : Int))], [(101, Rw.mk (Kd.sw a1) []), (100, Rw.mk (Kd.sw a1) []), (6, Rw.mk Kd.shut [Value.slice none 0 0, Value.slice none 0 0, Value.bool false]), (0, Rw.mk (Kd.sw
 ds) []), (4, Rw.mk Kd.ow ks)], 103, [], []), [], [(0 : Int) ≤ a4 ∧ a4 < (↑n : Int), ShOb Try.prog 27 true true ds i 100, decide ((↑k : Int) < (↑(dLen ds (i + 0)) : Int)) = true, (0 : Int) ≤ a4 ∧ a4 < (↑n : Int), ShOb Try.prog 27
 true true ds i 101, (0 : Int) ≤ (↑k : Int) ∧ (↑k : Int) < (↑(dLen ds (i + 0)) : Int), ShOb Try.prog 23 false true a1 (k * 3 + 0) 102, dLen a1 a2 ≤ List.length (dVals a1 a2), List.take (dLen a1 a2) (dVals a1 a2) = List.map
 (Value.int IntKind.u8) a3, m ≤ List.length ks, List.take m ks = List.map (Value.int IntKind.u8) (intsOf (List.take m ks)), strEq (strOfI a3) (strOfI (intsOf (List.take m ks))) = false, rg IntKind.i64 (↑(k + 1) : Int)])) := by
 kernel_rfl
theorem mf_nNh (inr : Bool) (n m i k o a b : Nat) (dr g : Bool) (ds os : List DV) (ks xs ys : List Value) : prjP [0, 1, 2, 7, 8, 10, 11, 12, 13] 100 (codeZ (mfV noL noTz) Try.prog (runZ (mfV noL noTz) Try.prog 9) 6 inr 100000
 (bodyIn Try.prog 6 12) (SL 100 (mfI n m i k 6 dr false nlV)) ((6, ⟨.shut, zPr⟩) :: mLn ds ks os) 100 [true, true])
 =
  (let a6 := (↑k : Int); let a5 := (↑i : Int); let a3 := (↑(dLen ds (i + 0)) : Int); let a2 := (k * 3 + 0 + 0); let a1 := (dSub ds (i + 0)); let a4 := (intsOf (List.take (dLen a1 a2) (dVals a1 a2))); Res.ok ((Xt.normal, 100, [(0,
 Value.slice (some (Addr.mk 0 0 none)) n 18446744073709551616), (1, Value.bool dr), (2, Value.slice (some (Addr.mk 4 0 none)) m (capBig + 4)), (7, Value.bool true), (8, Value.slice none 0 0), (10, Value.pointer (some (Addr.mk 6 0
 none))), (11, Value.bool true), (12, Value.int IntKind.i64 a5), (13, Value.int IntKind.i64 (↑(k + 1) : Int))], [(105, Rw.mk Kd.ow (dVals a1 (k * 3 + 1))), (104, Rw.mk Kd.ow (dVals a1 (k * 3 + 0))), (103, Rw.mk (Kd.sw a1) []),
 (101, Rw.mk (Kd.sw a1) []), (100, Rw.mk (Kd.sw a1) []), (6, Rw.mk Kd.shut [Value.slice (some (Addr.mk 104 0 none)) (dLen a1 (k * 3 + 0)) (capBig + 104), Value.slice (some (Addr.mk 105 0 none)) (dLen a1 (k * 3 + 1)) (capBig + 105),
 Value.bool (dBool a1 (k * 3 + 2))]), (0, Rw.mk (Kd.sw ds) []), (4, Rw.mk Kd.ow ks)], 106, [6], []), [], [(0 : Int) ≤ a5 ∧ a5 < (↑n : Int), ShOb Try.prog 27 true true ds i 100, decide (a6 < a3) = true, (0 : Int) ≤ a5 ∧ a5 < (↑n :
 Int), ShOb Try.prog 27 true true ds i 101, (0 : Int) ≤ a6 ∧ a6 < a3, ShOb Try.prog 23 false true a1 (k * 3 + 0) 102, dLen a1 a2 ≤ List.length (dVals a1 a2), List.take (dLen a1 a2) (dVals a1 a2) = List.map (Value.int IntKind.u8)
 a4, m ≤ List.length ks, List.take m ks = List.map (Value.int IntKind.u8) (intsOf (List.take m ks)), strEq (strOfI a4) (strOfI (intsOf (List.take m ks))) = true, (0 : Int) ≤ a5 ∧ a5 < (↑n : Int), ShOb Try.prog 27 true true ds i
 103, (0 : Int) ≤ a6 ∧ a6 < a3, ShOb Try.prog 32 false true a1 (k * 3) 104, rg IntKind.i64 (↑(k + 1) : Int)])) := by
 kernel_rfl
theorem mf_nNe (inr : Bool) (n m i k o a b : Nat) (dr g : Bool) (ds os : List DV) (ks xs ys : List Value) : prjP [0, 1, 2, 7, 8, 10, 11, 12] 100 (codeZ (mfV noL noTz) Try.prog (runZ (mfV noL noTz) Try.prog 9) 6 inr 100000 (bodyIn Try.prog 6 12) (SL 100 (mfI n m i k 6 dr false nlV)) ((6, ⟨.shut, zPr⟩) :: mLn ds ks os) 100 [false]) =
  Res.ok ((Xt.exit 2, 100, [(0, Value.slice (some (Addr.mk 0 0 none)) n 18446744073709551616), (1, Value.bool dr), (2, Value.slice (some (Addr.mk 4 0 none)) m (capBig + 4)), (7, Value.bool true), (8, Value.slice none 0 0),
 (10, Value.pointer (some (Addr.mk 6 0 none))), (11, Value.bool false), (12, Value.int IntKind.i64 (↑i : Int))], [(100, Rw.mk (Kd.sw (dSub ds (i + 0))) []), (6, Rw.mk Kd.shut [Value.slice none 0 0, Value.slice none 0 0,
 Value.bool false]), (0, Rw.mk (Kd.sw ds) []), (4, Rw.mk Kd.ow ks)], 101, [], []), [], [(0 : Int) ≤ (↑i : Int) ∧ (↑i : Int) < (↑n : Int), ShOb Try.prog 27 true true ds i 100, decide ((↑k : Int) < (↑(dLen ds (i + 0)) :
 Int)) = false]) := by kernel_rfl
theorem mf_nSm (inr : Bool) (n m i k o a b : Nat) (dr g : Bool) (ds os : List DV) (ks xs ys : List Value) : prjP [0, 1, 2, 7, 8, 10, 11, 12, 13] 100 (codeZ (mfV noL noTz) Try.prog (runZ (mfV noL noTz) Try.prog 9) 6 inr 100000
 (bodyIn Try.prog 6 12) (SL 100 (mfI n m i k 6 dr true nlV)) ((80, ⟨.ow, xs⟩) :: (81, ⟨.ow, ys⟩) :: (6, ⟨.shut, mwC 80 a b g⟩) :: mLn ds ks os) 100 [true, false])
 =
  (let a4 := (↑i : Int); let a2 := (k * 3 + 0 + 0); let a1 := (dSub ds (i + 0)); let a3 := (intsOf (List.take (dLen a1 a2) (dVals a1 a2))); Res.ok ((Xt.normal, 100, [(0, Value.slice (some (Addr.mk 0 0 none)) n
 18446744073709551616), (1, Value.bool dr), (2, Value.slice (some (Addr.mk 4 0 none)) m (capBig + 4)), (7, Value.bool true), (8, Value.slice none 0 0), (10, Value.pointer (some (Addr.mk 6 0 none))), (11, Value.bool true), (12,
 Value.int IntKind.i64 a4), (13, Value.int IntKind.i64 (↑(k + 1) : Int))], [(101, Rw.mk (Kd.sw a1) []), (100, Rw.mk (Kd.sw a1) []), (80, Rw.mk Kd.ow xs), (81, Rw.mk Kd.ow ys), (6, Rw.mk Kd.shut [Value.slice (some (Addr.mk 80 0
 none)) a (capBig + 80), Value.slice (some (Addr.mk 81 0 none)) b (capBig + 81), Value.bool g]), (0, Rw.mk (Kd.sw ds) []), (4, Rw.mk Kd.ow ks)], 103, [], []), [], [(0 : Int) ≤ a4 ∧ a4 < (↑n : Int), ShOb Try.prog 27 true true ds i
 100, decide ((↑k : Int) < (↑(dLen ds (i + 0)) : Int)) = true, (0 : Int) ≤ a4 ∧ a4 < (↑n : Int), ShOb Try.prog 27 true true ds i 101, (0 : Int) ≤ (↑k : Int) ∧ (↑k : Int) < (↑(dLen ds (i + 0)) : Int), ShOb Try.prog 23 false true a1
 (k * 3 + 0) 102, dLen a1 a2 ≤ List.length (dVals a1 a2), List.take (dLen a1 a2) (dVals a1 a2) = List.map (Value.int IntKind.u8) a3, m ≤ List.length ks, List.take m ks = List.map (Value.int IntKind.u8) (intsOf (List.take m ks)),
 strEq (strOfI a3) (strOfI (intsOf (List.take m ks))) = false, rg IntKind.i64 (↑(k + 1) : Int)])) := by
 kernel_rfl
theorem mf_nSh (inr : Bool) (n m i k o a b : Nat) (dr g : Bool) (ds os : List DV) (ks xs ys : List Value) : prjP [0, 1, 2, 7, 8, 10, 11, 12, 13] 100 (codeZ (mfV noL noTz) Try.prog (runZ (mfV noL noTz) Try.prog 9) 6 inr 100000
 (bodyIn Try.prog 6 12) (SL 100 (mfI n m i k 6 dr true nlV)) ((80, ⟨.ow, xs⟩) :: (81, ⟨.ow, ys⟩) :: (6, ⟨.shut, mwC 80 a b g⟩) :: mLn ds ks os) 100 [true, true])
 =
  (let a6 := (↑k : Int); let a5 := (↑i : Int); let a3 := (↑(dLen ds (i + 0)) : Int); let a2 := (k * 3 + 0 + 0); let a1 := (dSub ds (i + 0)); let a4 := (intsOf (List.take (dLen a1 a2) (dVals a1 a2))); Res.ok ((Xt.normal, 100, [(0,
 Value.slice (some (Addr.mk 0 0 none)) n 18446744073709551616), (1, Value.bool dr), (2, Value.slice (some (Addr.mk 4 0 none)) m (capBig + 4)), (7, Value.bool true), (8, Value.slice none 0 0), (10, Value.pointer (some (Addr.mk 6 0
 none))), (11, Value.bool true), (12, Value.int IntKind.i64 a5), (13, Value.int IntKind.i64 (↑(k + 1) : Int))], [(105, Rw.mk Kd.ow (dVals a1 (k * 3 + 1))), (104, Rw.mk Kd.ow (dVals a1 (k * 3 + 0))), (103, Rw.mk (Kd.sw a1) []),
 (101, Rw.mk (Kd.sw a1) []), (100, Rw.mk (Kd.sw a1) []), (80, Rw.mk Kd.ow xs), (81, Rw.mk Kd.ow ys), (6, Rw.mk Kd.shut [Value.slice (some (Addr.mk 104 0 none)) (dLen a1 (k * 3 + 0)) (capBig + 104), Value.slice (some (Addr.mk 105 0
 none)) (dLen a1 (k * 3 + 1)) (capBig + 105), Value.bool (dBool a1 (k * 3 + 2))]), (0, Rw.mk (Kd.sw ds) []), (4, Rw.mk Kd.ow ks)], 106, [6], []), [], [(0 : Int) ≤ a5 ∧ a5 < (↑n : Int), ShOb Try.prog 27 true true ds i 100, decide
 (a6 < a3) = true, (0 : Int) ≤ a5 ∧ a5 < (↑n : Int), ShOb Try.prog 27 true true ds i 101, (0 : Int) ≤ a6 ∧ a6 < a3, ShOb Try.prog 23 false true a1 (k * 3 + 0) 102, dLen a1 a2 ≤ List.length (dVals a1 a2), List.take (dLen a1 a2)
 (dVals a1 a2) = List.map (Value.int IntKind.u8) a4, m ≤ List.length ks, List.take m ks = List.map (Value.int IntKind.u8) (intsOf (List.take m ks)), strEq (strOfI a4) (strOfI (intsOf (List.take m ks))) = true, (0 : Int) ≤ a5 ∧ a5 <
 (↑n : Int), ShOb Try.prog 27 true true ds i 103, (0 : Int) ≤ a6 ∧ a6 < a3, ShOb Try.prog 32 false true a1 (k * 3) 104, rg IntKind.i64 (↑(k + 1) : Int)])) := by
 kernel_rfl
theorem mf_nSe (inr : Bool) (n m i k o a b : Nat) (dr g : Bool) (ds os : List DV) (ks xs ys : List Value) : prjP [0, 1, 2, 7, 8, 10, 11, 12] 100 (codeZ (mfV noL noTz) Try.prog (runZ (mfV noL noTz) Try.prog 9) 6 inr 100000 (bodyIn Try.prog 6 12) (SL 100 (mfI n m i k 6 dr true nlV)) ((80, ⟨.ow, xs⟩) :: (81, ⟨.ow, ys⟩) :: (6, ⟨.shut, mwC 80 a b g⟩) :: mLn ds ks os) 100 [false]) =
  Res.ok ((Xt.exit 2, 100, [(0, Value.slice (some (Addr.mk 0 0 none)) n 18446744073709551616), (1, Value.bool dr), (2, Value.slice (some (Addr.mk 4 0 none)) m (capBig + 4)), (7, Value.bool true), (8, Value.slice none 0 0),
 (10, Value.pointer (some (Addr.mk 6 0 none))), (11, Value.bool true), (12, Value.int IntKind.i64 (↑i : Int))], [(100, Rw.mk (Kd.sw (dSub ds (i + 0))) []), (80, Rw.mk Kd.ow xs), (81, Rw.mk Kd.ow ys), (6, Rw.mk Kd.shut
 [Value.slice (some (Addr.mk 80 0 none)) a (capBig + 80), Value.slice (some (Addr.mk 81 0 none)) b (capBig + 81), Value.bool g]), (0, Rw.mk (Kd.sw ds) []), (4, Rw.mk Kd.ow ks)], 101, [], []), [], [(0 : Int) ≤ (↑i : Int) ∧
 (↑i : Int) < (↑n : Int), ShOb Try.prog 27 true true ds i 100, decide ((↑k : Int) < (↑(dLen ds (i + 0)) : Int)) = false]) := by kernel_rfl
theorem mf_rNm (inr : Bool) (n m i k o a b : Nat) (dr g : Bool) (ds os : List DV) (ks xs ys : List Value) : prjP [0, 1, 2, 7, 8, 10, 11, 12, 13] 100 (codeZ (mfV noL noTz) Try.prog (runZ (mfV noL noTz) Try.prog 9) 6 inr 100000
 (bodyIn Try.prog 6 12) (SL 100 (mfI n m i k 7 dr false (mlR o))) ((7, ⟨.shut, zPr⟩) :: mLr ds ks os) 100 [true, false])
 =
  (let a4 := (↑i : Int); let a2 := (k * 3 + 0 + 0); let a1 := (dSub ds (i + 0)); let a3 := (intsOf (List.take (dLen a1 a2) (dVals a1 a2))); Res.ok ((Xt.normal, 100, [(0, Value.slice (some (Addr.mk 0 0 none)) n
 18446744073709551616), (1, Value.bool dr), (2, Value.slice (some (Addr.mk 4 0 none)) m (capBig + 4)), (7, Value.bool true), (8, Value.slice (some (Addr.mk 6 0 none)) o (capBig + 6)), (10, Value.pointer (some (Addr.mk 7 0 none))),
 (11, Value.bool false), (12, Value.int IntKind.i64 a4), (13, Value.int IntKind.i64 (↑(k + 1) : Int))], [(101, Rw.mk (Kd.sw a1) []), (100, Rw.mk (Kd.sw a1) []), (7, Rw.mk Kd.shut [Value.slice none 0 0, Value.slice none 0 0,
 Value.bool false]), (6, Rw.mk (Kd.df 3 [Value.slice none 0 0, Value.slice none 0 0, Value.bool false] os) []), (0, Rw.mk (Kd.sw ds) []), (4, Rw.mk Kd.ow ks)], 103, [], []), [], [(0 : Int) ≤ a4 ∧ a4 < (↑n : Int), ShOb Try.prog 27
 true true ds i 100, decide ((↑k : Int) < (↑(dLen ds (i + 0)) : Int)) = true, (0 : Int) ≤ a4 ∧ a4 < (↑n : Int), ShOb Try.prog 27 true true ds i 101, (0 : Int) ≤ (↑k : Int) ∧ (↑k : Int) < (↑(dLen ds (i + 0)) : Int), ShOb Try.prog 23
 false true a1 (k * 3 + 0) 102, dLen a1 a2 ≤ List.length (dVals a1 a2), List.take (dLen a1 a2) (dVals a1 a2) = List.map (Value.int IntKind.u8) a3, m ≤ List.length ks, List.take m ks = List.map (Value.int IntKind.u8) (intsOf
 (List.take m ks)), strEq (strOfI a3) (strOfI (intsOf (List.take m ks))) = false, rg IntKind.i64 (↑(k + 1) : Int)])) := by
 kernel_rfl
theorem mf_rNh (inr : Bool) (n m i k o a b : Nat) (dr g : Bool) (ds os : List DV) (ks xs ys : List Value) : prjP [0, 1, 2, 7, 8, 10, 11, 12, 13] 100 (codeZ (mfV noL noTz) Try.prog (runZ (mfV noL noTz) Try.prog 9) 6 inr 100000
 (bodyIn Try.prog 6 12) (SL 100 (mfI n m i k 7 dr false (mlR o))) ((7, ⟨.shut, zPr⟩) :: mLr ds ks os) 100 [true, true])
 =
  (let a6 := (↑k : Int); let a5 := (↑i : Int); let a3 := (↑(dLen ds (i + 0)) : Int); let a2 := (k * 3 + 0 + 0); let a1 := (dSub ds (i + 0)); let a4 := (intsOf (List.take (dLen a1 a2) (dVals a1 a2))); Res.ok ((Xt.normal, 100, [(0,
 Value.slice (some (Addr.mk 0 0 none)) n 18446744073709551616), (1, Value.bool dr), (2, Value.slice (some (Addr.mk 4 0 none)) m (capBig + 4)), (7, Value.bool true), (8, Value.slice (some (Addr.mk 6 0 none)) o (capBig + 6)), (10,
 Value.pointer (some (Addr.mk 7 0 none))), (11, Value.bool true), (12, Value.int IntKind.i64 a5), (13, Value.int IntKind.i64 (↑(k + 1) : Int))], [(105, Rw.mk Kd.ow (dVals a1 (k * 3 + 1))), (104, Rw.mk Kd.ow (dVals a1 (k * 3 + 0))),
 (103, Rw.mk (Kd.sw a1) []), (101, Rw.mk (Kd.sw a1) []), (100, Rw.mk (Kd.sw a1) []), (7, Rw.mk Kd.shut [Value.slice (some (Addr.mk 104 0 none)) (dLen a1 (k * 3 + 0)) (capBig + 104), Value.slice (some (Addr.mk 105 0 none)) (dLen a1
 (k * 3 + 1)) (capBig + 105), Value.bool (dBool a1 (k * 3 + 2))]), (6, Rw.mk (Kd.df 3 [Value.slice none 0 0, Value.slice none 0 0, Value.bool false] os) []), (0, Rw.mk (Kd.sw ds) []), (4, Rw.mk Kd.ow ks)], 106, [7], []), [], [(0 :
 Int) ≤ a5 ∧ a5 < (↑n : Int), ShOb Try.prog 27 true true ds i 100, decide (a6 < a3) = true, (0 : Int) ≤ a5 ∧ a5 < (↑n : Int), ShOb Try.prog 27 true true ds i 101, (0 : Int) ≤ a6 ∧ a6 < a3, ShOb Try.prog 23 false true a1 (k * 3 + 0)
 102, dLen a1 a2 ≤ List.length (dVals a1 a2), List.take (dLen a1 a2) (dVals a1 a2) = List.map (Value.int IntKind.u8) a4, m ≤ List.length ks, List.take m ks = List.map (Value.int IntKind.u8) (intsOf (List.take m ks)), strEq (strOfI
 a4) (strOfI (intsOf (List.take m ks))) = true, (0 : Int) ≤ a5 ∧ a5 < (↑n : Int), ShOb Try.prog 27 true true ds i 103, (0 : Int) ≤ a6 ∧ a6 < a3, ShOb Try.prog 32 false true a1 (k * 3) 104, rg IntKind.i64 (↑(k + 1) : Int)])) := by
 kernel_rfl
theorem mf_rNe (inr : Bool) (n m i k o a b : Nat) (dr g : Bool) (ds os : List DV) (ks xs ys : List Value) : prjP [0, 1, 2, 7, 8, 10, 11, 12] 100 (codeZ (mfV noL noTz) Try.prog (runZ (mfV noL noTz) Try.prog 9) 6 inr 100000 (bodyIn Try.prog 6 12) (SL 100 (mfI n m i k 7 dr false (mlR o))) ((7, ⟨.shut, zPr⟩) :: mLr ds ks os) 100 [false]) =
  Res.ok ((Xt.exit 2, 100, [(0, Value.slice (some (Addr.mk 0 0 none)) n 18446744073709551616), (1, Value.bool dr), (2, Value.slice (some (Addr.mk 4 0 none)) m (capBig + 4)), (7, Value.bool true), (8, Value.slice (some
 (Addr.mk 6 0 none)) o (capBig + 6)), (10, Value.pointer (some (Addr.mk 7 0 none))), (11, Value.bool false), (12, Value.int IntKind.i64 (↑i : Int))], [(100, Rw.mk (Kd.sw (dSub ds (i + 0))) []), (7, Rw.mk Kd.shut
 [Value.slice none 0 0, Value.slice none 0 0, Value.bool false]), (6, Rw.mk (Kd.df 3 [Value.slice none 0 0, Value.slice none 0 0, Value.bool false] os) []), (0, Rw.mk (Kd.sw ds) []), (4, Rw.mk Kd.ow ks)], 101, [], []), [],
 [(0 : Int) ≤ (↑i : Int) ∧ (↑i : Int) < (↑n : Int), ShOb Try.prog 27 true true ds i 100, decide ((↑k : Int) < (↑(dLen ds (i + 0)) : Int)) = false]) := by kernel_rfl
theorem mf_rSm (inr : Bool) (n m i k o a b : Nat) (dr g : Bool) (ds os : List DV) (ks xs ys : List Value) : prjP [0, 1, 2, 7, 8, 10, 11, 12, 13] 100 (codeZ (mfV noL noTz) Try.prog (runZ (mfV noL noTz) Try.prog 9) 6 inr 100000
 (bodyIn Try.prog 6 12) (SL 100 (mfI n m i k 7 dr true (mlR o))) ((80, ⟨.ow, xs⟩) :: (81, ⟨.ow, ys⟩) :: (7, ⟨.shut, mwC 80 a b g⟩) :: mLr ds ks os) 100 [true, false])
 =
  (let a4 := (↑i : Int); let a2 := (k * 3 + 0 + 0); let a1 := (dSub ds (i + 0)); let a3 := (intsOf (List.take (dLen a1 a2) (dVals a1 a2))); Res.ok ((Xt.normal, 100, [(0, Value.slice (some (Addr.mk 0 0 none)) n
 18446744073709551616), (1, Value.bool dr), (2, Value.slice (some (Addr.mk 4 0 none)) m (capBig + 4)), (7, Value.bool true), (8, Value.slice (some (Addr.mk 6 0 none)) o (capBig + 6)), (10, Value.pointer (some (Addr.mk 7 0 none))),
 (11, Value.bool true), (12, Value.int IntKind.i64 a4), (13, Value.int IntKind.i64 (↑(k + 1) : Int))], [(101, Rw.mk (Kd.sw a1) []), (100, Rw.mk (Kd.sw a1) []), (80, Rw.mk Kd.ow xs), (81, Rw.mk Kd.ow ys), (7, Rw.mk Kd.shut
 [Value.slice (some (Addr.mk 80 0 none)) a (capBig + 80), Value.slice (some (Addr.mk 81 0 none)) b (capBig + 81), Value.bool g]), (6, Rw.mk (Kd.df 3 [Value.slice none 0 0, Value.slice none 0 0, Value.bool false] os) []), (0, Rw.mk
 (Kd.sw ds) []), (4, Rw.mk Kd.ow ks)], 103, [], []), [], [(0 : Int) ≤ a4 ∧ a4 < (↑n : Int), ShOb Try.prog 27 true true ds i 100, decide ((↑k : Int) < (↑(dLen ds (i + 0)) : Int)) = true, (0 : Int) ≤ a4 ∧ a4 < (↑n : Int), ShOb
 Try.prog 27 true true ds i 101, (0 : Int) ≤ (↑k : Int) ∧ (↑k : Int) < (↑(dLen ds (i + 0)) : Int), ShOb Try.prog 23 false true a1 (k * 3 + 0) 102, dLen a1 a2 ≤ List.length (dVals a1 a2), List.take (dLen a1 a2) (dVals a1 a2) =
 List.map (Value.int IntKind.u8) a3, m ≤ List.length ks, List.take m ks = List.map (Value.int IntKind.u8) (intsOf (List.take m ks)), strEq (strOfI a3) (strOfI (intsOf (List.take m ks))) = false, rg IntKind.i64 (↑(k + 1) : Int)]))
 := by
 kernel_rfl
theorem mf_rSh (inr : Bool) (n m i k o a b : Nat) (dr g : Bool) (ds os : List DV) (ks xs ys : List Value) : prjP [0, 1, 2, 7, 8, 10, 11, 12, 13] 100 (codeZ (mfV noL noTz) Try.prog (runZ (mfV noL noTz) Try.prog 9) 6 inr 100000
 (bodyIn Try.prog 6 12) (SL 100 (mfI n m i k 7 dr true (mlR o))) ((80, ⟨.ow, xs⟩) :: (81, ⟨.ow, ys⟩) :: (7, ⟨.shut, mwC 80 a b g⟩) :: mLr ds ks os) 100 [true, true])
 =
  (let a6 := (↑k : Int); let a5 := (↑i : Int); let a3 := (↑(dLen ds (i + 0)) : Int); let a2 := (k * 3 + 0 + 0); let a1 := (dSub ds (i + 0)); let a4 := (intsOf (List.take (dLen a1 a2) (dVals a1 a2))); Res.ok ((Xt.normal, 100, [(0,
 Value.slice (some (Addr.mk 0 0 none)) n 18446744073709551616), (1, Value.bool dr), (2, Value.slice (some (Addr.mk 4 0 none)) m (capBig + 4)), (7, Value.bool true), (8, Value.slice (some (Addr.mk 6 0 none)) o (capBig + 6)), (10,
 Value.pointer (some (Addr.mk 7 0 none))), (11, Value.bool true), (12, Value.int IntKind.i64 a5), (13, Value.int IntKind.i64 (↑(k + 1) : Int))], [(105, Rw.mk Kd.ow (dVals a1 (k * 3 + 1))), (104, Rw.mk Kd.ow (dVals a1 (k * 3 + 0))),
 (103, Rw.mk (Kd.sw a1) []), (101, Rw.mk (Kd.sw a1) []), (100, Rw.mk (Kd.sw a1) []), (80, Rw.mk Kd.ow xs), (81, Rw.mk Kd.ow ys), (7, Rw.mk Kd.shut [Value.slice (some (Addr.mk 104 0 none)) (dLen a1 (k * 3 + 0)) (capBig + 104),
 Value.slice (some (Addr.mk 105 0 none)) (dLen a1 (k * 3 + 1)) (capBig + 105), Value.bool (dBool a1 (k * 3 + 2))]), (6, Rw.mk (Kd.df 3 [Value.slice none 0 0, Value.slice none 0 0, Value.bool false] os) []), (0, Rw.mk (Kd.sw ds)
 []), (4, Rw.mk Kd.ow ks)], 106, [7], []), [], [(0 : Int) ≤ a5 ∧ a5 < (↑n : Int), ShOb Try.prog 27 true true ds i 100, decide (a6 < a3) = true, (0 : Int) ≤ a5 ∧ a5 < (↑n : Int), ShOb Try.prog 27 true true ds i 101, (0 : Int) ≤ a6 ∧
 a6 < a3, ShOb Try.prog 23 false true a1 (k * 3 + 0) 102, dLen a1 a2 ≤ List.length (dVals a1 a2), List.take (dLen a1 a2) (dVals a1 a2) = List.map (Value.int IntKind.u8) a4, m ≤ List.length ks, List.take m ks = List.map (Value.int
 IntKind.u8) (intsOf (List.take m ks)), strEq (strOfI a4) (strOfI (intsOf (List.take m ks))) = true, (0 : Int) ≤ a5 ∧ a5 < (↑n : Int), ShOb Try.prog 27 true true ds i 103, (0 : Int) ≤ a6 ∧ a6 < a3, ShOb Try.prog 32 false true a1 (k
 * 3) 104, rg IntKind.i64 (↑(k + 1) : Int)])) := by
 kernel_rfl
theorem mf_rSe (inr : Bool) (n m i k o a b : Nat) (dr g : Bool) (ds os : List DV) (ks xs ys : List Value) : prjP [0, 1, 2, 7, 8, 10, 11, 12] 100 (codeZ (mfV noL noTz) Try.prog (runZ (mfV noL noTz) Try.prog 9) 6 inr 100000 (bodyIn Try.prog 6 12) (SL 100 (mfI n m i k 7 dr true (mlR o))) ((80, ⟨.ow, xs⟩) :: (81, ⟨.ow, ys⟩) :: (7, ⟨.shut, mwC 80 a b g⟩) :: mLr ds ks os) 100 [false]) =
  Res.ok ((Xt.exit 2, 100, [(0, Value.slice (some (Addr.mk 0 0 none)) n 18446744073709551616), (1, Value.bool dr), (2, Value.slice (some (Addr.mk 4 0 none)) m (capBig + 4)), (7, Value.bool true), (8, Value.slice (some
 (Addr.mk 6 0 none)) o (capBig + 6)), (10, Value.pointer (some (Addr.mk 7 0 none))), (11, Value.bool true), (12, Value.int IntKind.i64 (↑i : Int))], [(100, Rw.mk (Kd.sw (dSub ds (i + 0))) []), (80, Rw.mk Kd.ow xs), (81,
 Rw.mk Kd.ow ys), (7, Rw.mk Kd.shut [Value.slice (some (Addr.mk 80 0 none)) a (capBig + 80), Value.slice (some (Addr.mk 81 0 none)) b (capBig + 81), Value.bool g]), (6, Rw.mk (Kd.df 3 [Value.slice none 0 0, Value.slice
 none 0 0, Value.bool false] os) []), (0, Rw.mk (Kd.sw ds) []), (4, Rw.mk Kd.ow ks)], 101, [], []), [], [(0 : Int) ≤ (↑i : Int) ∧ (↑i : Int) < (↑n : Int), ShOb Try.prog 27 true true ds i 100, decide ((↑k : Int) < (↑(dLen
 ds (i + 0)) : Int)) = false]) := by kernel_rfl
end Go.Proofs.Ytmoflcoijmmpjaa
/-
  Chapter 14: the statement MergeFinds: the law of its inner loop.
-/
namespace Go.Proofs.Ytmoflcoijmmpjaa
set_option linter.unusedSimpArgs false
set_option linter.unusedVariables false
set_option linter.unusedSectionVars false
open Go Go.RowKit
theorem mfX {L : LFun} {T : TFun} : XOkZ (mfV L T) Try.prog := XOneZ.ok cmpY_ok rfl
theorem mfT0 {L : LFun} : TOkZ (mfV L noTz) Try.prog := noTz_okV rfl
theorem mfL0 {T : TFun} : LOkZ (mfV noL T) Try.prog := noL_okV rfl
def mC (b : Bool) : Nat := match b with | false => 6 | true => 7
def mV (b : Bool) (o : Nat) : Value := match b with | false => nlV | true => mlR o
def mR (b : Bool) (ds : List DV) (ks : List Value) (os : List DV) : Hp := match b with | false => mLn ds ks os | true => mLr ds ks os
def mfH (b : Bool) (A : Nat) (w : Option Pr) (ds : List DV) (ks : List Value) (os : List DV) : Hp := match w with
  | none => (mC b, ⟨.shut, zPr⟩) :: mR b ds ks os
  | some q => (A, ⟨.ow, byV q.1⟩) :: (A + 1, ⟨.ow, byV q.2.1⟩) :: (mC b, ⟨.shut, mwC A q.1.length q.2.1.length q.2.2⟩) :: mR b ds ks os
def mfO (n m i C : Nat) (dr met : Bool) (lv : Value) : List (Nat × Value) := [(0, llA n), (1, .bool dr), (2, mkY m), (7, .bool true), (8, lv), (10, mpC C), (11, .bool met), (12, iV i)]
def lastM : List Pr → List Int → Option Pr → Option Pr
  | [], _, w => w
  | p :: l, K, w => lastM l K (bif decide (p.1 = K) then some p else w)
theorem mf_inner {inr : Bool} {h0 : Hp} {L : List (List Pr)} {os : List DV} {ks : List Value} {K : List Int} {n m i : Nat} {dr b : Bool} {o : Nat} {l : List Pr} (hK : FdK ks m K) (hL : FdLL L n) (hx : L[i]? = some l) : ∀ (r k : Nat) (w : Option Pr), k + r = l.length →
    LRuns inr Try.prog (bodyIn Try.prog 6 12) 60 200 h0 100 (mfI n m i k (mC b) dr w.isSome (mV b o)) (mfH b 80 w (llD L) ks os) 100 (.exit 2, mfO n m i (mC b) dr (lastM (l.drop k) K w).isSome (mV b o), mfH b 80 (lastM (l.drop k) K w) (llD L) ks os)
  | 0, k, w, hr => by
      obtain ⟨rfl, rfl, bK⟩ := hK
      have hl := hL.l
      have hn9 := hL.n9
      have hi : i < L.length := (List.getElem?_eq_some_iff.1 hx).1
      have A := ll_at hx
      have l9 := (hL.L l (List.mem_of_getElem? hx)).l9
      rw [List.drop_of_length_le (by omega)]
      cases b with
      | false =>
        cases w with
        | none =>
          refine LRuns.exit (code_runsP mfX mfL0 (runZ_ok mfX mfT0 mfL0 mixed 9) mixed (mf_nNe inr n K.length i k o 0 0 dr false (llD L) os (byV K) [] []) ?_) (by intro e; cases e) rfl (by omega) (by omega) (fun n => n) ?_ ?_ rfl
          · simp only [Alls, rg, decide_eq_true_eq, decide_eq_false_iff_not, Nat.add_zero, A.n, A.s]
            repeat' (with_reducible apply And.intro)
            all_goals first | omega | exact A.o _ | (with_reducible exact trivial)
          · exact ⟨rfl, rb_slg rfl rfl, rfl, rfl, rfl, rb_slg rfl rfl, rfl, rfl, rfl, rfl, rfl, rfl, rfl, rfl, rfl, rfl, trivial⟩
          · refine ⟨sh_row (m := 6) rfl rfl rfl, sw_row (m := 0) rfl rfl, ow_row (m := 4) rfl rfl (byV_ren _), trivial⟩
        | some q =>
          refine LRuns.exit (code_runsP mfX mfL0 (runZ_ok mfX mfT0 mfL0 mixed 9) mixed (mf_nSe inr n K.length i k o q.1.length q.2.1.length dr q.2.2 (llD L) os (byV K) (byV q.1) (byV q.2.1)) ?_) (by intro e; cases e) rfl (by omega) (by omega) (fun n => n) ?_ ?_ rfl
          · simp only [Alls, rg, decide_eq_true_eq, decide_eq_false_iff_not, Nat.add_zero, A.n, A.s]
            repeat' (with_reducible apply And.intro)
            all_goals first | omega | exact A.o _ | (with_reducible exact trivial)
          · exact ⟨rfl, rb_slg rfl rfl, rfl, rfl, rfl, rb_slg rfl rfl, rfl, rfl, rfl, rfl, rfl, rfl, rfl, rfl, rfl, rfl, trivial⟩
          · refine ⟨ow_row (m := 80) rfl (ow_eq ?_) (byV_ren _), ow_row (m := 81) rfl (ow_eq ?_) (byV_ren _), sh_row (m := 6) rfl (sh_eq ?_) (mw2_ren (B := 80) (C := 81) rfl rfl rfl rfl (fun n => by intro e; cases e) rfl), sw_row (m := 0) rfl rfl, ow_row (m := 4) rfl rfl (byV_ren _), trivial⟩ <;> rfl
      | true =>
        cases w with
        | none =>
          refine LRuns.exit (code_runsP mfX mfL0 (runZ_ok mfX mfT0 mfL0 mixed 9) mixed (mf_rNe inr n K.length i k o 0 0 dr false (llD L) os (byV K) [] []) ?_) (by intro e; cases e) rfl (by omega) (by omega) (fun n => n) ?_ ?_ rfl
          · simp only [Alls, rg, decide_eq_true_eq, decide_eq_false_iff_not, Nat.add_zero, A.n, A.s]
            repeat' (with_reducible apply And.intro)
            all_goals first | omega | exact A.o _ | (with_reducible exact trivial)
          · exact ⟨rfl, rb_slg rfl rfl, rfl, rfl, rfl, rb_slg rfl rfl, rfl, rfl, rfl, rb_slg rfl rfl, rfl, rfl, rfl, rfl, rfl, rfl, trivial⟩
          · refine ⟨sh_row (m := 7) rfl rfl rfl, df_row (m := 6) rfl rfl, sw_row (m := 0) rfl rfl, ow_row (m := 4) rfl rfl (byV_ren _), trivial⟩
        | some q =>
          refine LRuns.exit (code_runsP mfX mfL0 (runZ_ok mfX mfT0 mfL0 mixed 9) mixed (mf_rSe inr n K.length i k o q.1.length q.2.1.length dr q.2.2 (llD L) os (byV K) (byV q.1) (byV q.2.1)) ?_) (by intro e; cases e) rfl (by omega) (by omega) (fun n => n) ?_ ?_ rfl
          · simp only [Alls, rg, decide_eq_true_eq, decide_eq_false_iff_not, Nat.add_zero, A.n, A.s]
            repeat' (with_reducible apply And.intro)
            all_goals first | omega | exact A.o _ | (with_reducible exact trivial)
          · exact ⟨rfl, rb_slg rfl rfl, rfl, rfl, rfl, rb_slg rfl rfl, rfl, rfl, rfl, rb_slg rfl rfl, rfl, rfl, rfl, rfl, rfl, rfl, trivial⟩
          · refine ⟨ow_row (m := 80) rfl (ow_eq ?_) (byV_ren _), ow_row (m := 81) rfl (ow_eq ?_) (byV_ren _), sh_row (m := 7) rfl (sh_eq ?_) (mw2_ren (B := 80) (C := 81) rfl rfl rfl rfl (fun n => by intro e; cases e) rfl), df_row (m := 6) rfl rfl, sw_row (m := 0) rfl rfl, ow_row (m := 4) rfl rfl (byV_ren _), trivial⟩ <;> rfl
  | r + 1, k, w, hr => by
      have hl := hL.l
      have hn9 := hL.n9
      have hi : i < L.length := (List.getElem?_eq_some_iff.1 hx).1
      have A := ll_at hx
      have fl := hL.L l (List.mem_of_getElem? hx)
      have l9 := fl.l9
      have hj : k < l.length := by omega
      obtain ⟨p, hp⟩ : ∃ p, l[k] = p := ⟨_, rfl⟩
      have F := (cpD_prs l).facts (i := k) (p := p) (by rw [← hp]; exact List.getElem?_eq_getElem hj)
      have hm : p ∈ l := by rw [← hp]; exact List.getElem_mem hj
      have hd : l.drop k = p :: l.drop (k + 1) := by rw [List.drop_eq_getElem_cons hj, hp]
      have f0 := F.l0
      have f1 := F.l1
      have v0 := F.v0
      have v1 := F.v1
      have fg := F.g
      have bp := (fl.O p hm).1
      have bv := (fl.O p hm).2
      have z0 := (fl.z p hm).k
      have z1 := (fl.z p hm).v
      have hKK := hK
      obtain ⟨rfl, rfl, bK⟩ := hK
      have hse0 := strEq_I bp bK
      rw [hd]
      simp only [lastM]
      by_cases hk : p.1 = K
      · rw [decide_eq_true hk] at hse0 ⊢
        simp only [cond_true]
        cases b with
        | false =>
          cases w with
          | none =>
            refine LRuns.step (code_runsP mfX mfL0 (runZ_ok mfX mfT0 mfL0 mixed 9) mixed (mf_nNh inr n K.length i k o 0 0 dr false (llD L) os (byV K) [] []) ?_) rfl (by omega) (by omega) (fun n => bif Nat.beq n 80 then 104 else bif Nat.beq n 81 then 105 else n) ?_ ?_ rfl (mf_inner (b := false) hKK hL hx r (k + 1) (some p) (by omega))
            ·
              simp only [Alls, rg, decide_eq_true_eq, decide_eq_false_iff_not, Nat.add_zero, Nat.zero_add, Nat.mul_one, ixO_eq, Int.toNat_natCast, A.n, A.s, f0, f1, v0, v1, tk_by, byV_ints, byV_len]
              repeat' (with_reducible apply And.intro)
              all_goals first | omega | (with_reducible assumption) | exact A.o _ | exact F.o27 _ | exact F.o29 _ | (with_reducible exact trivial) | (with_reducible rfl) | exact byV_eq _ | exact a1_by _ | exact byV_ren _ | exact fun e => nil_by e | skip
            · exact ⟨rfl, rb_slg rfl rfl, rfl, rfl, rfl, rb_slg rfl rfl, rfl, rfl, rfl, rfl, rfl, rfl, rfl, rfl, rfl, rfl, rfl, rfl, trivial⟩
            · refine ⟨ow_row (m := 104) rfl (ow_eq ?_) (byV_ren _), ow_row (m := 105) rfl (ow_eq ?_) (byV_ren _), sh_row (m := 6) rfl (sh_eq ?_) (mw2_ren (B := 104) (C := 105) rfl rfl rfl rfl (fun n => by intro e; cases e) rfl), sw_row (m := 0) rfl rfl, ow_row (m := 4) rfl rfl (byV_ren _), trivial⟩
              · simp only [Nat.add_zero, A.n, A.s, v0]
              · simp only [Nat.add_zero, A.n, A.s, v1]
              · simp only [Nat.add_zero, A.n, A.s, f0, f1, fg]
                first | done | rfl
          | some q =>
            refine LRuns.step (code_runsP mfX mfL0 (runZ_ok mfX mfT0 mfL0 mixed 9) mixed (mf_nSh inr n K.length i k o q.1.length q.2.1.length dr q.2.2 (llD L) os (byV K) (byV q.1) (byV q.2.1)) ?_) rfl (by omega) (by omega) (fun n => bif Nat.beq n 80 then 104 else bif Nat.beq n 81 then 105 else n) ?_ ?_ rfl (mf_inner (b := false) hKK hL hx r (k + 1) (some p) (by omega))
            ·
              simp only [Alls, rg, decide_eq_true_eq, decide_eq_false_iff_not, Nat.add_zero, Nat.zero_add, Nat.mul_one, ixO_eq, Int.toNat_natCast, A.n, A.s, f0, f1, v0, v1, tk_by, byV_ints, byV_len]
              repeat' (with_reducible apply And.intro)
              all_goals first | omega | (with_reducible assumption) | exact A.o _ | exact F.o27 _ | exact F.o29 _ | (with_reducible exact trivial) | (with_reducible rfl) | exact byV_eq _ | exact a1_by _ | exact byV_ren _ | exact fun e => nil_by e | skip
            · exact ⟨rfl, rb_slg rfl rfl, rfl, rfl, rfl, rb_slg rfl rfl, rfl, rfl, rfl, rfl, rfl, rfl, rfl, rfl, rfl, rfl, rfl, rfl, trivial⟩
            · refine ⟨ow_row (m := 104) rfl (ow_eq ?_) (byV_ren _), ow_row (m := 105) rfl (ow_eq ?_) (byV_ren _), sh_row (m := 6) rfl (sh_eq ?_) (mw2_ren (B := 104) (C := 105) rfl rfl rfl rfl (fun n => by intro e; cases e) rfl), sw_row (m := 0) rfl rfl, ow_row (m := 4) rfl rfl (byV_ren _), trivial⟩
              · simp only [Nat.add_zero, A.n, A.s, v0]
              · simp only [Nat.add_zero, A.n, A.s, v1]
              · simp only [Nat.add_zero, A.n, A.s, f0, f1, fg]
                first | done | rfl
        | true =>
          cases w with
          | none =>
            refine LRuns.step (code_runsP mfX mfL0 (runZ_ok mfX mfT0 mfL0 mixed 9) mixed (mf_rNh inr n K.length i k o 0 0 dr false (llD L) os (byV K) [] []) ?_) rfl (by omega) (by omega) (fun n => bif Nat.beq n 80 then 104 else bif Nat.beq n 81 then 105 else n) ?_ ?_ rfl (mf_inner (b := true) hKK hL hx r (k + 1) (some p) (by omega))
            ·
              simp only [Alls, rg, decide_eq_true_eq, decide_eq_false_iff_not, Nat.add_zero, Nat.zero_add, Nat.mul_one, ixO_eq, Int.toNat_natCast, A.n, A.s, f0, f1, v0, v1, tk_by, byV_ints, byV_len]
              repeat' (with_reducible apply And.intro)
              all_goals first | omega | (with_reducible assumption) | exact A.o _ | exact F.o27 _ | exact F.o29 _ | (with_reducible exact trivial) | (with_reducible rfl) | exact byV_eq _ | exact a1_by _ | exact byV_ren _ | exact fun e => nil_by e | skip
            · exact ⟨rfl, rb_slg rfl rfl, rfl, rfl, rfl, rb_slg rfl rfl, rfl, rfl, rfl, rb_slg rfl rfl, rfl, rfl, rfl, rfl, rfl, rfl, rfl, rfl, trivial⟩
            · refine ⟨ow_row (m := 104) rfl (ow_eq ?_) (byV_ren _), ow_row (m := 105) rfl (ow_eq ?_) (byV_ren _), sh_row (m := 7) rfl (sh_eq ?_) (mw2_ren (B := 104) (C := 105) rfl rfl rfl rfl (fun n => by intro e; cases e) rfl), df_row (m := 6) rfl rfl, sw_row (m := 0) rfl rfl, ow_row (m := 4) rfl rfl (byV_ren _), trivial⟩
              · simp only [Nat.add_zero, A.n, A.s, v0]
              · simp only [Nat.add_zero, A.n, A.s, v1]
              · simp only [Nat.add_zero, A.n, A.s, f0, f1, fg]
                first | done | rfl
          | some q =>
            refine LRuns.step (code_runsP mfX mfL0 (runZ_ok mfX mfT0 mfL0 mixed 9) mixed (mf_rSh inr n K.length i k o q.1.length q.2.1.length dr q.2.2 (llD L) os (byV K) (byV q.1) (byV q.2.1)) ?_) rfl (by omega) (by omega) (fun n => bif Nat.beq n 80 then 104 else bif Nat.beq n 81 then 105 else n) ?_ ?_ rfl (mf_inner (b := true) hKK hL hx r (k + 1) (some p) (by omega))
            ·
              simp only [Alls, rg, decide_eq_true_eq, decide_eq_false_iff_not, Nat.add_zero, Nat.zero_add, Nat.mul_one, ixO_eq, Int.toNat_natCast, A.n, A.s, f0, f1, v0, v1, tk_by, byV_ints, byV_len]
              repeat' (with_reducible apply And.intro)
              all_goals first | omega | (with_reducible assumption) | exact A.o _ | exact F.o27 _ | exact F.o29 _ | (with_reducible exact trivial) | (with_reducible rfl) | exact byV_eq _ | exact a1_by _ | exact byV_ren _ | exact fun e => nil_by e | skip
            · exact ⟨rfl, rb_slg rfl rfl, rfl, rfl, rfl, rb_slg rfl rfl, rfl, rfl, rfl, rb_slg rfl rfl, rfl, rfl, rfl, rfl, rfl, rfl, rfl, rfl, trivial⟩
            · refine ⟨ow_row (m := 104) rfl (ow_eq ?_) (byV_ren _), ow_row (m := 105) rfl (ow_eq ?_) (byV_ren _), sh_row (m := 7) rfl (sh_eq ?_) (mw2_ren (B := 104) (C := 105) rfl rfl rfl rfl (fun n => by intro e; cases e) rfl), df_row (m := 6) rfl rfl, sw_row (m := 0) rfl rfl, ow_row (m := 4) rfl rfl (byV_ren _), trivial⟩
              · simp only [Nat.add_zero, A.n, A.s, v0]
              · simp only [Nat.add_zero, A.n, A.s, v1]
              · simp only [Nat.add_zero, A.n, A.s, f0, f1, fg]
                first | done | rfl
      · rw [decide_eq_false hk] at hse0 ⊢
        simp only [cond_false]
        cases b with
        | false =>
          cases w with
          | none =>
            refine LRuns.step (code_runsP mfX mfL0 (runZ_ok mfX mfT0 mfL0 mixed 9) mixed (mf_nNm inr n K.length i k o 0 0 dr false (llD L) os (byV K) [] []) ?_) rfl (by omega) (by omega) (fun n => n) ?_ ?_ rfl (mf_inner (b := false) hKK hL hx r (k + 1) none (by omega))
            ·
              simp only [Alls, rg, decide_eq_true_eq, decide_eq_false_iff_not, Nat.add_zero, Nat.zero_add, Nat.mul_one, ixO_eq, Int.toNat_natCast, A.n, A.s, f0, f1, v0, v1, tk_by, byV_ints, byV_len]
              repeat' (with_reducible apply And.intro)
              all_goals first | omega | (with_reducible assumption) | exact A.o _ | exact F.o27 _ | exact F.o29 _ | (with_reducible exact trivial) | (with_reducible rfl) | exact byV_eq _ | exact a1_by _ | exact byV_ren _ | exact fun e => nil_by e | skip
            · exact ⟨rfl, rb_slg rfl rfl, rfl, rfl, rfl, rb_slg rfl rfl, rfl, rfl, rfl, rfl, rfl, rfl, rfl, rfl, rfl, rfl, rfl, rfl, trivial⟩
            · refine ⟨sh_row (m := 6) rfl rfl rfl, sw_row (m := 0) rfl rfl, ow_row (m := 4) rfl rfl (byV_ren _), trivial⟩
          | some q =>
            refine LRuns.step (code_runsP mfX mfL0 (runZ_ok mfX mfT0 mfL0 mixed 9) mixed (mf_nSm inr n K.length i k o q.1.length q.2.1.length dr q.2.2 (llD L) os (byV K) (byV q.1) (byV q.2.1)) ?_) rfl (by omega) (by omega) (fun n => n) ?_ ?_ rfl (mf_inner (b := false) hKK hL hx r (k + 1) (some q) (by omega))
            ·
              simp only [Alls, rg, decide_eq_true_eq, decide_eq_false_iff_not, Nat.add_zero, Nat.zero_add, Nat.mul_one, ixO_eq, Int.toNat_natCast, A.n, A.s, f0, f1, v0, v1, tk_by, byV_ints, byV_len]
              repeat' (with_reducible apply And.intro)
              all_goals first | omega | (with_reducible assumption) | exact A.o _ | exact F.o27 _ | exact F.o29 _ | (with_reducible exact trivial) | (with_reducible rfl) | exact byV_eq _ | exact a1_by _ | exact byV_ren _ | exact fun e => nil_by e | skip
            · exact ⟨rfl, rb_slg rfl rfl, rfl, rfl, rfl, rb_slg rfl rfl, rfl, rfl, rfl, rfl, rfl, rfl, rfl, rfl, rfl, rfl, rfl, rfl, trivial⟩
            · refine ⟨ow_row (m := 80) rfl (ow_eq ?_) (byV_ren _), ow_row (m := 81) rfl (ow_eq ?_) (byV_ren _), sh_row (m := 6) rfl (sh_eq ?_) (mw2_ren (B := 80) (C := 81) rfl rfl rfl rfl (fun n => by intro e; cases e) rfl), sw_row (m := 0) rfl rfl, ow_row (m := 4) rfl rfl (byV_ren _), trivial⟩
              all_goals rfl
        | true =>
          cases w with
          | none =>
            refine LRuns.step (code_runsP mfX mfL0 (runZ_ok mfX mfT0 mfL0 mixed 9) mixed (mf_rNm inr n K.length i k o 0 0 dr false (llD L) os (byV K) [] []) ?_) rfl (by omega) (by omega) (fun n => n) ?_ ?_ rfl (mf_inner (b := true) hKK hL hx r (k + 1) none (by omega))
            ·
              simp only [Alls, rg, decide_eq_true_eq, decide_eq_false_iff_not, Nat.add_zero, Nat.zero_add, Nat.mul_one, ixO_eq, Int.toNat_natCast, A.n, A.s, f0, f1, v0, v1, tk_by, byV_ints, byV_len]
              repeat' (with_reducible apply And.intro)
              all_goals first | omega | (with_reducible assumption) | exact A.o _ | exact F.o27 _ | exact F.o29 _ | (with_reducible exact trivial) | (with_reducible rfl) | exact byV_eq _ | exact a1_by _ | exact byV_ren _ | exact fun e => nil_by e | skip
            · exact ⟨rfl, rb_slg rfl rfl, rfl, rfl, rfl, rb_slg rfl rfl, rfl, rfl, rfl, rb_slg rfl rfl, rfl, rfl, rfl, rfl, rfl, rfl, rfl, rfl, trivial⟩
            · refine ⟨sh_row (m := 7) rfl rfl rfl, df_row (m := 6) rfl rfl, sw_row (m := 0) rfl rfl, ow_row (m := 4) rfl rfl (byV_ren _), trivial⟩
          | some q =>
            refine LRuns.step (code_runsP mfX mfL0 (runZ_ok mfX mfT0 mfL0 mixed 9) mixed (mf_rSm inr n K.length i k o q.1.length q.2.1.length dr q.2.2 (llD L) os (byV K) (byV q.1) (byV q.2.1)) ?_) rfl (by omega) (by omega) (fun n => n) ?_ ?_ rfl (mf_inner (b := true) hKK hL hx r (k + 1) (some q) (by omega))
            ·
              simp only [Alls, rg, decide_eq_true_eq, decide_eq_false_iff_not, Nat.add_zero, Nat.zero_add, Nat.mul_one, ixO_eq, Int.toNat_natCast, A.n, A.s, f0, f1, v0, v1, tk_by, byV_ints, byV_len]
              repeat' (with_reducible apply And.intro)
              all_goals first | omega | (with_reducible assumption) | exact A.o _ | exact F.o27 _ | exact F.o29 _ | (with_reducible exact trivial) | (with_reducible rfl) | exact byV_eq _ | exact a1_by _ | exact byV_ren _ | exact fun e => nil_by e | skip
            · exact ⟨rfl, rb_slg rfl rfl, rfl, rfl, rfl, rb_slg rfl rfl, rfl, rfl, rfl, rb_slg rfl rfl, rfl, rfl, rfl, rfl, rfl, rfl, rfl, rfl, trivial⟩
            · refine ⟨ow_row (m := 80) rfl (ow_eq ?_) (byV_ren _), ow_row (m := 81) rfl (ow_eq ?_) (byV_ren _), sh_row (m := 7) rfl (sh_eq ?_) (mw2_ren (B := 80) (C := 81) rfl rfl rfl rfl (fun n => by intro e; cases e) rfl), df_row (m := 6) rfl rfl, sw_row (m := 0) rfl rfl, ow_row (m := 4) rfl rfl (byV_ren _), trivial⟩
              all_goals rfl
end Go.Proofs.Ytmoflcoijmmpjaa
/-
  Chapter 14: the statement MergeFinds: its inner loop as a specification; the law of its outer loop.
-/
namespace Go.Proofs.Ytmoflcoijmmpjaa
set_option linter.unusedSimpArgs false
set_option linter.unusedVariables false
set_option linter.unusedSectionVars false
open Go Go.RowKit
structure MiOk (ds : List DV) (ks : List Value) (m n i : Nat) : Prop where
  K : FdK ks m (intsOf ks)
  e : ds = llD (llOf ds)
  L : FdLL (llOf ds) n
  i : i < n
def miPk (live : List (Nat × Value)) (h : Hp) : Option ((Nat × Nat × Nat × Bool) × List DV × List Value) := match live, lk h 0, lk h 4 with
  | (_, .slice _ n _) :: (_, .bool dr) :: (_, .slice _ m _) :: _ :: _ :: _ :: _ :: (_, .int _ i) :: _, some ⟨.sw ds, _⟩, some ⟨.ow, ks⟩ => some ((n, m, i.toNat, dr), ds, ks)
  | _, _, _ => none
def miSp (b : Bool) (w w' : Option Pr) (o : Nat) (os : List DV) : LSpec := lspec miPk (fun a => (mfI a.1.1 a.1.2.1 a.1.2.2.1 0 (mC b) a.1.2.2.2 w.isSome (mV b o), mfH b 20 w a.2.1 a.2.2 os, 60)) (fun a tp => some ((.exit 2, mfO a.1.1 a.1.2.1 a.1.2.2.1 (mC b) a.1.2.2.2 w'.isSome (mV b o), mfH b 80 w' a.2.1 a.2.2 os, 200, [mC b, 20, 21]), tp, [MiOk a.2.1 a.2.2 a.1.2.1 a.1.1 a.1.2.2.1, lastM (gL (llOf a.2.1) a.1.2.2.1) (intsOf a.2.2) w = w']))
theorem gL_at {L : List (List Pr)} {i : Nat} (h : i < L.length) : L[i]? = some (gL L i) := by
  unfold gL
  rw [List.getElem?_eq_getElem h]
  rfl
theorem mf_out (b : Bool) (A B : Nat) (w w' : Option Pr) (ds : List DV) (ks : List Value) (os : List DV) (j : Nat) (h1 : j ≠ mC b) (hA : j ≠ A ∧ j ≠ A + 1) (hB : j ≠ B ∧ j ≠ B + 1) : lk (mfH b A w ds ks os) j = lk (mfH b B w' ds ks os) j := by
  have e : ∀ (A : Nat) (w : Option Pr), j ≠ A ∧ j ≠ A + 1 → lk (mfH b A w ds ks os) j = lk (mR b ds ks os) j := fun A w hA => by
    cases w with
    | none => unfold mfH; simp only [lk_cons, if_neg h1.symm]
    | some q => unfold mfH; simp only [lk_cons, if_neg h1.symm, if_neg hA.1.symm, if_neg hA.2.symm]
  rw [e A w hA, e B w' hB]
set_option maxHeartbeats 4000000 in
theorem miSp_ok (b : Bool) (w w' : Option Pr) (o : Nat) (os : List DV) : LSOk Try.prog 100 [0, 1, 2, 7, 8, 10, 11, 12, 13] (bodyIn Try.prog 6 12) (miSp b w w' o os) := by
  refine lspec_ok fun a tp xt l2 h2 nx2 d tp' ob hs ho inr ts hn hg => ?_
  obtain ⟨⟨n, m, i, dr⟩, ds, ks⟩ := a
  simp only at hs hg
  simp only [Option.some.injEq, Prod.mk.injEq] at hs
  obtain ⟨⟨rfl, rfl, rfl, rfl, rfl⟩, rfl, rfl⟩ := hs
  obtain ⟨h, hw, _⟩ := ho
  have hl := h.L.l
  have q := mf_inner (inr := inr) (h0 := mfH b 20 w ds ks os) (os := os) (dr := dr) (b := b) (o := o) h.K h.L (gL_at (show i < (llOf ds).length by have := h.i; omega)) (gL (llOf ds) i).length 0 w (by omega)
  rw [List.drop_zero, hw, ← h.e] at q
  have hkr : ∀ τ, renL τ ks = some ks := by rw [h.K.e]; exact byV_ren _
  have hT : Tidy (mfH b 20 w ds ks os) 60 (mfH b 80 w' ds ks os) 200 [mC b, 20, 21] := by
    refine tidy_of (by omega) (fun j hj hd => mf_out b 80 20 w' w ds ks os j (fun e => hd (by simp [e])) (by omega) ⟨fun e => hd (by simp [e]), fun e => hd (by simp [e])⟩) ?_
    cases b <;> cases w' <;> rfl
  cases b with
  | false =>
    cases w with
    | none =>
      refine LRuns.enter (N := 100) (l2 := mfI n m i 0 (mC false) dr false (mV false o)) (h2 := mfH false 80 none ds ks os) hn hg (by omega) (by omega) (fun n => bif Nat.beq n 80 then 20 else bif Nat.beq n 81 then 21 else n) ?_ ?_ rfl q hT
      · exact ⟨rfl, rb_slg rfl rfl, rfl, rfl, rfl, rb_slg rfl rfl, rfl, rfl, rfl, rfl, rfl, rfl, rfl, rfl, rfl, rfl, rfl, rfl, trivial⟩
      · exact ⟨sh_row (m := 6) rfl rfl rfl, sw_row (m := 0) rfl rfl, ow_row (m := 4) rfl rfl hkr, trivial⟩
    | some x =>
      refine LRuns.enter (N := 100) (l2 := mfI n m i 0 (mC false) dr true (mV false o)) (h2 := mfH false 80 (some x) ds ks os) hn hg (by omega) (by omega) (fun n => bif Nat.beq n 80 then 20 else bif Nat.beq n 81 then 21 else n) ?_ ?_ rfl q hT
      · exact ⟨rfl, rb_slg rfl rfl, rfl, rfl, rfl, rb_slg rfl rfl, rfl, rfl, rfl, rfl, rfl, rfl, rfl, rfl, rfl, rfl, rfl, rfl, trivial⟩
      · exact ⟨ow_row (m := 20) rfl rfl (byV_ren _), ow_row (m := 21) rfl rfl (byV_ren _), sh_row (m := 6) rfl rfl (mw2_ren (B := 20) (C := 21) rfl rfl rfl rfl (fun n => by intro e; cases e) rfl), sw_row (m := 0) rfl rfl, ow_row (m := 4) rfl rfl hkr, trivial⟩
  | true =>
    cases w with
    | none =>
      refine LRuns.enter (N := 100) (l2 := mfI n m i 0 (mC true) dr false (mV true o)) (h2 := mfH true 80 none ds ks os) hn hg (by omega) (by omega) (fun n => bif Nat.beq n 80 then 20 else bif Nat.beq n 81 then 21 else n) ?_ ?_ rfl q hT
      · exact ⟨rfl, rb_slg rfl rfl, rfl, rfl, rfl, rb_slg rfl rfl, rfl, rfl, rfl, rb_slg rfl rfl, rfl, rfl, rfl, rfl, rfl, rfl, rfl, rfl, trivial⟩
      · exact ⟨sh_row (m := 7) rfl rfl rfl, df_row (m := 6) rfl rfl, sw_row (m := 0) rfl rfl, ow_row (m := 4) rfl rfl hkr, trivial⟩
    | some x =>
      refine LRuns.enter (N := 100) (l2 := mfI n m i 0 (mC true) dr true (mV true o)) (h2 := mfH true 80 (some x) ds ks os) hn hg (by omega) (by omega) (fun n => bif Nat.beq n 80 then 20 else bif Nat.beq n 81 then 21 else n) ?_ ?_ rfl q hT
      · exact ⟨rfl, rb_slg rfl rfl, rfl, rfl, rfl, rb_slg rfl rfl, rfl, rfl, rfl, rb_slg rfl rfl, rfl, rfl, rfl, rfl, rfl, rfl, rfl, rfl, trivial⟩
      · exact ⟨ow_row (m := 20) rfl rfl (byV_ren _), ow_row (m := 21) rfl rfl (byV_ren _), sh_row (m := 7) rfl rfl (mw2_ren (B := 20) (C := 21) rfl rfl rfl rfl (fun n => by intro e; cases e) rfl), df_row (m := 6) rfl rfl, sw_row (m := 0) rfl rfl, ow_row (m := 4) rfl rfl hkr, trivial⟩
def miLo (P : Program) (b : Bool) (w w' : Option Pr) (o : Nat) (os : List DV) : LFun := mkL 6 12 100 [0, 1, 2, 7, 8, 10, 11, 12, 13] (bodyIn P 6 12) (miSp b w w' o os)
theorem miLo_one (b : Bool) (w w' : Option Pr) (o : Nat) (os : List DV) : LOne Try.prog (miLo Try.prog b w w' o os) := mkL_ok (miSp_ok b w w' o os)
def mfQ (n m C : Nat) (i : Int) (dr met : Bool) (lv : Value) : List (Nat × Value) := [(0, llA n), (1, .bool dr), (2, mkY m), (7, .bool true), (8, lv), (10, mpC C), (11, .bool met), (12, .int .i64 i)]
def mfE (m C : Nat) (dr met : Bool) (lv : Value) : List (Nat × Value) := [(1, .bool dr), (2, mkY m), (7, .bool true), (8, lv), (10, mpC C), (11, .bool met)]
theorem mo_nNN (inr : Bool) (n m i o : Nat) (dr : Bool) (ds os : List DV) (ks : List Value) (x y : Pr) : prjP [0, 1, 2, 7, 8, 10, 11, 12] 60 (codeZ (mfV (miLo Try.prog false none none o os) noTz) Try.prog (runZ (mfV (miLo Try.prog
 false none none o os) noTz) Try.prog 9) 6 inr 100000 (bodyIn Try.prog 6 9) (SL 100 (mfO n m i (mC false) dr false (mV false o))) (mfH false 20 none ds ks os) 60 [true])
 =
  (let a3 := (10, Value.pointer (some (Addr.mk 6 0 none))); let a2 := (2, Value.slice (some (Addr.mk 4 0 none)) m (capBig + 4)); let a1 := (0, Value.slice (some (Addr.mk 0 0 none)) n 18446744073709551616); Res.ok ((Xt.normal, 100,
 [a1, (1, Value.bool dr), a2, (7, Value.bool true), (8, Value.slice none 0 0), a3, (11, Value.bool false), (12, Value.int IntKind.i64 ((↑i : Int) - (1 : Int)))], [(6, Rw.mk Kd.shut [Value.slice none 0 0, Value.slice none 0 0,
 Value.bool false]), (0, Rw.mk (Kd.sw ds) []), (4, Rw.mk Kd.ow ks)], 200, [6, 20, 21], []), [], [true = true, bodyIn Try.prog (6 : FuncId) 12 = bodyIn Try.prog (6 : FuncId) 12, [a1, (1, Value.bool dr), a2, (7, Value.bool true), (8,
 Value.slice none 0 0), a3, (11, Value.bool false), (12, Value.int IntKind.i64 (↑i : Int)), (13, Value.int IntKind.i64 (0 : Int))] = mfI n m i 0 6 dr false (Value.slice none 0 0), mfH false 20 none ds ks os = mfH false 20 none ds
 ks os, 60 = 60, MiOk ds ks m n i, lastM (gL (llOf ds) i) (intsOf ks) none = none, rg IntKind.i64 ((↑i : Int) - (1 : Int))])) := by
 kernel_rfl
theorem mo_nNS (inr : Bool) (n m i o : Nat) (dr : Bool) (ds os : List DV) (ks : List Value) (x y : Pr) : prjP [0, 1, 2, 7, 8, 10, 11, 12] 60 (codeZ (mfV (miLo Try.prog false none (some y) o os) noTz) Try.prog (runZ (mfV (miLo
 Try.prog false none (some y) o os) noTz) Try.prog 9) 6 inr 100000 (bodyIn Try.prog 6 9) (SL 100 (mfO n m i (mC false) dr false (mV false o))) (mfH false 20 none ds ks os) 60 [true])
 =
  (let a3 := (10, Value.pointer (some (Addr.mk 6 0 none))); let a2 := (2, Value.slice (some (Addr.mk 4 0 none)) m (capBig + 4)); let a1 := (0, Value.slice (some (Addr.mk 0 0 none)) n 18446744073709551616); Res.ok ((Xt.normal, 100,
 [a1, (1, Value.bool dr), a2, (7, Value.bool true), (8, Value.slice none 0 0), a3, (11, Value.bool true), (12, Value.int IntKind.i64 ((↑i : Int) - (1 : Int)))], [(80, Rw.mk Kd.ow (byV (Prod.fst y))), (81, Rw.mk Kd.ow (byV (Prod.fst
 (Prod.snd y)))), (6, Rw.mk Kd.shut [Value.slice (some (Addr.mk 80 0 none)) (List.length (Prod.fst y)) (capBig + 80), Value.slice (some (Addr.mk 81 0 none)) (List.length (Prod.fst (Prod.snd y))) (capBig + 81), Value.bool (Prod.snd
 (Prod.snd y))]), (0, Rw.mk (Kd.sw ds) []), (4, Rw.mk Kd.ow ks)], 200, [6, 20, 21], []), [], [true = true, bodyIn Try.prog (6 : FuncId) 12 = bodyIn Try.prog (6 : FuncId) 12, [a1, (1, Value.bool dr), a2, (7, Value.bool true), (8,
 Value.slice none 0 0), a3, (11, Value.bool false), (12, Value.int IntKind.i64 (↑i : Int)), (13, Value.int IntKind.i64 (0 : Int))] = mfI n m i 0 6 dr false (Value.slice none 0 0), mfH false 20 none ds ks os = mfH false 20 none ds
 ks os, 60 = 60, MiOk ds ks m n i, lastM (gL (llOf ds) i) (intsOf ks) none = some y, rg IntKind.i64 ((↑i : Int) - (1 : Int))])) := by
 kernel_rfl
theorem mo_nSS (inr : Bool) (n m i o : Nat) (dr : Bool) (ds os : List DV) (ks : List Value) (x y : Pr) : prjP [0, 1, 2, 7, 8, 10, 11, 12] 60 (codeZ (mfV (miLo Try.prog false (some x) (some y) o os) noTz) Try.prog (runZ (mfV (miLo
 Try.prog false (some x) (some y) o os) noTz) Try.prog 9) 6 inr 100000 (bodyIn Try.prog 6 9) (SL 100 (mfO n m i (mC false) dr true (mV false o))) (mfH false 20 (some x) ds ks os) 60 [true])
 =
  (let a3 := (10, Value.pointer (some (Addr.mk 6 0 none))); let a2 := (2, Value.slice (some (Addr.mk 4 0 none)) m (capBig + 4)); let a1 := (0, Value.slice (some (Addr.mk 0 0 none)) n 18446744073709551616); Res.ok ((Xt.normal, 100,
 [a1, (1, Value.bool dr), a2, (7, Value.bool true), (8, Value.slice none 0 0), a3, (11, Value.bool true), (12, Value.int IntKind.i64 ((↑i : Int) - (1 : Int)))], [(80, Rw.mk Kd.ow (byV (Prod.fst y))), (81, Rw.mk Kd.ow (byV (Prod.fst
 (Prod.snd y)))), (6, Rw.mk Kd.shut [Value.slice (some (Addr.mk 80 0 none)) (List.length (Prod.fst y)) (capBig + 80), Value.slice (some (Addr.mk 81 0 none)) (List.length (Prod.fst (Prod.snd y))) (capBig + 81), Value.bool (Prod.snd
 (Prod.snd y))]), (0, Rw.mk (Kd.sw ds) []), (4, Rw.mk Kd.ow ks)], 200, [6, 20, 21], []), [], [true = true, bodyIn Try.prog (6 : FuncId) 12 = bodyIn Try.prog (6 : FuncId) 12, [a1, (1, Value.bool dr), a2, (7, Value.bool true), (8,
 Value.slice none 0 0), a3, (11, Value.bool true), (12, Value.int IntKind.i64 (↑i : Int)), (13, Value.int IntKind.i64 (0 : Int))] = mfI n m i 0 6 dr true (Value.slice none 0 0), mfH false 20 (some x) ds ks os = mfH false 20 (some
 x) ds ks os, 60 = 60, MiOk ds ks m n i, lastM (gL (llOf ds) i) (intsOf ks) (some x) = some y, rg IntKind.i64 ((↑i : Int) - (1 : Int))])) := by
 kernel_rfl
theorem mo_nNe (inr : Bool) (n m o : Nat) (i : Int) (dr : Bool) (ds os : List DV) (ks : List Value) (x y : Pr) : prjP [1, 2, 7, 8, 10, 11] 60 (codeZ (mfV noL noTz) Try.prog (runZ (mfV noL noTz) Try.prog 9) 6 inr 100000 (bodyIn Try.prog 6 9) (SL 100 (mfQ n m (mC false) i dr false (mV false o))) (mfH false 20 none ds ks os) 60 [false]) =
  Res.ok ((Xt.exit 0, 100, [(1, Value.bool dr), (2, Value.slice (some (Addr.mk 4 0 none)) m (capBig + 4)), (7, Value.bool true), (8, Value.slice none 0 0), (10, Value.pointer (some (Addr.mk 6 0 none))), (11, Value.bool
 false)], [(6, Rw.mk Kd.shut [Value.slice none 0 0, Value.slice none 0 0, Value.bool false]), (0, Rw.mk (Kd.sw ds) []), (4, Rw.mk Kd.ow ks)], 60, [], []), [], [decide (i ≥ (0 : Int)) = false]) := by kernel_rfl
theorem mo_nSe (inr : Bool) (n m o : Nat) (i : Int) (dr : Bool) (ds os : List DV) (ks : List Value) (x y : Pr) : prjP [1, 2, 7, 8, 10, 11] 60 (codeZ (mfV noL noTz) Try.prog (runZ (mfV noL noTz) Try.prog 9) 6 inr 100000 (bodyIn Try.prog 6 9) (SL 100 (mfQ n m (mC false) i dr true (mV false o))) (mfH false 20 (some x) ds ks os) 60 [false]) =
  Res.ok ((Xt.exit 0, 100, [(1, Value.bool dr), (2, Value.slice (some (Addr.mk 4 0 none)) m (capBig + 4)), (7, Value.bool true), (8, Value.slice none 0 0), (10, Value.pointer (some (Addr.mk 6 0 none))), (11, Value.bool
 true)], [(20, Rw.mk Kd.ow (byV (Prod.fst x))), (21, Rw.mk Kd.ow (byV (Prod.fst (Prod.snd x)))), (6, Rw.mk Kd.shut [Value.slice (some (Addr.mk 20 0 none)) (List.length (Prod.fst x)) (capBig + 20), Value.slice (some
 (Addr.mk 21 0 none)) (List.length (Prod.fst (Prod.snd x))) (capBig + 21), Value.bool (Prod.snd (Prod.snd x))]), (0, Rw.mk (Kd.sw ds) []), (4, Rw.mk Kd.ow ks)], 60, [], []), [], [decide (i ≥ (0 : Int)) = false]) := by kernel_rfl
theorem mo_rNN (inr : Bool) (n m i o : Nat) (dr : Bool) (ds os : List DV) (ks : List Value) (x y : Pr) : prjP [0, 1, 2, 7, 8, 10, 11, 12] 60 (codeZ (mfV (miLo Try.prog true none none o os) noTz) Try.prog (runZ (mfV (miLo Try.prog
 true none none o os) noTz) Try.prog 9) 6 inr 100000 (bodyIn Try.prog 6 9) (SL 100 (mfO n m i (mC true) dr false (mV true o))) (mfH true 20 none ds ks os) 60 [true])
 =
  (let a4 := (10, Value.pointer (some (Addr.mk 7 0 none))); let a3 := (8, Value.slice (some (Addr.mk 6 0 none)) o (capBig + 6)); let a2 := (2, Value.slice (some (Addr.mk 4 0 none)) m (capBig + 4)); let a1 := (0, Value.slice (some
 (Addr.mk 0 0 none)) n 18446744073709551616); Res.ok ((Xt.normal, 100, [a1, (1, Value.bool dr), a2, (7, Value.bool true), a3, a4, (11, Value.bool false), (12, Value.int IntKind.i64 ((↑i : Int) - (1 : Int)))], [(7, Rw.mk Kd.shut
 [Value.slice none 0 0, Value.slice none 0 0, Value.bool false]), (6, Rw.mk (Kd.df 3 [Value.slice none 0 0, Value.slice none 0 0, Value.bool false] os) []), (0, Rw.mk (Kd.sw ds) []), (4, Rw.mk Kd.ow ks)], 200, [7, 20, 21], []), [],
 [true = true, bodyIn Try.prog (6 : FuncId) 12 = bodyIn Try.prog (6 : FuncId) 12, [a1, (1, Value.bool dr), a2, (7, Value.bool true), a3, a4, (11, Value.bool false), (12, Value.int IntKind.i64 (↑i : Int)), (13, Value.int IntKind.i64
 (0 : Int))] = mfI n m i 0 7 dr false (Value.slice (some (Addr.mk 6 0 none)) o (capBig + 6)), mfH true 20 none ds ks os = mfH true 20 none ds ks os, 60 = 60, MiOk ds ks m n i, lastM (gL (llOf ds) i) (intsOf ks) none = none, rg
 IntKind.i64 ((↑i : Int) - (1 : Int))])) := by
 kernel_rfl
theorem mo_rNS (inr : Bool) (n m i o : Nat) (dr : Bool) (ds os : List DV) (ks : List Value) (x y : Pr) : prjP [0, 1, 2, 7, 8, 10, 11, 12] 60 (codeZ (mfV (miLo Try.prog true none (some y) o os) noTz) Try.prog (runZ (mfV (miLo
 Try.prog true none (some y) o os) noTz) Try.prog 9) 6 inr 100000 (bodyIn Try.prog 6 9) (SL 100 (mfO n m i (mC true) dr false (mV true o))) (mfH true 20 none ds ks os) 60 [true])
 =
  (let a4 := (10, Value.pointer (some (Addr.mk 7 0 none))); let a3 := (8, Value.slice (some (Addr.mk 6 0 none)) o (capBig + 6)); let a2 := (2, Value.slice (some (Addr.mk 4 0 none)) m (capBig + 4)); let a1 := (0, Value.slice (some
 (Addr.mk 0 0 none)) n 18446744073709551616); Res.ok ((Xt.normal, 100, [a1, (1, Value.bool dr), a2, (7, Value.bool true), a3, a4, (11, Value.bool true), (12, Value.int IntKind.i64 ((↑i : Int) - (1 : Int)))], [(80, Rw.mk Kd.ow (byV
 (Prod.fst y))), (81, Rw.mk Kd.ow (byV (Prod.fst (Prod.snd y)))), (7, Rw.mk Kd.shut [Value.slice (some (Addr.mk 80 0 none)) (List.length (Prod.fst y)) (capBig + 80), Value.slice (some (Addr.mk 81 0 none)) (List.length (Prod.fst
 (Prod.snd y))) (capBig + 81), Value.bool (Prod.snd (Prod.snd y))]), (6, Rw.mk (Kd.df 3 [Value.slice none 0 0, Value.slice none 0 0, Value.bool false] os) []), (0, Rw.mk (Kd.sw ds) []), (4, Rw.mk Kd.ow ks)], 200, [7, 20, 21], []),
 [], [true = true, bodyIn Try.prog (6 : FuncId) 12 = bodyIn Try.prog (6 : FuncId) 12, [a1, (1, Value.bool dr), a2, (7, Value.bool true), a3, a4, (11, Value.bool false), (12, Value.int IntKind.i64 (↑i : Int)), (13, Value.int
 IntKind.i64 (0 : Int))] = mfI n m i 0 7 dr false (Value.slice (some (Addr.mk 6 0 none)) o (capBig + 6)), mfH true 20 none ds ks os = mfH true 20 none ds ks os, 60 = 60, MiOk ds ks m n i, lastM (gL (llOf ds) i) (intsOf ks) none =
 some y, rg IntKind.i64 ((↑i : Int) - (1 : Int))])) := by
 kernel_rfl
theorem mo_rSS (inr : Bool) (n m i o : Nat) (dr : Bool) (ds os : List DV) (ks : List Value) (x y : Pr) : prjP [0, 1, 2, 7, 8, 10, 11, 12] 60 (codeZ (mfV (miLo Try.prog true (some x) (some y) o os) noTz) Try.prog (runZ (mfV (miLo
 Try.prog true (some x) (some y) o os) noTz) Try.prog 9) 6 inr 100000 (bodyIn Try.prog 6 9) (SL 100 (mfO n m i (mC true) dr true (mV true o))) (mfH true 20 (some x) ds ks os) 60 [true])
 =
  (let a4 := (10, Value.pointer (some (Addr.mk 7 0 none))); let a3 := (8, Value.slice (some (Addr.mk 6 0 none)) o (capBig + 6)); let a2 := (2, Value.slice (some (Addr.mk 4 0 none)) m (capBig + 4)); let a1 := (0, Value.slice (some
 (Addr.mk 0 0 none)) n 18446744073709551616); Res.ok ((Xt.normal, 100, [a1, (1, Value.bool dr), a2, (7, Value.bool true), a3, a4, (11, Value.bool true), (12, Value.int IntKind.i64 ((↑i : Int) - (1 : Int)))], [(80, Rw.mk Kd.ow (byV
 (Prod.fst y))), (81, Rw.mk Kd.ow (byV (Prod.fst (Prod.snd y)))), (7, Rw.mk Kd.shut [Value.slice (some (Addr.mk 80 0 none)) (List.length (Prod.fst y)) (capBig + 80), Value.slice (some (Addr.mk 81 0 none)) (List.length (Prod.fst
 (Prod.snd y))) (capBig + 81), Value.bool (Prod.snd (Prod.snd y))]), (6, Rw.mk (Kd.df 3 [Value.slice none 0 0, Value.slice none 0 0, Value.bool false] os) []), (0, Rw.mk (Kd.sw ds) []), (4, Rw.mk Kd.ow ks)], 200, [7, 20, 21], []),
 [], [true = true, bodyIn Try.prog (6 : FuncId) 12 = bodyIn Try.prog (6 : FuncId) 12, [a1, (1, Value.bool dr), a2, (7, Value.bool true), a3, a4, (11, Value.bool true), (12, Value.int IntKind.i64 (↑i : Int)), (13, Value.int
 IntKind.i64 (0 : Int))] = mfI n m i 0 7 dr true (Value.slice (some (Addr.mk 6 0 none)) o (capBig + 6)), mfH true 20 (some x) ds ks os = mfH true 20 (some x) ds ks os, 60 = 60, MiOk ds ks m n i, lastM (gL (llOf ds) i) (intsOf ks)
 (some x) = some y, rg IntKind.i64 ((↑i : Int) - (1 : Int))])) := by
 kernel_rfl
theorem mo_rNe (inr : Bool) (n m o : Nat) (i : Int) (dr : Bool) (ds os : List DV) (ks : List Value) (x y : Pr) : prjP [1, 2, 7, 8, 10, 11] 60 (codeZ (mfV noL noTz) Try.prog (runZ (mfV noL noTz) Try.prog 9) 6 inr 100000 (bodyIn Try.prog 6 9) (SL 100 (mfQ n m (mC true) i dr false (mV true o))) (mfH true 20 none ds ks os) 60 [false]) =
  Res.ok ((Xt.exit 0, 100, [(1, Value.bool dr), (2, Value.slice (some (Addr.mk 4 0 none)) m (capBig + 4)), (7, Value.bool true), (8, Value.slice (some (Addr.mk 6 0 none)) o (capBig + 6)), (10, Value.pointer (some (Addr.mk 7
 0 none))), (11, Value.bool false)], [(7, Rw.mk Kd.shut [Value.slice none 0 0, Value.slice none 0 0, Value.bool false]), (6, Rw.mk (Kd.df 3 [Value.slice none 0 0, Value.slice none 0 0, Value.bool false] os) []), (0, Rw.mk
 (Kd.sw ds) []), (4, Rw.mk Kd.ow ks)], 60, [], []), [], [decide (i ≥ (0 : Int)) = false]) := by kernel_rfl
theorem mo_rSe (inr : Bool) (n m o : Nat) (i : Int) (dr : Bool) (ds os : List DV) (ks : List Value) (x y : Pr) : prjP [1, 2, 7, 8, 10, 11] 60 (codeZ (mfV noL noTz) Try.prog (runZ (mfV noL noTz) Try.prog 9) 6 inr 100000 (bodyIn Try.prog 6 9) (SL 100 (mfQ n m (mC true) i dr true (mV true o))) (mfH true 20 (some x) ds ks os) 60 [false]) =
  Res.ok ((Xt.exit 0, 100, [(1, Value.bool dr), (2, Value.slice (some (Addr.mk 4 0 none)) m (capBig + 4)), (7, Value.bool true), (8, Value.slice (some (Addr.mk 6 0 none)) o (capBig + 6)), (10, Value.pointer (some (Addr.mk 7
 0 none))), (11, Value.bool true)], [(20, Rw.mk Kd.ow (byV (Prod.fst x))), (21, Rw.mk Kd.ow (byV (Prod.fst (Prod.snd x)))), (7, Rw.mk Kd.shut [Value.slice (some (Addr.mk 20 0 none)) (List.length (Prod.fst x)) (capBig +
 20), Value.slice (some (Addr.mk 21 0 none)) (List.length (Prod.fst (Prod.snd x))) (capBig + 21), Value.bool (Prod.snd (Prod.snd x))]), (6, Rw.mk (Kd.df 3 [Value.slice none 0 0, Value.slice none 0 0, Value.bool false] os)
 []), (0, Rw.mk (Kd.sw ds) []), (4, Rw.mk Kd.ow ks)], 60, [], []), [], [decide (i ≥ (0 : Int)) = false]) := by kernel_rfl
end Go.Proofs.Ytmoflcoijmmpjaa
/-
  Chapter 14: the statement MergeFinds: the law of its outer loop; the law's runs.
-/
namespace Go.Proofs.Ytmoflcoijmmpjaa
set_option linter.unusedSimpArgs false
set_option linter.unusedVariables false
set_option linter.unusedSectionVars false
open Go Go.RowKit
def lastJ (L : List (List Pr)) (K : List Int) : Nat → Option Pr → Option Pr
  | 0, w => w
  | j + 1, w => lastJ L K j (lastM (gL L j) K w)
theorem lastM_some : ∀ (l : List Pr) (K : List Int) (x : Pr), ∃ y, lastM l K (some x) = some y
  | [], K, x => ⟨x, rfl⟩
  | p :: l, K, x => by
      simp only [lastM]
      cases decide (p.1 = K) with
      | true => exact lastM_some l K p
      | false => exact lastM_some l K x
set_option maxHeartbeats 4000000 in
theorem mf_outer_n {inr : Bool} {h0 : Hp} {L : List (List Pr)} {os : List DV} {ks : List Value} {K : List Int} {n m o : Nat} {dr : Bool} (hK : FdK ks m K) (hL : FdLL L n) : ∀ (j : Nat) (w : Option Pr), j ≤ n →
    LRuns inr Try.prog (bodyIn Try.prog 6 9) 7 300 h0 100 (mfQ n m 6 ((j : Int) - 1) dr w.isSome nlV) (mfH false 20 w (llD L) ks os) 60 (.exit 0, mfE m 6 dr (lastJ L K j w).isSome nlV, mfH false 20 (lastJ L K j w) (llD L) ks os)
  | 0, w, hj => by
      have hkr : ∀ τ, renL τ ks = some ks := by rw [hK.e]; exact byV_ren _
      simp only [lastJ]
      cases w with
      | none =>
        refine LRuns.exit (code_runsP mfX mfL0 (runZ_ok mfX mfT0 mfL0 mixed 9) mixed (mo_nNe inr n m o (((0 : Nat) : Int) - 1) dr (llD L) os ks ([], [], false) ([], [], false)) ?_) (by intro e; cases e) rfl (by omega) (by omega) (fun n => n) ?_ ?_ rfl
        · exact ⟨decide_eq_false (by omega), trivial⟩
        · exact ⟨rfl, rfl, rfl, rb_slg rfl rfl, rfl, rfl, rfl, rfl, rfl, rfl, rfl, rfl, trivial⟩
        · exact ⟨sh_row (m := 6) rfl rfl rfl, sw_row (m := 0) rfl rfl, ow_row (m := 4) rfl rfl hkr, trivial⟩
      | some x =>
        refine LRuns.exit (code_runsP mfX mfL0 (runZ_ok mfX mfT0 mfL0 mixed 9) mixed (mo_nSe inr n m o (((0 : Nat) : Int) - 1) dr (llD L) os ks x ([], [], false)) ?_) (by intro e; cases e) rfl (by omega) (by omega) (fun n => n) ?_ ?_ rfl
        · exact ⟨decide_eq_false (by omega), trivial⟩
        · exact ⟨rfl, rfl, rfl, rb_slg rfl rfl, rfl, rfl, rfl, rfl, rfl, rfl, rfl, rfl, trivial⟩
        · exact ⟨ow_row (m := 20) rfl rfl (byV_ren _), ow_row (m := 21) rfl rfl (byV_ren _), sh_row (m := 6) rfl rfl (mw2_ren (B := 20) (C := 21) rfl rfl rfl rfl (fun n => by intro e; cases e) rfl), sw_row (m := 0) rfl rfl, ow_row (m := 4) rfl rfl hkr, trivial⟩
  | j + 1, w, hj => by
      have hl := hL.l
      have hn9 := hL.n9
      have hkr : ∀ τ, renL τ ks = some ks := by rw [hK.e]; exact byV_ren _
      have ei : intsOf ks = K := by rw [hK.e]; exact byV_ints K
      have e1 : ((j + 1 : Nat) : Int) - 1 = (j : Int) := by omega
      have mi : MiOk (llD L) ks m n j := ⟨by rw [ei]; exact hK, by rw [llOf_ll], by rw [llOf_ll]; exact hL, by omega⟩
      have hg : ∀ (w w' : Option Pr), lastM (gL L j) K w = w' → lastM (gL (llOf (llD L)) j) (intsOf ks) w = w' := fun w w' h => by rw [llOf_ll, ei]; exact h
      have hr : rg IntKind.i64 ((j : Int) - 1) := by simp only [rg]; omega
      rw [e1]
      simp only [lastJ]
      cases w with
      | none =>
        cases hw : lastM (gL L j) K none with
        | none =>
          have hLp : LOkZ (mfV (miLo Try.prog false none none o os) noTz) Try.prog := L_okV rfl (miLo_one _ _ _ _ _)
          have run := mo_nNN inr n m j o dr (llD L) os ks ([], [], false) ([], [], false)
          refine LRuns.step (code_runsP mfX hLp (runZ_ok mfX mfT0 hLp mixed 9) mixed run ?_) rfl (by omega) (by omega) (fun n => n) ?_ ?_ rfl (mf_outer_n (o := o) hK hL j none (by omega))
          · exact ⟨rfl, rfl, rfl, rfl, rfl, mi, hg _ _ hw, hr, trivial⟩
          · exact ⟨rfl, rb_slg rfl rfl, rfl, rfl, rfl, rb_slg rfl rfl, rfl, rfl, rfl, rfl, rfl, rfl, rfl, rfl, rfl, rfl, trivial⟩
          · exact ⟨sh_row (m := 6) rfl rfl rfl, sw_row (m := 0) rfl rfl, ow_row (m := 4) rfl rfl hkr, trivial⟩
        | some y =>
          have hLp : LOkZ (mfV (miLo Try.prog false none (some y) o os) noTz) Try.prog := L_okV rfl (miLo_one _ _ _ _ _)
          have run := mo_nNS inr n m j o dr (llD L) os ks ([], [], false) y
          refine LRuns.step (code_runsP mfX hLp (runZ_ok mfX mfT0 hLp mixed 9) mixed run ?_) rfl (by omega) (by omega) (fun n => bif Nat.beq n 20 then 80 else bif Nat.beq n 21 then 81 else n) ?_ ?_ rfl (mf_outer_n (o := o) hK hL j (some y) (by omega))
          · exact ⟨rfl, rfl, rfl, rfl, rfl, mi, hg _ _ hw, hr, trivial⟩
          · exact ⟨rfl, rb_slg rfl rfl, rfl, rfl, rfl, rb_slg rfl rfl, rfl, rfl, rfl, rfl, rfl, rfl, rfl, rfl, rfl, rfl, trivial⟩
          · exact ⟨ow_row (m := 80) rfl rfl (byV_ren _), ow_row (m := 81) rfl rfl (byV_ren _), sh_row (m := 6) rfl rfl (mw2_ren (B := 80) (C := 81) rfl rfl rfl rfl (fun n => by intro e; cases e) rfl), sw_row (m := 0) rfl rfl, ow_row (m := 4) rfl rfl hkr, trivial⟩
      | some x =>
        obtain ⟨y, hw⟩ := lastM_some (gL L j) K x
        rw [hw]
        have hLp : LOkZ (mfV (miLo Try.prog false (some x) (some y) o os) noTz) Try.prog := L_okV rfl (miLo_one _ _ _ _ _)
        have run := mo_nSS inr n m j o dr (llD L) os ks x y
        refine LRuns.step (code_runsP mfX hLp (runZ_ok mfX mfT0 hLp mixed 9) mixed run ?_) rfl (by omega) (by omega) (fun n => bif Nat.beq n 20 then 80 else bif Nat.beq n 21 then 81 else n) ?_ ?_ rfl (mf_outer_n (o := o) hK hL j (some y) (by omega))
        · exact ⟨rfl, rfl, rfl, rfl, rfl, mi, hg _ _ hw, hr, trivial⟩
        · exact ⟨rfl, rb_slg rfl rfl, rfl, rfl, rfl, rb_slg rfl rfl, rfl, rfl, rfl, rfl, rfl, rfl, rfl, rfl, rfl, rfl, trivial⟩
        · exact ⟨ow_row (m := 80) rfl rfl (byV_ren _), ow_row (m := 81) rfl rfl (byV_ren _), sh_row (m := 6) rfl rfl (mw2_ren (B := 80) (C := 81) rfl rfl rfl rfl (fun n => by intro e; cases e) rfl), sw_row (m := 0) rfl rfl, ow_row (m := 4) rfl rfl hkr, trivial⟩
set_option maxHeartbeats 4000000 in
theorem mf_outer_r {inr : Bool} {h0 : Hp} {L : List (List Pr)} {os : List DV} {ks : List Value} {K : List Int} {n m o : Nat} {dr : Bool} (hK : FdK ks m K) (hL : FdLL L n) : ∀ (j : Nat) (w : Option Pr), j ≤ n →
    LRuns inr Try.prog (bodyIn Try.prog 6 9) 8 300 h0 100 (mfQ n m 7 ((j : Int) - 1) dr w.isSome (mlR o)) (mfH true 20 w (llD L) ks os) 60 (.exit 0, mfE m 7 dr (lastJ L K j w).isSome (mlR o), mfH true 20 (lastJ L K j w) (llD L) ks os)
  | 0, w, hj => by
      have hkr : ∀ τ, renL τ ks = some ks := by rw [hK.e]; exact byV_ren _
      simp only [lastJ]
      cases w with
      | none =>
        refine LRuns.exit (code_runsP mfX mfL0 (runZ_ok mfX mfT0 mfL0 mixed 9) mixed (mo_rNe inr n m o (((0 : Nat) : Int) - 1) dr (llD L) os ks ([], [], false) ([], [], false)) ?_) (by intro e; cases e) rfl (by omega) (by omega) (fun n => n) ?_ ?_ rfl
        · exact ⟨decide_eq_false (by omega), trivial⟩
        · exact ⟨rfl, rfl, rfl, rb_slg rfl rfl, rfl, rfl, rfl, rb_slg rfl rfl, rfl, rfl, rfl, rfl, trivial⟩
        · exact ⟨sh_row (m := 7) rfl rfl rfl, df_row (m := 6) rfl rfl, sw_row (m := 0) rfl rfl, ow_row (m := 4) rfl rfl hkr, trivial⟩
      | some x =>
        refine LRuns.exit (code_runsP mfX mfL0 (runZ_ok mfX mfT0 mfL0 mixed 9) mixed (mo_rSe inr n m o (((0 : Nat) : Int) - 1) dr (llD L) os ks x ([], [], false)) ?_) (by intro e; cases e) rfl (by omega) (by omega) (fun n => n) ?_ ?_ rfl
        · exact ⟨decide_eq_false (by omega), trivial⟩
        · exact ⟨rfl, rfl, rfl, rb_slg rfl rfl, rfl, rfl, rfl, rb_slg rfl rfl, rfl, rfl, rfl, rfl, trivial⟩
        · exact ⟨ow_row (m := 20) rfl rfl (byV_ren _), ow_row (m := 21) rfl rfl (byV_ren _), sh_row (m := 7) rfl rfl (mw2_ren (B := 20) (C := 21) rfl rfl rfl rfl (fun n => by intro e; cases e) rfl), df_row (m := 6) rfl rfl, sw_row (m := 0) rfl rfl, ow_row (m := 4) rfl rfl hkr, trivial⟩
  | j + 1, w, hj => by
      have hl := hL.l
      have hn9 := hL.n9
      have hkr : ∀ τ, renL τ ks = some ks := by rw [hK.e]; exact byV_ren _
      have ei : intsOf ks = K := by rw [hK.e]; exact byV_ints K
      have e1 : ((j + 1 : Nat) : Int) - 1 = (j : Int) := by omega
      have mi : MiOk (llD L) ks m n j := ⟨by rw [ei]; exact hK, by rw [llOf_ll], by rw [llOf_ll]; exact hL, by omega⟩
      have hg : ∀ (w w' : Option Pr), lastM (gL L j) K w = w' → lastM (gL (llOf (llD L)) j) (intsOf ks) w = w' := fun w w' h => by rw [llOf_ll, ei]; exact h
      have hr : rg IntKind.i64 ((j : Int) - 1) := by simp only [rg]; omega
      rw [e1]
      simp only [lastJ]
      cases w with
      | none =>
        cases hw : lastM (gL L j) K none with
        | none =>
          have hLp : LOkZ (mfV (miLo Try.prog true none none o os) noTz) Try.prog := L_okV rfl (miLo_one _ _ _ _ _)
          have run := mo_rNN inr n m j o dr (llD L) os ks ([], [], false) ([], [], false)
          refine LRuns.step (code_runsP mfX hLp (runZ_ok mfX mfT0 hLp mixed 9) mixed run ?_) rfl (by omega) (by omega) (fun n => n) ?_ ?_ rfl (mf_outer_r (o := o) hK hL j none (by omega))
          · exact ⟨rfl, rfl, rfl, rfl, rfl, mi, hg _ _ hw, hr, trivial⟩
          · exact ⟨rfl, rb_slg rfl rfl, rfl, rfl, rfl, rb_slg rfl rfl, rfl, rfl, rfl, rb_slg rfl rfl, rfl, rfl, rfl, rfl, rfl, rfl, trivial⟩
          · exact ⟨sh_row (m := 7) rfl rfl rfl, df_row (m := 6) rfl rfl, sw_row (m := 0) rfl rfl, ow_row (m := 4) rfl rfl hkr, trivial⟩
        | some y =>
          have hLp : LOkZ (mfV (miLo Try.prog true none (some y) o os) noTz) Try.prog := L_okV rfl (miLo_one _ _ _ _ _)
          have run := mo_rNS inr n m j o dr (llD L) os ks ([], [], false) y
          refine LRuns.step (code_runsP mfX hLp (runZ_ok mfX mfT0 hLp mixed 9) mixed run ?_) rfl (by omega) (by omega) (fun n => bif Nat.beq n 20 then 80 else bif Nat.beq n 21 then 81 else n) ?_ ?_ rfl (mf_outer_r (o := o) hK hL j (some y) (by omega))
          · exact ⟨rfl, rfl, rfl, rfl, rfl, mi, hg _ _ hw, hr, trivial⟩
          · exact ⟨rfl, rb_slg rfl rfl, rfl, rfl, rfl, rb_slg rfl rfl, rfl, rfl, rfl, rb_slg rfl rfl, rfl, rfl, rfl, rfl, rfl, rfl, trivial⟩
          · exact ⟨ow_row (m := 80) rfl rfl (byV_ren _), ow_row (m := 81) rfl rfl (byV_ren _), sh_row (m := 7) rfl rfl (mw2_ren (B := 80) (C := 81) rfl rfl rfl rfl (fun n => by intro e; cases e) rfl), df_row (m := 6) rfl rfl, sw_row (m := 0) rfl rfl, ow_row (m := 4) rfl rfl hkr, trivial⟩
      | some x =>
        obtain ⟨y, hw⟩ := lastM_some (gL L j) K x
        rw [hw]
        have hLp : LOkZ (mfV (miLo Try.prog true (some x) (some y) o os) noTz) Try.prog := L_okV rfl (miLo_one _ _ _ _ _)
        have run := mo_rSS inr n m j o dr (llD L) os ks x y
        refine LRuns.step (code_runsP mfX hLp (runZ_ok mfX mfT0 hLp mixed 9) mixed run ?_) rfl (by omega) (by omega) (fun n => bif Nat.beq n 20 then 80 else bif Nat.beq n 21 then 81 else n) ?_ ?_ rfl (mf_outer_r (o := o) hK hL j (some y) (by omega))
        · exact ⟨rfl, rfl, rfl, rfl, rfl, mi, hg _ _ hw, hr, trivial⟩
        · exact ⟨rfl, rb_slg rfl rfl, rfl, rfl, rfl, rb_slg rfl rfl, rfl, rfl, rfl, rb_slg rfl rfl, rfl, rfl, rfl, rfl, rfl, rfl, trivial⟩
        · exact ⟨ow_row (m := 80) rfl rfl (byV_ren _), ow_row (m := 81) rfl rfl (byV_ren _), sh_row (m := 7) rfl rfl (mw2_ren (B := 80) (C := 81) rfl rfl rfl rfl (fun n => by intro e; cases e) rfl), df_row (m := 6) rfl rfl, sw_row (m := 0) rfl rfl, ow_row (m := 4) rfl rfl hkr, trivial⟩
structure MqOk (ds : List DV) (ks : List Value) (m n : Nat) : Prop where
  K : FdK ks m (intsOf ks)
  e : ds = llD (llOf ds)
  L : FdLL (llOf ds) n
theorem mf_out1 (b : Bool) (w w' : Option Pr) (ds : List DV) (ks : List Value) (os : List DV) (j : Nat) (h1 : j ≠ mC b) (hA : j ≠ 20 ∧ j ≠ 20 + 1) : lk (mfH b 20 w ds ks os) j = lk (mfH b 20 w' ds ks os) j := mf_out b 20 20 w w' ds ks os j h1 hA hA
def mqSp_n (w' : Option Pr) (o : Nat) (os : List DV) : LSpec := lspec miPk (fun a => (mfQ a.1.1 a.1.2.1 6 ((a.1.1 : Int) - 1) a.1.2.2.2 false nlV, mfH false 20 none a.2.1 a.2.2 os, 7)) (fun a tp => some ((.exit 0, mfE a.1.2.1 6 a.1.2.2.2 w'.isSome nlV, mfH false 20 w' a.2.1 a.2.2 os, 300, [6]), tp, [MqOk a.2.1 a.2.2 a.1.2.1 a.1.1, lastJ (llOf a.2.1) (intsOf a.2.2) a.1.1 none = w']))
theorem mqSp_n_ok (w' : Option Pr) (o : Nat) (os : List DV) : LSOk Try.prog 100 [0, 1, 2, 7, 8, 10, 11, 12] (bodyIn Try.prog 6 9) (mqSp_n w' o os) := by
  refine lspec_ok fun a tp xt l2 h2 nx2 d tp' ob hs ho inr ts hn hg => ?_
  obtain ⟨⟨n, m, i, dr⟩, ds, ks⟩ := a
  simp only at hs hg
  simp only [Option.some.injEq, Prod.mk.injEq] at hs
  obtain ⟨⟨rfl, rfl, rfl, rfl, rfl⟩, rfl, rfl⟩ := hs
  obtain ⟨h, hw, _⟩ := ho
  have q := mf_outer_n (inr := inr) (h0 := mfH false 20 none ds ks os) (os := os) (dr := dr) (o := o) h.K h.L n none (Nat.le_refl _)
  rw [hw, ← h.e] at q
  have hkr : ∀ τ, renL τ ks = some ks := by rw [h.K.e]; exact byV_ren _
  have hT : Tidy (mfH false 20 none ds ks os) 7 (mfH false 20 w' ds ks os) 300 [6] := by
    refine tidy_of (by omega) (fun j hj hd => mf_out1 false w' none ds ks os j (fun e => hd (by simp only [List.mem_singleton]; exact e)) (by omega)) ?_
    cases w' <;> rfl
  refine LRuns.enter (N := 60) (l2 := mfQ n m 6 ((n : Int) - 1) dr false nlV) (h2 := mfH false 20 none ds ks os) hn hg (by omega) (by omega) (fun n => n) ?_ ?_ rfl q hT
  · exact ⟨rfl, rb_slg rfl rfl, rfl, rfl, rfl, rb_slg rfl rfl, rfl, rfl, rfl, rfl, rfl, rfl, rfl, rfl, rfl, rfl, trivial⟩
  · exact ⟨sh_row (m := 6) rfl rfl rfl, sw_row (m := 0) rfl rfl, ow_row (m := 4) rfl rfl hkr, trivial⟩
def mqLo_n (P : Program) (w' : Option Pr) (o : Nat) (os : List DV) : LFun := mkL 6 9 100 [0, 1, 2, 7, 8, 10, 11, 12] (bodyIn P 6 9) (mqSp_n w' o os)
theorem mqLo_n_one (w' : Option Pr) (o : Nat) (os : List DV) : LOne Try.prog (mqLo_n Try.prog w' o os) := mkL_ok (mqSp_n_ok w' o os)
def mqSp_r (w' : Option Pr) (o : Nat) (os : List DV) : LSpec := lspec miPk (fun a => (mfQ a.1.1 a.1.2.1 7 ((a.1.1 : Int) - 1) a.1.2.2.2 false (mlR o), mfH true 20 none a.2.1 a.2.2 os, 8)) (fun a tp => some ((.exit 0, mfE a.1.2.1 7 a.1.2.2.2 w'.isSome (mlR o), mfH true 20 w' a.2.1 a.2.2 os, 300, [7]), tp, [MqOk a.2.1 a.2.2 a.1.2.1 a.1.1, lastJ (llOf a.2.1) (intsOf a.2.2) a.1.1 none = w']))
theorem mqSp_r_ok (w' : Option Pr) (o : Nat) (os : List DV) : LSOk Try.prog 100 [0, 1, 2, 7, 8, 10, 11, 12] (bodyIn Try.prog 6 9) (mqSp_r w' o os) := by
  refine lspec_ok fun a tp xt l2 h2 nx2 d tp' ob hs ho inr ts hn hg => ?_
  obtain ⟨⟨n, m, i, dr⟩, ds, ks⟩ := a
  simp only at hs hg
  simp only [Option.some.injEq, Prod.mk.injEq] at hs
  obtain ⟨⟨rfl, rfl, rfl, rfl, rfl⟩, rfl, rfl⟩ := hs
  obtain ⟨h, hw, _⟩ := ho
  have q := mf_outer_r (inr := inr) (h0 := mfH true 20 none ds ks os) (os := os) (dr := dr) (o := o) h.K h.L n none (Nat.le_refl _)
  rw [hw, ← h.e] at q
  have hkr : ∀ τ, renL τ ks = some ks := by rw [h.K.e]; exact byV_ren _
  have hT : Tidy (mfH true 20 none ds ks os) 8 (mfH true 20 w' ds ks os) 300 [7] := by
    refine tidy_of (by omega) (fun j hj hd => mf_out1 true w' none ds ks os j (fun e => hd (by simp only [List.mem_singleton]; exact e)) (by omega)) ?_
    cases w' <;> rfl
  refine LRuns.enter (N := 60) (l2 := mfQ n m 7 ((n : Int) - 1) dr false (mlR o)) (h2 := mfH true 20 none ds ks os) hn hg (by omega) (by omega) (fun n => n) ?_ ?_ rfl q hT
  · exact ⟨rfl, rb_slg rfl rfl, rfl, rfl, rfl, rb_slg rfl rfl, rfl, rfl, rfl, rb_slg rfl rfl, rfl, rfl, rfl, rfl, rfl, rfl, trivial⟩
  · exact ⟨sh_row (m := 7) rfl rfl rfl, df_row (m := 6) rfl rfl, sw_row (m := 0) rfl rfl, ow_row (m := 4) rfl rfl hkr, trivial⟩
def mqLo_r (P : Program) (w' : Option Pr) (o : Nat) (os : List DV) : LFun := mkL 6 9 100 [0, 1, 2, 7, 8, 10, 11, 12] (bodyIn P 6 9) (mqSp_r w' o os)
theorem mqLo_r_one (w' : Option Pr) (o : Nat) (os : List DV) : LOne Try.prog (mqLo_r Try.prog w' o os) := mkL_ok (mqSp_r_ok w' o os)
def mfTs (W : List Pr) (p : Pr) : TFun := orTz (mkT 5 [] gTrueY) (orTz (mkD 9 [.e 1, .f, .f] gLs) (orTz (mkD 12 [.e 1, .f] (gMgP W [] [])) (orTz (mkD 14 [.e 1, .s] (gFd p)) (mkD 30 [.c 3] gSo))))
theorem mfTs_one (W : List Pr) (p : Pr) : TOneZ Try.prog (mfTs W p) := orTz_ok (mkT_one kn_gok) (orTz_ok (mkD_ok ls_gok) (orTz_ok (mkD_ok (mgp_gok W [] [])) (orTz_ok (mkD_ok (fd_gok p)) (mkD_ok so_gok))))
def mfAr (n m : Nat) (dr : Bool) : List Value := [llA n, .bool dr, mkY m]
theorem mz_big (n m : Nat) (dr : Bool) (ds : List DV) (ks : List Value) : prjV (runZ (mfV (noL) (mfTs [] ([], [], false))) Try.prog 12 6 (mfAr n m dr) (mBs ds ks) 6 [true]) =
  (let a1 := (cnL (List.take n (List.drop 0 ds))); Res.ok (Value.bool true, [], [LsOk a1 n ∧ (decide ((↑n : Int) > (32 : Int)) || List.any (llOf a1) (lgL (40 : Int))) = true, (32 : Int) ≤ (9000000 : Int), (40 : Int) ≤ (9000000 :
 Int)])) := by
 kernel_rfl
theorem mz_key (n m : Nat) (dr : Bool) (ds : List DV) (ks : List Value) : prjV (runZ (mfV (noL) (mfTs [] ([], [], false))) Try.prog 12 6 (mfAr n m dr) (mBs ds ks) 6 [false, true]) =
  (let a1 := (cnL (List.take n (List.drop 0 ds))); Res.ok (Value.bool true, [], [LsOk a1 n ∧ (decide ((↑n : Int) > (32 : Int)) || List.any (llOf a1) (lgL (40 : Int))) = false, (32 : Int) ≤ (9000000 : Int), (40 : Int) ≤ (9000000 :
 Int), decide ((↑m : Int) > (200 : Int)) = true])) := by
 kernel_rfl
theorem mz_uns (n m : Nat) (dr : Bool) (ds : List DV) (ks : List Value) : prjV (runZ (mfV (noL) (mfTs [] ([], [], false))) Try.prog 12 6 (mfAr n m dr) (mBs ds ks) 6 [false, false, false]) =
  (let a1 := (cnL (List.take n (List.drop 0 ds))); Res.ok (Value.bool true, [], [LsOk a1 n ∧ (decide ((↑n : Int) > (32 : Int)) || List.any (llOf a1) (lgL (40 : Int))) = false, (32 : Int) ≤ (9000000 : Int), (40 : Int) ≤ (9000000 :
 Int), decide ((↑m : Int) > (200 : Int)) = false, MgA a1 n, n ≤ 32, sumL (llOf a1) ≤ 4096, allA (llOf a1) = false])) := by
 kernel_rfl
theorem mz_nNf (n m : Nat) (ds : List DV) (ks : List Value) : prjV (runZ (mfV (mqLo_n Try.prog none 0 []) (mfTs [] ([], [], false))) Try.prog 12 6 (mfAr n m false) (mBs ds ks) 6 [false, false, true, true, true, true, false, false,
 true, true, true, true])
 =
  (let a3 := ([] : List Pr); let a2 := ((↑n : Int) - (1 : Int)); let a1 := (cnL (List.take n (List.drop 0 ds))); Res.ok (Value.bool true, [], [LsOk a1 n ∧ (decide ((↑n : Int) > (32 : Int)) || List.any (llOf a1) (lgL (40 : Int))) =
 false, (32 : Int) ≤ (9000000 : Int), (40 : Int) ≤ (9000000 : Int), decide ((↑m : Int) > (200 : Int)) = false, MgB a1 n ∧ mgOut false (llOf a1) = bif true then a3 else bif true then a3 else a3, (bif true then a3 else bif true then
 a3 else a3) = [], rg IntKind.i64 a2, bodyIn Try.prog (6 : FuncId) 9 = bodyIn Try.prog (6 : FuncId) 9, [(0, Value.slice (some (Addr.mk 0 0 none)) n 18446744073709551616), (1, Value.bool false), (2, Value.slice (some (Addr.mk 4 0
 none)) m (capBig + 4)), (7, Value.bool true), (8, Value.slice none 0 0), (10, Value.pointer (some (Addr.mk 6 0 none))), (11, Value.bool false), (12, Value.int IntKind.i64 a2)] = mfQ n m 6 a2 false false (Value.slice none 0 0),
 [(6, Rw.mk Kd.shut [Value.slice none 0 0, Value.slice none 0 0, Value.bool false]), (0, Rw.mk (Kd.sw ds) []), (4, Rw.mk Kd.ow ks)] = mfH false 20 none ds ks [], 7 = 7, MqOk ds ks m n, lastJ (llOf ds) (intsOf ks) n none = none,
 false = false, 1 = 0 → [DV.sl 0 none []] = [], (∀ (τ : Sg), renL τ ks = some ks) ∧ (Prod.fst (Prod.snd (Prod.fst ((n, m, Int.toNat a2, false), ds, ks))) = 0 → ks = []), FoOk [DV.sl 0 none []] ks m 1, fnd (llOf [DV.sl 0 none []])
 (intsOf ks) = none, SoOk [] 0 true, true = true, true = true, true = true])) := by
 kernel_rfl
theorem mz_nNt (n m : Nat) (ds : List DV) (ks : List Value) : prjV (runZ (mfV (mqLo_n Try.prog none 0 []) (mfTs [] ([], [], false))) Try.prog 12 6 (mfAr n m true) (mBs ds ks) 6 [false, false, true, true, true, true, false, false,
 true, true, true, true])
 =
  (let a3 := ([] : List Pr); let a2 := ((↑n : Int) - (1 : Int)); let a1 := (cnL (List.take n (List.drop 0 ds))); Res.ok (Value.bool true, [], [LsOk a1 n ∧ (decide ((↑n : Int) > (32 : Int)) || List.any (llOf a1) (lgL (40 : Int))) =
 false, (32 : Int) ≤ (9000000 : Int), (40 : Int) ≤ (9000000 : Int), decide ((↑m : Int) > (200 : Int)) = false, MgB a1 n ∧ mgOut true (llOf a1) = bif true then a3 else bif true then a3 else a3, (bif true then a3 else bif true then
 a3 else a3) = [], rg IntKind.i64 a2, bodyIn Try.prog (6 : FuncId) 9 = bodyIn Try.prog (6 : FuncId) 9, [(0, Value.slice (some (Addr.mk 0 0 none)) n 18446744073709551616), (1, Value.bool true), (2, Value.slice (some (Addr.mk 4 0
 none)) m (capBig + 4)), (7, Value.bool true), (8, Value.slice none 0 0), (10, Value.pointer (some (Addr.mk 6 0 none))), (11, Value.bool false), (12, Value.int IntKind.i64 a2)] = mfQ n m 6 a2 true false (Value.slice none 0 0), [(6,
 Rw.mk Kd.shut [Value.slice none 0 0, Value.slice none 0 0, Value.bool false]), (0, Rw.mk (Kd.sw ds) []), (4, Rw.mk Kd.ow ks)] = mfH false 20 none ds ks [], 7 = 7, MqOk ds ks m n, lastJ (llOf ds) (intsOf ks) n none = none, false =
 false, 1 = 0 → [DV.sl 0 none []] = [], (∀ (τ : Sg), renL τ ks = some ks) ∧ (Prod.fst (Prod.snd (Prod.fst ((n, m, Int.toNat a2, true), ds, ks))) = 0 → ks = []), FoOk [DV.sl 0 none []] ks m 1, fnd (llOf [DV.sl 0 none []]) (intsOf
 ks) = none, SoOk [] 0 true, true = true, true = true, true = true])) := by
 kernel_rfl
theorem mz_nDt (n m : Nat) (ds : List DV) (ks : List Value) (x : Pr) : prjV (runZ (mfV (mqLo_n Try.prog (some x) 0 []) (mfTs [] ([], [], false))) Try.prog 12 6 (mfAr n m true) (mBs ds ks) 6 [false, false, true, true, true, true,
 true, false, true, true, true, true])
 =
  (let a3 := ([] : List Pr); let a2 := ((↑n : Int) - (1 : Int)); let a1 := (cnL (List.take n (List.drop 0 ds))); Res.ok (Value.bool true, [], [LsOk a1 n ∧ (decide ((↑n : Int) > (32 : Int)) || List.any (llOf a1) (lgL (40 : Int))) =
 false, (32 : Int) ≤ (9000000 : Int), (40 : Int) ≤ (9000000 : Int), decide ((↑m : Int) > (200 : Int)) = false, MgB a1 n ∧ mgOut true (llOf a1) = bif true then a3 else bif true then a3 else a3, (bif true then a3 else bif true then
 a3 else a3) = [], rg IntKind.i64 a2, bodyIn Try.prog (6 : FuncId) 9 = bodyIn Try.prog (6 : FuncId) 9, [(0, Value.slice (some (Addr.mk 0 0 none)) n 18446744073709551616), (1, Value.bool true), (2, Value.slice (some (Addr.mk 4 0
 none)) m (capBig + 4)), (7, Value.bool true), (8, Value.slice none 0 0), (10, Value.pointer (some (Addr.mk 6 0 none))), (11, Value.bool false), (12, Value.int IntKind.i64 a2)] = mfQ n m 6 a2 true false (Value.slice none 0 0), [(6,
 Rw.mk Kd.shut [Value.slice none 0 0, Value.slice none 0 0, Value.bool false]), (0, Rw.mk (Kd.sw ds) []), (4, Rw.mk Kd.ow ks)] = mfH false 20 none ds ks [], 7 = 7, MqOk ds ks m n, lastJ (llOf ds) (intsOf ks) n none = some x, (bif
 true then Prod.snd (Prod.snd x) else false) = true, 1 = 0 → [DV.sl 0 none []] = [], (∀ (τ : Sg), renL τ ks = some ks) ∧ (Prod.fst (Prod.snd (Prod.fst ((n, m, Int.toNat a2, true), ds, ks))) = 0 → ks = []), FoOk [DV.sl 0 none []] ks
 m 1, fnd (llOf [DV.sl 0 none []]) (intsOf ks) = none, SoOk [] 0 true, true = true, true = true, true = true])) := by
 kernel_rfl
theorem mz_rNf (n m : Nat) (ds : List DV) (ks : List Value) (W : List Pr) : prjV (runZ (mfV (mqLo_r Try.prog none W.length (cpD W)) (mfTs W ([], [], false))) Try.prog 12 6 (mfAr n m false) (mBs ds ks) 6 [false, false, true, true,
 true, false, false, false, true, true, true, true])
 =
  (let a4 := (List.length W); let a3 := ((↑n : Int) - (1 : Int)); let a2 := (bif true then W else bif true then [] else []); let a1 := (cnL (List.take n (List.drop 0 ds))); Res.ok (Value.bool true, [], [LsOk a1 n ∧ (decide ((↑n :
 Int) > (32 : Int)) || List.any (llOf a1) (lgL (40 : Int))) = false, (32 : Int) ≤ (9000000 : Int), (40 : Int) ≤ (9000000 : Int), decide ((↑m : Int) > (200 : Int)) = false, MgB a1 n ∧ mgOut false (llOf a1) = bif true then W else bif
 true then [] else [], a2 ≠ [], rg IntKind.i64 a3, bodyIn Try.prog (6 : FuncId) 9 = bodyIn Try.prog (6 : FuncId) 9, [(0, Value.slice (some (Addr.mk 0 0 none)) n 18446744073709551616), (1, Value.bool false), (2, Value.slice (some
 (Addr.mk 4 0 none)) m (capBig + 4)), (7, Value.bool true), (8, Value.slice (some (Addr.mk 6 0 none)) (List.length a2) (capBig + 6)), (10, Value.pointer (some (Addr.mk 7 0 none))), (11, Value.bool false), (12, Value.int IntKind.i64
 a3)] = mfQ n m 7 a3 false false (Value.slice (some (Addr.mk 6 0 none)) a4 (capBig + 6)), [(7, Rw.mk Kd.shut [Value.slice none 0 0, Value.slice none 0 0, Value.bool false]), (6, Rw.mk (Kd.df 3 [Value.slice none 0 0, Value.slice
 none 0 0, Value.bool false] (cpD a2)) []), (0, Rw.mk (Kd.sw ds) []), (4, Rw.mk Kd.ow ks)] = mfH true 20 none ds ks (cpD W), 8 = 8, MqOk ds ks m n, lastJ (llOf ds) (intsOf ks) n none = none, false = false, 1 = 0 → [DV.sl a4 none
 (cnL (cpD W))] = [], List.length W = 0 → cpD W = [], (∀ (τ : Sg), renL τ ks = some ks) ∧ (Prod.fst (Prod.snd (Prod.fst ((n, m, Int.toNat a3, false), ds, ks))) = 0 → ks = []), FoOk [DV.sl a4 none (cnL (cpD W))] ks m 1, fnd (llOf
 [DV.sl a4 none (cnL (cpD W))]) (intsOf ks) = none, SoOk (cnL (List.take (List.length W * 3) (cpD W))) a4 true, true = true, true = true, true = true])) := by
 kernel_rfl
theorem mz_rNt (n m : Nat) (ds : List DV) (ks : List Value) (W : List Pr) : prjV (runZ (mfV (mqLo_r Try.prog none W.length (cpD W)) (mfTs W ([], [], false))) Try.prog 12 6 (mfAr n m true) (mBs ds ks) 6 [false, false, true, true,
 true, false, false, false, true, true, true, true])
 =
  (let a4 := (List.length W); let a3 := ((↑n : Int) - (1 : Int)); let a2 := (bif true then W else bif true then [] else []); let a1 := (cnL (List.take n (List.drop 0 ds))); Res.ok (Value.bool true, [], [LsOk a1 n ∧ (decide ((↑n :
 Int) > (32 : Int)) || List.any (llOf a1) (lgL (40 : Int))) = false, (32 : Int) ≤ (9000000 : Int), (40 : Int) ≤ (9000000 : Int), decide ((↑m : Int) > (200 : Int)) = false, MgB a1 n ∧ mgOut true (llOf a1) = bif true then W else bif
 true then [] else [], a2 ≠ [], rg IntKind.i64 a3, bodyIn Try.prog (6 : FuncId) 9 = bodyIn Try.prog (6 : FuncId) 9, [(0, Value.slice (some (Addr.mk 0 0 none)) n 18446744073709551616), (1, Value.bool true), (2, Value.slice (some
 (Addr.mk 4 0 none)) m (capBig + 4)), (7, Value.bool true), (8, Value.slice (some (Addr.mk 6 0 none)) (List.length a2) (capBig + 6)), (10, Value.pointer (some (Addr.mk 7 0 none))), (11, Value.bool false), (12, Value.int IntKind.i64
 a3)] = mfQ n m 7 a3 true false (Value.slice (some (Addr.mk 6 0 none)) a4 (capBig + 6)), [(7, Rw.mk Kd.shut [Value.slice none 0 0, Value.slice none 0 0, Value.bool false]), (6, Rw.mk (Kd.df 3 [Value.slice none 0 0, Value.slice none
 0 0, Value.bool false] (cpD a2)) []), (0, Rw.mk (Kd.sw ds) []), (4, Rw.mk Kd.ow ks)] = mfH true 20 none ds ks (cpD W), 8 = 8, MqOk ds ks m n, lastJ (llOf ds) (intsOf ks) n none = none, false = false, 1 = 0 → [DV.sl a4 none (cnL
 (cpD W))] = [], List.length W = 0 → cpD W = [], (∀ (τ : Sg), renL τ ks = some ks) ∧ (Prod.fst (Prod.snd (Prod.fst ((n, m, Int.toNat a3, true), ds, ks))) = 0 → ks = []), FoOk [DV.sl a4 none (cnL (cpD W))] ks m 1, fnd (llOf [DV.sl
 a4 none (cnL (cpD W))]) (intsOf ks) = none, SoOk (cnL (List.take (List.length W * 3) (cpD W))) a4 true, true = true, true = true, true = true])) := by
 kernel_rfl
theorem mz_rDt (n m : Nat) (ds : List DV) (ks : List Value) (W : List Pr) (x : Pr) : prjV (runZ (mfV (mqLo_r Try.prog (some x) W.length (cpD W)) (mfTs W ([], [], false))) Try.prog 12 6 (mfAr n m true) (mBs ds ks) 6 [false, false,
 true, true, true, false, true, false, true, true, true, true])
 =
  (let a4 := (List.length W); let a3 := ((↑n : Int) - (1 : Int)); let a2 := (bif true then W else bif true then [] else []); let a1 := (cnL (List.take n (List.drop 0 ds))); Res.ok (Value.bool true, [], [LsOk a1 n ∧ (decide ((↑n :
 Int) > (32 : Int)) || List.any (llOf a1) (lgL (40 : Int))) = false, (32 : Int) ≤ (9000000 : Int), (40 : Int) ≤ (9000000 : Int), decide ((↑m : Int) > (200 : Int)) = false, MgB a1 n ∧ mgOut true (llOf a1) = bif true then W else bif
 true then [] else [], a2 ≠ [], rg IntKind.i64 a3, bodyIn Try.prog (6 : FuncId) 9 = bodyIn Try.prog (6 : FuncId) 9, [(0, Value.slice (some (Addr.mk 0 0 none)) n 18446744073709551616), (1, Value.bool true), (2, Value.slice (some
 (Addr.mk 4 0 none)) m (capBig + 4)), (7, Value.bool true), (8, Value.slice (some (Addr.mk 6 0 none)) (List.length a2) (capBig + 6)), (10, Value.pointer (some (Addr.mk 7 0 none))), (11, Value.bool false), (12, Value.int IntKind.i64
 a3)] = mfQ n m 7 a3 true false (Value.slice (some (Addr.mk 6 0 none)) a4 (capBig + 6)), [(7, Rw.mk Kd.shut [Value.slice none 0 0, Value.slice none 0 0, Value.bool false]), (6, Rw.mk (Kd.df 3 [Value.slice none 0 0, Value.slice none
 0 0, Value.bool false] (cpD a2)) []), (0, Rw.mk (Kd.sw ds) []), (4, Rw.mk Kd.ow ks)] = mfH true 20 none ds ks (cpD W), 8 = 8, MqOk ds ks m n, lastJ (llOf ds) (intsOf ks) n none = some x, (bif true then Prod.snd (Prod.snd x) else
 false) = true, 1 = 0 → [DV.sl a4 none (cnL (cpD W))] = [], List.length W = 0 → cpD W = [], (∀ (τ : Sg), renL τ ks = some ks) ∧ (Prod.fst (Prod.snd (Prod.fst ((n, m, Int.toNat a3, true), ds, ks))) = 0 → ks = []), FoOk [DV.sl a4
 none (cnL (cpD W))] ks m 1, fnd (llOf [DV.sl a4 none (cnL (cpD W))]) (intsOf ks) = none, SoOk (cnL (List.take (List.length W * 3) (cpD W))) a4 true, true = true, true = true, true = true])) := by
 kernel_rfl
theorem mz_rKf (n m : Nat) (ds : List DV) (ks : List Value) (W : List Pr) (x : Pr) : prjV (runZ (mfV (mqLo_r Try.prog (some x) W.length (cpD W)) (mfTs W x)) Try.prog 12 6 (mfAr n m false) (mBs ds ks) 6 [false, false, true, true,
 true, false, false, true, true, true, true, true])
 =
  (let a8 := (Prod.fst x); let a7 := (List.length W); let a6 := ((↑n : Int) - (1 : Int)); let a4 := (bif true then W else bif true then [] else []); let a3 := (cnL (List.take n (List.drop 0 ds))); let a2 := (intsOf (List.take
 (List.length a8) (byV a8))); let a1 := (Prod.fst (Prod.snd x)); let a5 := (intsOf (List.take (List.length a1) (byV a1))); Res.ok (Value.bool true, [], ((fun (q0 q1 q2 q3 : Prop) => [LsOk a3 n ∧ (decide ((↑n : Int) > (32 : Int)) ||
 List.any (llOf a3) (lgL (40 : Int))) = false, (32 : Int) ≤ (9000000 : Int), (40 : Int) ≤ (9000000 : Int), decide ((↑m : Int) > (200 : Int)) = false, MgB a3 n ∧ mgOut false (llOf a3) = bif true then W else bif true then [] else [],
 a4 ≠ [], rg IntKind.i64 a6, bodyIn Try.prog (6 : FuncId) 9 = bodyIn Try.prog (6 : FuncId) 9, [(0, Value.slice (some (Addr.mk 0 0 none)) n 18446744073709551616), (1, Value.bool false), (2, Value.slice (some (Addr.mk 4 0 none)) m
 (capBig + 4)), (7, Value.bool true), (8, Value.slice (some (Addr.mk 6 0 none)) (List.length a4) (capBig + 6)), (10, Value.pointer (some (Addr.mk 7 0 none))), (11, Value.bool false), (12, Value.int IntKind.i64 a6)] = mfQ n m 7 a6
 false false (Value.slice (some (Addr.mk 6 0 none)) a7 (capBig + 6)), [(7, Rw.mk Kd.shut [Value.slice none 0 0, Value.slice none 0 0, Value.bool false]), (6, Rw.mk (Kd.df 3 [Value.slice none 0 0, Value.slice none 0 0, Value.bool
 false] (cpD a4)) []), (0, Rw.mk (Kd.sw ds) []), (4, Rw.mk Kd.ow ks)] = mfH true 20 none ds ks (cpD W), 8 = 8, MqOk ds ks m n, lastJ (llOf ds) (intsOf ks) n none = some x, false = false, 1 = 0 → [DV.sl a7 none (cnL (cpD W))] = [],
 List.length W = 0 → cpD W = [], (∀ (τ : Sg), renL τ ks = some ks) ∧ (Prod.fst (Prod.snd (Prod.fst ((n, m, Int.toNat a6, false), ds, ks))) = 0 → ks = []), FoOk [DV.sl a7 none (cnL (cpD W))] ks m 1, fnd (llOf [DV.sl a7 none (cnL
 (cpD W))]) (intsOf ks) = some x, SoOk (cnL (List.take (List.length W * 3) (cpD W))) a7 true, q0, q1, q0, q1, strEq (strOfI a2) (strOfI a2) = true, q2, q3, q2, q3, strEq (strOfI a5) (strOfI a5) = true, (Prod.snd (Prod.snd x) ==
 Prod.snd (Prod.snd x)) = true]) (List.length a8 ≤ List.length (byV a8)) (List.take (List.length a8) (byV a8) = List.map (Value.int IntKind.u8) a2) (List.length a1 ≤ List.length (byV a1)) (List.take (List.length a1) (byV a1) =
 List.map (Value.int IntKind.u8) a5)))) := by
 kernel_rfl
theorem mz_rKt (n m : Nat) (ds : List DV) (ks : List Value) (W : List Pr) (x : Pr) : prjV (runZ (mfV (mqLo_r Try.prog (some x) W.length (cpD W)) (mfTs W x)) Try.prog 12 6 (mfAr n m true) (mBs ds ks) 6 [false, false, true, true,
 true, false, false, true, true, true, true, true])
 =
  (let a9 := (Prod.snd x); let a8 := (Prod.fst x); let a7 := (List.length W); let a6 := ((↑n : Int) - (1 : Int)); let a4 := (bif true then W else bif true then [] else []); let a3 := (cnL (List.take n (List.drop 0 ds))); let a2 :=
 (intsOf (List.take (List.length a8) (byV a8))); let a1 := (Prod.fst a9); let a5 := (intsOf (List.take (List.length a1) (byV a1))); Res.ok (Value.bool true, [], ((fun (q0 q1 q2 q3 : Prop) => [LsOk a3 n ∧ (decide ((↑n : Int) > (32 :
 Int)) || List.any (llOf a3) (lgL (40 : Int))) = false, (32 : Int) ≤ (9000000 : Int), (40 : Int) ≤ (9000000 : Int), decide ((↑m : Int) > (200 : Int)) = false, MgB a3 n ∧ mgOut true (llOf a3) = bif true then W else bif true then []
 else [], a4 ≠ [], rg IntKind.i64 a6, bodyIn Try.prog (6 : FuncId) 9 = bodyIn Try.prog (6 : FuncId) 9, [(0, Value.slice (some (Addr.mk 0 0 none)) n 18446744073709551616), (1, Value.bool true), (2, Value.slice (some (Addr.mk 4 0
 none)) m (capBig + 4)), (7, Value.bool true), (8, Value.slice (some (Addr.mk 6 0 none)) (List.length a4) (capBig + 6)), (10, Value.pointer (some (Addr.mk 7 0 none))), (11, Value.bool false), (12, Value.int IntKind.i64 a6)] = mfQ n
 m 7 a6 true false (Value.slice (some (Addr.mk 6 0 none)) a7 (capBig + 6)), [(7, Rw.mk Kd.shut [Value.slice none 0 0, Value.slice none 0 0, Value.bool false]), (6, Rw.mk (Kd.df 3 [Value.slice none 0 0, Value.slice none 0 0,
 Value.bool false] (cpD a4)) []), (0, Rw.mk (Kd.sw ds) []), (4, Rw.mk Kd.ow ks)] = mfH true 20 none ds ks (cpD W), 8 = 8, MqOk ds ks m n, lastJ (llOf ds) (intsOf ks) n none = some x, (bif true then Prod.snd a9 else false) = false,
 1 = 0 → [DV.sl a7 none (cnL (cpD W))] = [], List.length W = 0 → cpD W = [], (∀ (τ : Sg), renL τ ks = some ks) ∧ (Prod.fst (Prod.snd (Prod.fst ((n, m, Int.toNat a6, true), ds, ks))) = 0 → ks = []), FoOk [DV.sl a7 none (cnL (cpD
 W))] ks m 1, fnd (llOf [DV.sl a7 none (cnL (cpD W))]) (intsOf ks) = some x, SoOk (cnL (List.take (List.length W * 3) (cpD W))) a7 true, q0, q1, q0, q1, strEq (strOfI a2) (strOfI a2) = true, q2, q3, q2, q3, strEq (strOfI a5)
 (strOfI a5) = true, (Prod.snd a9 == Prod.snd a9) = true]) (List.length a8 ≤ List.length (byV a8)) (List.take (List.length a8) (byV a8) = List.map (Value.int IntKind.u8) a2) (List.length a1 ≤ List.length (byV a1)) (List.take
 (List.length a1) (byV a1) = List.map (Value.int IntKind.u8) a5)))) := by
 kernel_rfl
end Go.Proofs.Ytmoflcoijmmpjaa
/-
  Chapter 14: the statement MergeFinds, at any arguments.
-/
namespace Go.Proofs.Ytmoflcoijmmpjaa
set_option linter.unusedSimpArgs false
set_option linter.unusedVariables false
set_option linter.unusedSectionVars false
open Go Go.RowKit
theorem lastM_no : ∀ {l : List Pr} {K : List Int} {w : Option Pr}, (∀ p ∈ l, p.1 ≠ K) → lastM l K w = w
  | [], K, w, h => rfl
  | p :: l, K, w, h => by
      simp only [lastM]
      rw [decide_eq_false (h p (List.mem_cons_self ..)), cond_false]
      exact lastM_no fun q hq => h q (List.mem_cons_of_mem _ hq)
theorem lastM_is : ∀ {l : List Pr} {K : List Int} {w : Option Pr}, asc l = true → lastM l K w = match fnL l K with | some p => some p | none => w
  | [], K, w, h => rfl
  | p :: l, K, w, h => by
      simp only [lastM]
      by_cases hk : p.1 = K
      · rw [decide_eq_true hk, cond_true]
        have e : fnL (p :: l) K = some p := by simp [fnL, hk]
        rw [e]
        exact lastM_no fun q hq e => by
          have := asc_all h q hq
          rw [hk, e, ltK_irr] at this
          cases this
      · rw [decide_eq_false hk, cond_false, lastM_is (asc_tail h)]
        have e : fnL (p :: l) K = fnL l K := by simp [fnL, hk]
        rw [e]
theorem lastJ_is {L : List (List Pr)} {K : List Int} (h : L.all asc = true) : ∀ (j : Nat) (w : Option Pr), j ≤ L.length → lastJ L K j w = match fnd (L.take j) K with | some p => some p | none => w
  | 0, w, hj => rfl
  | j + 1, w, hj => by
      have e := takeI_snoc (gL_at (show j < L.length by omega))
      rw [lastJ, lastJ_is h j _ (by omega), lastM_is (asc_gL h j), e, fnd_app]
      cases fnd (L.take j) K with
      | some p => rfl
      | none =>
        simp only [fnd]
        cases fnL (gL L j) K <;> rfl
theorem lastJ_all {L : List (List Pr)} {K : List Int} {n : Nat} (h : L.all asc = true) (hn : L.length = n) : lastJ L K n none = fnd L K := by
  rw [lastJ_is h n none (by omega), List.take_of_length_le (by omega)]
  cases fnd L K <;> rfl
theorem calls_dv {P : Program} {f : FuncId} (aL : List Dv) {cs : List Nat} {v : Value} (T : ∃ h' nx' d, Tri P f (dvV aL cs 0) (dvH aL cs 0) (2 * aL.length) (v, h', nx', d)) (hv : ∀ σ, renV σ v = some v) {W : World} {us : List Value} (hA : DvAts W aL us cs) :
    Calls P f us.toArray W fun e w' => e = .returned v ∧ Ext W w' := by
  obtain ⟨σ, hR, ha, hf, hB⟩ := dvs_rl hA
  obtain ⟨h', nx', d, T⟩ := T
  refine (T.2 hB W σ W us hR (fun n hn _ => hf n hn) ha).mono ?_
  rintro e w' ⟨σ', u, S, hu, rfl⟩
  rw [hv σ'] at hu
  cases hu
  exact ⟨rfl, S.rl.ext⟩
theorem cnL_ll : ∀ L : List (List Pr), cnL (llD L) = llD L
  | [] => by simp [llD, cnL]
  | l :: L => by
      have ih := cnL_ll L
      simp only [llD, List.map_cons, cnL, cnD, cnL_cp] at ih ⊢
      rw [ih]
theorem mz_run {L : LFun} (hL : LOne Try.prog L) {W : List Pr} {p : Pr} {args : List Value} {hp : Hp} {nx : Nat} {tp tp' : Tape} {v : Value} {ob : List Prop} (e : prjV (runZ (mfV L (mfTs W p)) Try.prog 12 6 args hp nx tp) = .ok (v, tp', ob)) (ho : Alls ob) : ∃ h' nx' d, Tri Try.prog 6 args hp nx (v, h', nx', d) :=
  run_val mfX (T_okV rfl (mfTs_one W p)) (L_okV rfl hL) e ho rfl
theorem OutOk.fd {o : List Pr} {B : Nat} (h : OutOk o B) (hB : B ≤ 9000000) : FdL o := ⟨h.O, h.z, by have := h.l; omega⟩
theorem OutOk.so {o : List Pr} {B : Nat} (h : OutOk o B) (hB : B ≤ 9000000) : SoOk (cpD o) o.length true := ⟨by rw [prsOf_cp]; exact cpD_prs o, by rw [prsOf_cp]; exact h.O, by rw [prsOf_cp], by have := h.l; omega, by rw [prsOf_cp]; exact h.a⟩
theorem finds_any {W0 : World} {v0 v2 : Value} {dr : Bool} {rows : List (List DV)} {c c2 : Nat} {K : List Int} (hA : DA.at W0 v0 (.dl rows.flatten rows.length c)) (hr : ∀ r, r ∈ rows → ShsOk [.sl [.sl [.i .u8], .sl [.i .u8], .b]] r) (hB : DA.at W0 v2 (.sl (byV K) K.length c2)) (bK : ∀ x ∈ K, 0 ≤ x ∧ x < 256) :
    Calls Try.prog 6 #[v0, .bool dr, v2] W0 fun e w' => e = .returned (.bool true) ∧ Ext W0 w' := by
  obtain ⟨L, hL, hn, hO⟩ := lls_of hr
  have a0 : DR W0 W0 [] (.sl rows.length none (llD L)) v0 := by
    have := DR.canon _ _ hA.2
    simp only [cnD] at this
    rwa [hL] at this
  have a2 : DR W0 W0 [] (.sl K.length none ((byV K).map DV.fl)) v2 := by
    have := DR.canon _ _ hB.2
    simp only [cnD, byV_fl, cnL_by] at this
    rw [byV_fl]
    exact this
  generalize rows.length = n at *
  refine calls_dv [.dl (llD L) n, .fl (.bool dr), .sl (byV K) K.length] (cs := [0, 0, 0]) ?_ (fun σ => rfl) (us := [v0, .bool dr, v2]) ⟨⟨a0, trivial⟩, ⟨⟨rfl, fun σ => rfl⟩, trivial⟩, ⟨⟨byV_ren K, a2⟩, trivial⟩, trivial⟩
  show ∃ h' nx' d, Tri Try.prog 6 (mfAr n K.length dr) (mBs (llD L) (byV K)) 6 (.bool true, h', nx', d)
  have etk : cnL (List.take n (llD L)) = llD L := by rw [List.take_of_length_le (by rw [llD_len]; omega), cnL_ll]
  have hLs : LsOk (llD L) n := ⟨by rw [llOf_ll], by rw [llOf_ll]; exact hn⟩
  by_cases hbig : (decide ((n : Int) > 32) || L.any (lgL 40)) = true
  · refine mz_run noL_ok (mz_big n K.length dr (llD L) (byV K)) ?_
    simp only [Alls, List.drop_zero, etk]
    exact ⟨⟨hLs, by rw [llOf_ll]; exact hbig⟩, by omega, by omega, trivial⟩
  have hb0 : (decide ((n : Int) > 32) || L.any (lgL 40)) = false := by simpa using hbig
  have hb1 : n ≤ 32 ∧ L.any (lgL 40) = false := by
    simp only [Bool.or_eq_false_iff, decide_eq_false_iff_not] at hb0
    exact ⟨by omega, hb0.2⟩
  have hLs2 : LsOk (llD L) n ∧ (decide ((n : Int) > 32) || (llOf (llD L)).any (lgL 40)) = false := ⟨hLs, by rw [llOf_ll]; exact hb0⟩
  by_cases hkey0 : (K.length : Int) > 200
  · refine mz_run noL_ok (mz_key n K.length dr (llD L) (byV K)) ?_
    simp only [Alls, List.drop_zero, etk]
    exact ⟨hLs2, by omega, by omega, decide_eq_true hkey0, trivial⟩
  have hkey : decide ((K.length : Int) > 200) = false := decide_eq_false hkey0
  have hsm : ∀ l ∈ L, l.length ≤ 40 ∧ ∀ p ∈ l, PrSz p := fun l hl => by
    have h1 := List.any_eq_false.1 hb1.2 l hl
    simp only [lgL, Bool.not_eq_true, Bool.or_eq_false_iff, decide_eq_false_iff_not] at h1
    refine ⟨by omega, fun p hp => ?_⟩
    have h2 := List.any_eq_false.1 h1.2 p hp
    simp [big] at h2
    exact ⟨by omega, by omega⟩
  have hsum : sumL L ≤ 4096 := by
    have h1 := sumL_leB (B := 40) fun l hl => (hsm l hl).1
    have h2 := Nat.mul_le_mul_right 40 hb1.1
    rw [hn] at h1
    omega
  cases hasc : L.all asc with
  | false =>
    refine mz_run noL_ok (mz_uns n K.length dr (llD L) (byV K)) ?_
    simp only [Alls, List.drop_zero, etk]
    refine ⟨hLs2, by omega, by omega, hkey, ⟨⟨by rw [llOf_ll]; exact hn, by omega, by rw [llOf_ll]; exact fun l hl => by have := (hsm l hl).1; omega, by rw [llOf_ll]; exact hO⟩, by rw [llOf_ll]⟩, by omega, by rw [llOf_ll]; exact hsum, by rw [llOf_ll]; exact hasc, trivial⟩
  | true =>
    have S : SmL L 32 40 := ⟨by omega, fun l hl => (hsm l hl).1, hO, fun l hl => (hsm l hl).2, hasc⟩
    obtain ⟨W, hW⟩ : ∃ W, mgOut dr L = W := ⟨_, rfl⟩
    have oW : OutOk W 1280 := by rw [← hW]; exact S.out dr
    have b1 : MgB (llD L) n ∧ mgOut dr (llOf (llD L)) = W := ⟨S.mg hn (by omega) (by omega) (by omega), by rw [llOf_ll]; exact hW⟩
    have hkr : ∀ τ, renL τ (byV K) = some (byV K) := byV_ren K
    have hk0 : K.length = 0 → byV K = [] := fun e => by rw [List.eq_nil_of_length_eq_zero e]; rfl
    have hK : FdK (byV K) K.length (intsOf (byV K)) := by rw [byV_ints]; exact ⟨rfl, rfl, bK⟩
    have hfd : ∀ l ∈ L, FdL l := fun l hl => ⟨hO l hl, (hsm l hl).2, by have := (hsm l hl).1; omega⟩
    have hs0 : MqOk (llD L) (byV K) K.length n := ⟨hK, by rw [llOf_ll], by rw [llOf_ll]; exact ⟨hn, by omega, hfd⟩⟩
    have hf : ∀ o, fnd L K = o → lastJ (llOf (llD L)) K n none = o := fun o h => by rw [llOf_ll, lastJ_all hasc hn]; exact h
    have hfo : FoOk (llD [W]) (byV K) K.length 1 := ⟨hK, by rw [llOf_ll], by rw [llOf_ll]; exact ⟨rfl, by omega, fun l hl => by
      simp only [List.mem_singleton] at hl
      rw [hl]; exact oW.fd (by omega)⟩⟩
    have hso := oW.so (by omega)
    have hWf : fnL W K = flt dr (fnd L K) := by rw [← hW]; exact mgOut_fn hasc K
    have hfw : fnd (llOf (llD [W])) K = flt dr (fnd L K) := by
      rw [llOf_ll, ← hWf]
      simp only [fnd]
      cases fnL W K <;> rfl
    have zW : W.length = 0 → cpD W = [] := fun e => by rw [List.eq_nil_of_length_eq_zero e]; rfl
    cases hx : fnd L K with
    | none =>
      have hr1 : flt dr (fnd L K) = none := by rw [hx]; rfl
      by_cases hW0 : W = []
      · subst hW0
        cases dr with
        | false =>
          refine mz_run (mqLo_n_one none 0 []) (mz_nNf n K.length (llD L) (byV K)) ?_
          simp only [Alls, cond_true, cond_false, rg, List.drop_zero, etk, cnL_cp, cp_all, tk_by, byV_ints, byV_len]
          repeat' (with_reducible apply And.intro)
          all_goals first | omega | (with_reducible assumption) | (with_reducible exact trivial) | (with_reducible rfl) | exact hLs2.2 | exact b1.1 | exact b1.2 | exact hf _ hx | exact hfw.trans hr1 | exact hfo | exact hso | exact fun e => absurd e (by decide) | exact byV_eq _ | exact hse1 | exact hse2 | exact beq_self_eq_true _ | rfl | skip
        | true =>
          refine mz_run (mqLo_n_one none 0 []) (mz_nNt n K.length (llD L) (byV K)) ?_
          simp only [Alls, cond_true, cond_false, rg, List.drop_zero, etk, cnL_cp, cp_all, tk_by, byV_ints, byV_len]
          repeat' (with_reducible apply And.intro)
          all_goals first | omega | (with_reducible assumption) | (with_reducible exact trivial) | (with_reducible rfl) | exact hLs2.2 | exact b1.1 | exact b1.2 | exact hf _ hx | exact hfw.trans hr1 | exact hfo | exact hso | exact fun e => absurd e (by decide) | exact byV_eq _ | exact hse1 | exact hse2 | exact beq_self_eq_true _ | rfl | skip
      · cases dr with
        | false =>
          refine mz_run (mqLo_r_one none W.length (cpD W)) (mz_rNf n K.length (llD L) (byV K) W) ?_
          simp only [Alls, cond_true, cond_false, rg, List.drop_zero, etk, cnL_cp, cp_all, tk_by, byV_ints, byV_len]
          repeat' (with_reducible apply And.intro)
          all_goals first | omega | (with_reducible assumption) | (with_reducible exact trivial) | (with_reducible rfl) | exact hLs2.2 | exact b1.1 | exact b1.2 | exact hf _ hx | exact hfw.trans hr1 | exact hfo | exact hso | exact fun e => absurd e (by decide) | exact byV_eq _ | exact hse1 | exact hse2 | exact beq_self_eq_true _ | rfl | skip
        | true =>
          refine mz_run (mqLo_r_one none W.length (cpD W)) (mz_rNt n K.length (llD L) (byV K) W) ?_
          simp only [Alls, cond_true, cond_false, rg, List.drop_zero, etk, cnL_cp, cp_all, tk_by, byV_ints, byV_len]
          repeat' (with_reducible apply And.intro)
          all_goals first | omega | (with_reducible assumption) | (with_reducible exact trivial) | (with_reducible rfl) | exact hLs2.2 | exact b1.1 | exact b1.2 | exact hf _ hx | exact hfw.trans hr1 | exact hfo | exact hso | exact fun e => absurd e (by decide) | exact byV_eq _ | exact hse1 | exact hse2 | exact beq_self_eq_true _ | rfl | skip
    | some x =>
      obtain ⟨l, g1, g2, _⟩ := fnd_mem hx
      have hxo := hO l g1 x g2
      have hse1 : strEq (strOfI x.1) (strOfI x.1) = true := by rw [strEq_I hxo.1 hxo.1]; simp
      have hse2 : strEq (strOfI x.2.1) (strOfI x.2.1) = true := by rw [strEq_I hxo.2 hxo.2]; simp
      cases hgo : dr && x.2.2 with
      | true =>
        have hr1 : flt dr (fnd L K) = none := by rw [hx]; simp only [flt, hgo, cond_true]
        simp only [Bool.and_eq_true] at hgo
        obtain ⟨rfl, hg⟩ := hgo
        by_cases hW0 : W = []
        · subst hW0
          refine mz_run (mqLo_n_one (some x) 0 []) (mz_nDt n K.length (llD L) (byV K) x) ?_
          simp only [Alls, cond_true, cond_false, rg, List.drop_zero, etk, cnL_cp, cp_all, tk_by, byV_ints, byV_len]
          repeat' (with_reducible apply And.intro)
          all_goals first | omega | (with_reducible assumption) | (with_reducible exact trivial) | (with_reducible rfl) | exact hLs2.2 | exact b1.1 | exact b1.2 | exact hf _ hx | exact hfw.trans hr1 | exact hfo | exact hso | exact fun e => absurd e (by decide) | exact byV_eq _ | exact hse1 | exact hse2 | exact beq_self_eq_true _ | rfl | skip
        · refine mz_run (mqLo_r_one (some x) W.length (cpD W)) (mz_rDt n K.length (llD L) (byV K) W x) ?_
          simp only [Alls, cond_true, cond_false, rg, List.drop_zero, etk, cnL_cp, cp_all, tk_by, byV_ints, byV_len]
          repeat' (with_reducible apply And.intro)
          all_goals first | omega | (with_reducible assumption) | (with_reducible exact trivial) | (with_reducible rfl) | exact hLs2.2 | exact b1.1 | exact b1.2 | exact hf _ hx | exact hfw.trans hr1 | exact hfo | exact hso | exact fun e => absurd e (by decide) | exact byV_eq _ | exact hse1 | exact hse2 | exact beq_self_eq_true _ | rfl | skip
      | false =>
        have hr1 : flt dr (fnd L K) = some x := by rw [hx]; simp only [flt, hgo, cond_false]
        have hW0 : W ≠ [] := fun e => by
          rw [e, hr1] at hWf
          cases hWf
        cases dr with
        | false =>
          refine mz_run (mqLo_r_one (some x) W.length (cpD W)) (mz_rKf n K.length (llD L) (byV K) W x) ?_
          simp only [Alls, cond_true, cond_false, rg, List.drop_zero, etk, cnL_cp, cp_all, tk_by, byV_ints, byV_len]
          repeat' (with_reducible apply And.intro)
          all_goals first | omega | (with_reducible assumption) | (with_reducible exact trivial) | (with_reducible rfl) | exact hLs2.2 | exact b1.1 | exact b1.2 | exact hf _ hx | exact hfw.trans hr1 | exact hfo | exact hso | exact fun e => absurd e (by decide) | exact byV_eq _ | exact hse1 | exact hse2 | exact beq_self_eq_true _ | rfl | skip
        | true =>
          have hg : x.2.2 = false := by simpa using hgo
          refine mz_run (mqLo_r_one (some x) W.length (cpD W)) (mz_rKt n K.length (llD L) (byV K) W x) ?_
          simp only [Alls, cond_true, cond_false, rg, List.drop_zero, etk, cnL_cp, cp_all, tk_by, byV_ints, byV_len]
          repeat' (with_reducible apply And.intro)
          all_goals first | omega | (with_reducible assumption) | (with_reducible exact trivial) | (with_reducible rfl) | exact hLs2.2 | exact b1.1 | exact b1.2 | exact hf _ hx | exact hfw.trans hr1 | exact hfo | exact hso | exact fun e => absurd e (by decide) | exact byV_eq _ | exact hse1 | exact hse2 | exact beq_self_eq_true _ | rfl | skip
end Go.Proofs.Ytmoflcoijmmpjaa
