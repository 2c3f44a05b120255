/-
  Chapter 01: a text's number: both functions, by contracts.
-/
import Derived.Test.YtpiapipmhlpmjaaU128TH
namespace Go.Proofs.Ytpiapipmhlpmjaa
set_option linter.unusedSimpArgs false
set_option linter.unusedVariables false
set_option linter.unusedSectionVars false
open Go Go.RowKit

def prsC : Option (Int × Int × Bool) → Int
  | none => 4
  | some (_, _, true) => 15
  | some (_, _, false) => 0
def prsH : Option (Int × Int × Bool) → Int
  | some (H, _, false) => H
  | _ => 0
def prsL : Option (Int × Int × Bool) → Int
  | some (_, L, false) => L
  | _ => 0
theorem prs_same (s : ByteArray) : ∀ (k i : Nat) (h l h' l' : Int) (o : Bool), wf64 h → wf64 l → wf64 h' → wf64 l' → (o = false → h' = h ∧ l' = l) →
    (prsI s k i h l o = none ∧ prsR s k i h' l' o = none) ∨ ∃ H L H' L' O, prsI s k i h l o = some (H, L, O) ∧ prsR s k i h' l' o = some (H', L', O) ∧ (O = false → H' = H ∧ L' = L)
  | 0, i, h, l, h', l', o, w1, w2, w3, w4, he => .inr ⟨h, l, h', l', o, rfl, rfl, he⟩
  | k + 1, i, h, l, h', l', o, w1, w2, w3, w4, he => by
      by_cases hd : (chAt s i : Int) < 48 ∨ 57 < (chAt s i : Int)
      · exact .inl ⟨by rw [prsI, if_pos hd], by rw [prsR, if_pos hd]⟩
      · have hc : 0 ≤ (chAt s i : Int) - 48 ∧ (chAt s i : Int) - 48 < 10 := by omega
        rw [prsI, if_neg hd, prsR, if_neg hd]
        obtain ⟨v1, v2⟩ := wf_t h l ((chAt s i : Int) - 48)
        have R := rkIs w3 w4 hc
        obtain ⟨v3, v4⟩ := R.w
        obtain ⟨e1, e2⟩ := R.law w3 w4 hc
        cases o with
        | true =>
          rw [Bool.true_or, Bool.true_or]
          exact prs_same s k (i + 1) _ _ _ _ true v1 v2 v3 v4 (fun e => by cases e)
        | false =>
          obtain ⟨rfl, rfl⟩ := he rfl
          rw [Bool.false_or, Bool.false_or, e1]
          refine prs_same s k (i + 1) _ _ _ _ _ v1 v2 v3 v4 fun ho => ?_
          rw [e1] at e2
          exact e2 ho
def leN (s : ByteArray) : Nat := s.data.toList.length
def prs0 (s : ByteArray) : Option (Int × Int × Bool) := prsI s (leN s) 0 0 0 false
def prr0 (s : ByteArray) : Option (Int × Int × Bool) := prsR s (leN s) 0 0 0 false
theorem w00 : wf64 0 := ⟨by decide, by decide⟩
theorem prs0_same (s : ByteArray) : prsC (prr0 s) = prsC (prs0 s) ∧ prsH (prr0 s) = prsH (prs0 s) ∧ prsL (prr0 s) = prsL (prs0 s) := by
  unfold prr0 prs0
  rcases prs_same s (leN s) 0 0 0 0 0 false w00 w00 w00 w00 (fun _ => ⟨rfl, rfl⟩) with ⟨e1, e2⟩ | ⟨H, L, H', L', O, e1, e2, he⟩
  · rw [e1, e2]; exact ⟨rfl, rfl, rfl⟩
  · rw [e1, e2]
    cases O with
    | true => exact ⟨rfl, rfl, rfl⟩
    | false => obtain ⟨rfl, rfl⟩ := he rfl; exact ⟨rfl, rfl, rfl⟩
def getT (r : Option (Int × Int × Bool)) : Int × Int := match r with | some (H, L, _) => (H, L) | none => (0, 0)
def piSpec (s : ByteArray) : LSpec := lspec (fun live h => some ()) (fun _ => (piS (leN s) 0 false, piH (bsOf s) 0 0, 4)) (fun _ tp => match tp with
  | true :: tp => some ((.ret, [(2, .pointer (some ⟨1, 0, none⟩)), (3, .int .i64 4)], [(1, hlR 0 0)], 4, [1, 2, 3]), tp, [prs0 s = none, leN s ≤ 39])
  | false :: true :: tp => some ((.exit 0, [(2, .pointer (some ⟨1, 0, none⟩)), (4, .pointer (some ⟨2, 0, none⟩)), (5, .bool true)], [(2, hlR (getT (prs0 s)).1 (getT (prs0 s)).2), (1, hlR 0 0)], 4, [1, 2, 3]), tp, [prs0 s = some ((getT (prs0 s)).1, (getT (prs0 s)).2, true), leN s ≤ 39])
  | false :: false :: tp => some ((.exit 0, [(2, .pointer (some ⟨1, 0, none⟩)), (4, .pointer (some ⟨2, 0, none⟩)), (5, .bool false)], [(2, hlR (getT (prs0 s)).1 (getT (prs0 s)).2), (1, hlR 0 0)], 4, [1, 2, 3]), tp, [prs0 s = some ((getT (prs0 s)).1, (getT (prs0 s)).2, false), leN s ≤ 39])
  | _ => none)
def prSpec (s : ByteArray) : LSpec := lspec (fun live h => some ()) (fun _ => (prS s 0 false, prH 0 0, 3)) (fun _ tp => match tp with
  | true :: tp => some ((.ret, [(2, .pointer (some ⟨1, 0, none⟩)), (3, .int .i64 4)], [(1, hlR 0 0)], 20, [1, 2]), tp, [prr0 s = none, leN s ≤ 39])
  | false :: true :: tp => some ((.exit 0, [(2, .pointer (some ⟨1, 0, none⟩)), (4, .pointer (some ⟨2, 0, none⟩)), (5, .bool true)], [(2, hlR (getT (prr0 s)).1 (getT (prr0 s)).2), (1, hlR 0 0)], 20, [1, 2]), tp, [prr0 s = some ((getT (prr0 s)).1, (getT (prr0 s)).2, true), leN s ≤ 39])
  | false :: false :: tp => some ((.exit 0, [(2, .pointer (some ⟨1, 0, none⟩)), (4, .pointer (some ⟨2, 0, none⟩)), (5, .bool false)], [(2, hlR (getT (prr0 s)).1 (getT (prr0 s)).2), (1, hlR 0 0)], 20, [1, 2]), tp, [prr0 s = some ((getT (prr0 s)).1, (getT (prr0 s)).2, false), leN s ≤ 39])
  | _ => none)
theorem tidy4 {h' : Hp} {nx : Nat} (s : ByteArray) (hx : 4 ≤ nx) (h0 : lk h' 0 = none) (hb : bdB h' nx = true) : Tidy (piH (bsOf s) 0 0) 4 h' nx [1, 2, 3] := by
  refine tidy_of hx (fun m hm hd => ?_) hb
  simp only [List.mem_cons, List.not_mem_nil, or_false, not_or] at hd
  obtain rfl : m = 0 := (by omega)
  rw [h0]; rfl
theorem tidy3 {h' : Hp} {nx : Nat} (hx : 3 ≤ nx) (h0 : lk h' 0 = none) (hb : bdB h' nx = true) : Tidy (prH 0 0) 3 h' nx [1, 2] := by
  refine tidy_of hx (fun m hm hd => ?_) hb
  simp only [List.mem_cons, List.not_mem_nil, or_false, not_or] at hd
  obtain rfl : m = 0 := (by omega)
  rw [h0]; rfl
theorem pi_spec_ok (s : ByteArray) : LSOk Try.prog 56 [2, 4, 5, 27, 28, 29] (piB Try.prog) (piSpec s) := by
  refine lspec_ok fun x tp xt l2 h2 nx2 dd tp' ob hs ho inr ts hn hg => ?_
  split at hs
  case h_4 => cases hs
  all_goals
    (simp only [Option.some.injEq, Prod.mk.injEq] at hs
     obtain ⟨⟨rfl, rfl, rfl, rfl, rfl⟩, rfl, rfl⟩ := hs
     obtain ⟨e, h39, _⟩ := ho)
  · have key := pi_bad (n := leN s) (inr := inr) (h0 := piH (bsOf s) 0 0) rfl h39 (leN s) 0 0 0 false (by omega) w00 w00 e
    refine LRuns.enter (l2 := piS (leN s) 0 false) (h2 := piH (bsOf s) 0 0) hn hg (Nat.le_refl 4) (by decide) (fun n => n) ⟨rfl, rb_ptr rfl, rfl, rb_ptr rfl, rfl, rfl, rfl, rb_slg rfl rfl, rfl, rfl, rfl, rfl, trivial⟩ ⟨rb_row (m := 3) rfl rfl rfl rfl (bsOf_fl s), rb_row (m := 2) rfl rfl rfl rfl (Fl.of rfl), rb_row (m := 1) rfl rfl rfl rfl (Fl.of rfl), trivial⟩ rfl key ?_
    exact tidy4 s (by decide) rfl rfl
  · have key := pi_good (n := leN s) (inr := inr) (h0 := piH (bsOf s) 0 0) rfl h39 (leN s) 0 0 0 false (by omega) w00 w00 e
    refine LRuns.enter (l2 := piS (leN s) 0 false) (h2 := piH (bsOf s) 0 0) hn hg (Nat.le_refl 4) (by decide) (fun n => n) ⟨rfl, rb_ptr rfl, rfl, rb_ptr rfl, rfl, rfl, rfl, rb_slg rfl rfl, rfl, rfl, rfl, rfl, trivial⟩ ⟨rb_row (m := 3) rfl rfl rfl rfl (bsOf_fl s), rb_row (m := 2) rfl rfl rfl rfl (Fl.of rfl), rb_row (m := 1) rfl rfl rfl rfl (Fl.of rfl), trivial⟩ rfl key ?_
    exact tidy4 s (by decide) rfl rfl
  · have key := pi_good (n := leN s) (inr := inr) (h0 := piH (bsOf s) 0 0) rfl h39 (leN s) 0 0 0 false (by omega) w00 w00 e
    refine LRuns.enter (l2 := piS (leN s) 0 false) (h2 := piH (bsOf s) 0 0) hn hg (Nat.le_refl 4) (by decide) (fun n => n) ⟨rfl, rb_ptr rfl, rfl, rb_ptr rfl, rfl, rfl, rfl, rb_slg rfl rfl, rfl, rfl, rfl, rfl, trivial⟩ ⟨rb_row (m := 3) rfl rfl rfl rfl (bsOf_fl s), rb_row (m := 2) rfl rfl rfl rfl (Fl.of rfl), rb_row (m := 1) rfl rfl rfl rfl (Fl.of rfl), trivial⟩ rfl key ?_
    exact tidy4 s (by decide) rfl rfl
theorem pr_spec_ok (s : ByteArray) : LSOk Try.prog 82 [0, 2, 4, 5, 6] (prB Try.prog) (prSpec s) := by
  refine lspec_ok fun x tp xt l2 h2 nx2 dd tp' ob hs ho inr ts hn hg => ?_
  split at hs
  case h_4 => cases hs
  all_goals
    (simp only [Option.some.injEq, Prod.mk.injEq] at hs
     obtain ⟨⟨rfl, rfl, rfl, rfl, rfl⟩, rfl, rfl⟩ := hs
     obtain ⟨e, h39, _⟩ := ho)
  · have key := pr_bad (n := leN s) (inr := inr) (h0 := prH 0 0) rfl h39 (leN s) 0 0 0 false (by omega) w00 w00 e
    refine LRuns.enter (l2 := prS s 0 false) (h2 := prH 0 0) hn hg (Nat.le_refl 3) (by decide) (fun n => n) ⟨rfl, rfl, rfl, rb_ptr rfl, rfl, rb_ptr rfl, rfl, rfl, rfl, rfl, trivial⟩ ⟨rb_row (m := 2) rfl rfl rfl rfl (Fl.of rfl), rb_row (m := 1) rfl rfl rfl rfl (Fl.of rfl), trivial⟩ rfl key ?_
    exact tidy3 (by decide) rfl rfl
  · have key := pr_good (n := leN s) (inr := inr) (h0 := prH 0 0) rfl h39 (leN s) 0 0 0 false (by omega) w00 w00 e
    refine LRuns.enter (l2 := prS s 0 false) (h2 := prH 0 0) hn hg (Nat.le_refl 3) (by decide) (fun n => n) ⟨rfl, rfl, rfl, rb_ptr rfl, rfl, rb_ptr rfl, rfl, rfl, rfl, rfl, trivial⟩ ⟨rb_row (m := 2) rfl rfl rfl rfl (Fl.of rfl), rb_row (m := 1) rfl rfl rfl rfl (Fl.of rfl), trivial⟩ rfl key ?_
    exact tidy3 (by decide) rfl rfl
  · have key := pr_good (n := leN s) (inr := inr) (h0 := prH 0 0) rfl h39 (leN s) 0 0 0 false (by omega) w00 w00 e
    refine LRuns.enter (l2 := prS s 0 false) (h2 := prH 0 0) hn hg (Nat.le_refl 3) (by decide) (fun n => n) ⟨rfl, rfl, rfl, rb_ptr rfl, rfl, rb_ptr rfl, rfl, rfl, rfl, rfl, trivial⟩ ⟨rb_row (m := 2) rfl rfl rfl rfl (Fl.of rfl), rb_row (m := 1) rfl rfl rfl rfl (Fl.of rfl), trivial⟩ rfl key ?_
    exact tidy3 (by decide) rfl rfl
def piL (P : Program) (s : ByteArray) : LFun := mkL 34 8 56 [2, 4, 5, 27, 28, 29] (piB P) (piSpec s)
def prL (P : Program) (s : ByteArray) : LFun := mkL 35 8 82 [0, 2, 4, 5, 6] (prB P) (prSpec s)
theorem pi_long (s : ByteArray) : prjV (runZ (pnV (piL Try.prog s)) Try.prog 9 34 [.string s] [] 1 [true]) =
  Res.ok (Value.tuple (Array.mk [Value.agg (Array.mk [Value.int IntKind.u64 (0 : Int), Value.int IntKind.u64 (0 : Int)]), Value.int IntKind.i64 (3 : Int)]), [], [decide ((↑(List.length (Array.toList (ByteArray.data s))) :
 Int) > (39 : Int)) = true]) := by kernel_rfl
theorem pi_empt (s : ByteArray) : prjV (runZ (pnV (piL Try.prog s)) Try.prog 9 34 [.string s] [] 1 [false, true]) =
  Res.ok (Value.tuple (Array.mk [Value.agg (Array.mk [Value.int IntKind.u64 (0 : Int), Value.int IntKind.u64 (0 : Int)]), Value.int IntKind.i64 (4 : Int)]), [], [decide ((↑(List.length (Array.toList (ByteArray.data s))) :
 Int) > (39 : Int)) = false, strEq s (ByteArray.mk #[]) = true]) := by kernel_rfl
theorem pi_lead (s : ByteArray) : prjV (runZ (pnV (piL Try.prog s)) Try.prog 9 34 [.string s] [] 1 [false, false, true, true]) =
  Res.ok (Value.tuple (Array.mk [Value.agg (Array.mk [Value.int IntKind.u64 (0 : Int), Value.int IntKind.u64 (0 : Int)]), Value.int IntKind.i64 (4 : Int)]), [], [decide ((↑(List.length (Array.toList (ByteArray.data s))) :
 Int) > (39 : Int)) = false, strEq s (ByteArray.mk #[]) = false, decide ((↑(List.length (Array.toList (ByteArray.data s))) : Int) > (1 : Int)) = true, (0 : Int) ≤ (0 : Int) ∧ 0 < List.length (Array.toList (ByteArray.data
 s)), ((↑(chAt s 0) : Int) == (48 : Int)) = true]) := by kernel_rfl
theorem pi_1bad (s : ByteArray) : prjV (runZ (pnV (piL Try.prog s)) Try.prog 9 34 [.string s] [] 1 [false, false, false, true]) =
  Res.ok (Value.tuple (Array.mk [Value.agg (Array.mk [Value.int IntKind.u64 (0 : Int), Value.int IntKind.u64 (0 : Int)]), Value.int IntKind.i64 (4 : Int)]), [], [decide ((↑(List.length (Array.toList (ByteArray.data s))) :
 Int) > (39 : Int)) = false, strEq s (ByteArray.mk #[]) = false, decide ((↑(List.length (Array.toList (ByteArray.data s))) : Int) > (1 : Int)) = false, piB Try.prog = piB Try.prog, [(2, Value.pointer (some (Addr.mk 1 0
 none))), (4, Value.pointer (some (Addr.mk 2 0 none))), (5, Value.bool false), (27, Value.slice (some (Addr.mk 3 0 none)) (List.length (Array.toList (ByteArray.data s))) (capBig + 3)), (28, Value.int IntKind.i64
 (↑(List.length (Array.toList (ByteArray.data s))) : Int)), (29, Value.int IntKind.i64 (0 : Int))] = piS (leN s) 0 false, [(3, Rw.mk Kd.lent (List.map (fun b => Value.int IntKind.u8 (↑(UInt8.toNat b) : Int)) (Array.toList
 (ByteArray.data s)))), (2, Rw.mk Kd.shut [Value.int IntKind.u64 (0 : Int), Value.int IntKind.u64 (0 : Int)]), (1, Rw.mk Kd.shut [Value.int IntKind.u64 (0 : Int), Value.int IntKind.u64 (0 : Int)])] = piH (bsOf s) (0 : Int)
 (0 : Int), 4 = 4, prs0 s = none, leN s ≤ 39]) := by kernel_rfl
theorem pi_1ov (s : ByteArray) : prjV (runZ (pnV (piL Try.prog s)) Try.prog 9 34 [.string s] [] 1 [false, false, false, false, true]) =
  Res.ok (Value.tuple (Array.mk [Value.agg (Array.mk [Value.int IntKind.u64 (0 : Int), Value.int IntKind.u64 (0 : Int)]), Value.int IntKind.i64 (15 : Int)]), [], [decide ((↑(List.length (Array.toList (ByteArray.data s))) :
 Int) > (39 : Int)) = false, strEq s (ByteArray.mk #[]) = false, decide ((↑(List.length (Array.toList (ByteArray.data s))) : Int) > (1 : Int)) = false, piB Try.prog = piB Try.prog, [(2, Value.pointer (some (Addr.mk 1 0
 none))), (4, Value.pointer (some (Addr.mk 2 0 none))), (5, Value.bool false), (27, Value.slice (some (Addr.mk 3 0 none)) (List.length (Array.toList (ByteArray.data s))) (capBig + 3)), (28, Value.int IntKind.i64
 (↑(List.length (Array.toList (ByteArray.data s))) : Int)), (29, Value.int IntKind.i64 (0 : Int))] = piS (leN s) 0 false, [(3, Rw.mk Kd.lent (List.map (fun b => Value.int IntKind.u8 (↑(UInt8.toNat b) : Int)) (Array.toList
 (ByteArray.data s)))), (2, Rw.mk Kd.shut [Value.int IntKind.u64 (0 : Int), Value.int IntKind.u64 (0 : Int)]), (1, Rw.mk Kd.shut [Value.int IntKind.u64 (0 : Int), Value.int IntKind.u64 (0 : Int)])] = piH (bsOf s) (0 : Int)
 (0 : Int), 4 = 4, prs0 s = some (Prod.fst (getT (prs0 s)), Prod.snd (getT (prs0 s)), true), leN s ≤ 39]) := by kernel_rfl
theorem pi_1ok (s : ByteArray) : prjV (runZ (pnV (piL Try.prog s)) Try.prog 9 34 [.string s] [] 1 [false, false, false, false, false]) =
  Res.ok (Value.tuple (Array.mk [Value.agg (Array.mk [Value.int IntKind.u64 (Prod.fst (getT (prs0 s))), Value.int IntKind.u64 (Prod.snd (getT (prs0 s)))]), Value.int IntKind.i64 (0 : Int)]), [], [decide ((↑(List.length
 (Array.toList (ByteArray.data s))) : Int) > (39 : Int)) = false, strEq s (ByteArray.mk #[]) = false, decide ((↑(List.length (Array.toList (ByteArray.data s))) : Int) > (1 : Int)) = false, piB Try.prog = piB Try.prog, [(2,
 Value.pointer (some (Addr.mk 1 0 none))), (4, Value.pointer (some (Addr.mk 2 0 none))), (5, Value.bool false), (27, Value.slice (some (Addr.mk 3 0 none)) (List.length (Array.toList (ByteArray.data s))) (capBig + 3)), (28,
 Value.int IntKind.i64 (↑(List.length (Array.toList (ByteArray.data s))) : Int)), (29, Value.int IntKind.i64 (0 : Int))] = piS (leN s) 0 false, [(3, Rw.mk Kd.lent (List.map (fun b => Value.int IntKind.u8 (↑(UInt8.toNat b)
 : Int)) (Array.toList (ByteArray.data s)))), (2, Rw.mk Kd.shut [Value.int IntKind.u64 (0 : Int), Value.int IntKind.u64 (0 : Int)]), (1, Rw.mk Kd.shut [Value.int IntKind.u64 (0 : Int), Value.int IntKind.u64 (0 : Int)])] =
 piH (bsOf s) (0 : Int) (0 : Int), 4 = 4, prs0 s = some (Prod.fst (getT (prs0 s)), Prod.snd (getT (prs0 s)), false), leN s ≤ 39]) := by kernel_rfl
theorem pi_2bad (s : ByteArray) : prjV (runZ (pnV (piL Try.prog s)) Try.prog 9 34 [.string s] [] 1 [false, false, true, false, true]) =
  Res.ok (Value.tuple (Array.mk [Value.agg (Array.mk [Value.int IntKind.u64 (0 : Int), Value.int IntKind.u64 (0 : Int)]), Value.int IntKind.i64 (4 : Int)]), [], [decide ((↑(List.length (Array.toList (ByteArray.data s))) :
 Int) > (39 : Int)) = false, strEq s (ByteArray.mk #[]) = false, decide ((↑(List.length (Array.toList (ByteArray.data s))) : Int) > (1 : Int)) = true, (0 : Int) ≤ (0 : Int) ∧ 0 < List.length (Array.toList (ByteArray.data
 s)), ((↑(chAt s 0) : Int) == (48 : Int)) = false, piB Try.prog = piB Try.prog, [(2, Value.pointer (some (Addr.mk 1 0 none))), (4, Value.pointer (some (Addr.mk 2 0 none))), (5, Value.bool false), (27, Value.slice (some
 (Addr.mk 3 0 none)) (List.length (Array.toList (ByteArray.data s))) (capBig + 3)), (28, Value.int IntKind.i64 (↑(List.length (Array.toList (ByteArray.data s))) : Int)), (29, Value.int IntKind.i64 (0 : Int))] = piS (leN s)
 0 false, [(3, Rw.mk Kd.lent (List.map (fun b => Value.int IntKind.u8 (↑(UInt8.toNat b) : Int)) (Array.toList (ByteArray.data s)))), (2, Rw.mk Kd.shut [Value.int IntKind.u64 (0 : Int), Value.int IntKind.u64 (0 : Int)]),
 (1, Rw.mk Kd.shut [Value.int IntKind.u64 (0 : Int), Value.int IntKind.u64 (0 : Int)])] = piH (bsOf s) (0 : Int) (0 : Int), 4 = 4, prs0 s = none, leN s ≤ 39]) := by kernel_rfl
theorem pi_2ov (s : ByteArray) : prjV (runZ (pnV (piL Try.prog s)) Try.prog 9 34 [.string s] [] 1 [false, false, true, false, false, true]) =
  Res.ok (Value.tuple (Array.mk [Value.agg (Array.mk [Value.int IntKind.u64 (0 : Int), Value.int IntKind.u64 (0 : Int)]), Value.int IntKind.i64 (15 : Int)]), [], [decide ((↑(List.length (Array.toList (ByteArray.data s))) :
 Int) > (39 : Int)) = false, strEq s (ByteArray.mk #[]) = false, decide ((↑(List.length (Array.toList (ByteArray.data s))) : Int) > (1 : Int)) = true, (0 : Int) ≤ (0 : Int) ∧ 0 < List.length (Array.toList (ByteArray.data
 s)), ((↑(chAt s 0) : Int) == (48 : Int)) = false, piB Try.prog = piB Try.prog, [(2, Value.pointer (some (Addr.mk 1 0 none))), (4, Value.pointer (some (Addr.mk 2 0 none))), (5, Value.bool false), (27, Value.slice (some
 (Addr.mk 3 0 none)) (List.length (Array.toList (ByteArray.data s))) (capBig + 3)), (28, Value.int IntKind.i64 (↑(List.length (Array.toList (ByteArray.data s))) : Int)), (29, Value.int IntKind.i64 (0 : Int))] = piS (leN s)
 0 false, [(3, Rw.mk Kd.lent (List.map (fun b => Value.int IntKind.u8 (↑(UInt8.toNat b) : Int)) (Array.toList (ByteArray.data s)))), (2, Rw.mk Kd.shut [Value.int IntKind.u64 (0 : Int), Value.int IntKind.u64 (0 : Int)]),
 (1, Rw.mk Kd.shut [Value.int IntKind.u64 (0 : Int), Value.int IntKind.u64 (0 : Int)])] = piH (bsOf s) (0 : Int) (0 : Int), 4 = 4, prs0 s = some (Prod.fst (getT (prs0 s)), Prod.snd (getT (prs0 s)), true), leN s ≤ 39]) := by kernel_rfl
theorem pi_2ok (s : ByteArray) : prjV (runZ (pnV (piL Try.prog s)) Try.prog 9 34 [.string s] [] 1 [false, false, true, false, false, false]) =
  Res.ok (Value.tuple (Array.mk [Value.agg (Array.mk [Value.int IntKind.u64 (Prod.fst (getT (prs0 s))), Value.int IntKind.u64 (Prod.snd (getT (prs0 s)))]), Value.int IntKind.i64 (0 : Int)]), [], [decide ((↑(List.length
 (Array.toList (ByteArray.data s))) : Int) > (39 : Int)) = false, strEq s (ByteArray.mk #[]) = false, decide ((↑(List.length (Array.toList (ByteArray.data s))) : Int) > (1 : Int)) = true, (0 : Int) ≤ (0 : Int) ∧ 0 <
 List.length (Array.toList (ByteArray.data s)), ((↑(chAt s 0) : Int) == (48 : Int)) = false, piB Try.prog = piB Try.prog, [(2, Value.pointer (some (Addr.mk 1 0 none))), (4, Value.pointer (some (Addr.mk 2 0 none))), (5,
 Value.bool false), (27, Value.slice (some (Addr.mk 3 0 none)) (List.length (Array.toList (ByteArray.data s))) (capBig + 3)), (28, Value.int IntKind.i64 (↑(List.length (Array.toList (ByteArray.data s))) : Int)), (29,
 Value.int IntKind.i64 (0 : Int))] = piS (leN s) 0 false, [(3, Rw.mk Kd.lent (List.map (fun b => Value.int IntKind.u8 (↑(UInt8.toNat b) : Int)) (Array.toList (ByteArray.data s)))), (2, Rw.mk Kd.shut [Value.int IntKind.u64
 (0 : Int), Value.int IntKind.u64 (0 : Int)]), (1, Rw.mk Kd.shut [Value.int IntKind.u64 (0 : Int), Value.int IntKind.u64 (0 : Int)])] = piH (bsOf s) (0 : Int) (0 : Int), 4 = 4, prs0 s = some (Prod.fst (getT (prs0 s)),
 Prod.snd (getT (prs0 s)), false), leN s ≤ 39]) := by kernel_rfl
theorem pr_long (s : ByteArray) : prjV (runZ (prV (fun _ => 0) (fun _ => 0) (fun _ => false) (prL Try.prog s)) Try.prog 9 35 [.string s] [] 1 [true]) =
  Res.ok (Value.tuple (Array.mk [Value.agg (Array.mk [Value.int IntKind.u64 (0 : Int), Value.int IntKind.u64 (0 : Int)]), Value.int IntKind.i64 (3 : Int)]), [], [decide ((↑(List.length (Array.toList (ByteArray.data s))) :
 Int) > (39 : Int)) = true]) := by kernel_rfl
theorem pr_empt (s : ByteArray) : prjV (runZ (prV (fun _ => 0) (fun _ => 0) (fun _ => false) (prL Try.prog s)) Try.prog 9 35 [.string s] [] 1 [false, true]) =
  Res.ok (Value.tuple (Array.mk [Value.agg (Array.mk [Value.int IntKind.u64 (0 : Int), Value.int IntKind.u64 (0 : Int)]), Value.int IntKind.i64 (4 : Int)]), [], [decide ((↑(List.length (Array.toList (ByteArray.data s))) :
 Int) > (39 : Int)) = false, strEq s (ByteArray.mk #[]) = true]) := by kernel_rfl
theorem pr_lead (s : ByteArray) : prjV (runZ (prV (fun _ => 0) (fun _ => 0) (fun _ => false) (prL Try.prog s)) Try.prog 9 35 [.string s] [] 1 [false, false, true, true]) =
  Res.ok (Value.tuple (Array.mk [Value.agg (Array.mk [Value.int IntKind.u64 (0 : Int), Value.int IntKind.u64 (0 : Int)]), Value.int IntKind.i64 (4 : Int)]), [], [decide ((↑(List.length (Array.toList (ByteArray.data s))) :
 Int) > (39 : Int)) = false, strEq s (ByteArray.mk #[]) = false, decide ((↑(List.length (Array.toList (ByteArray.data s))) : Int) > (1 : Int)) = true, (0 : Int) ≤ (0 : Int) ∧ 0 < List.length (Array.toList (ByteArray.data
 s)), ((↑(chAt s 0) : Int) == (48 : Int)) = true]) := by kernel_rfl
theorem pr_1bad (s : ByteArray) : prjV (runZ (prV (fun _ => 0) (fun _ => 0) (fun _ => false) (prL Try.prog s)) Try.prog 9 35 [.string s] [] 1 [false, false, false, true]) =
  Res.ok (Value.tuple (Array.mk [Value.agg (Array.mk [Value.int IntKind.u64 (0 : Int), Value.int IntKind.u64 (0 : Int)]), Value.int IntKind.i64 (4 : Int)]), [], [decide ((↑(List.length (Array.toList (ByteArray.data s))) :
 Int) > (39 : Int)) = false, strEq s (ByteArray.mk #[]) = false, decide ((↑(List.length (Array.toList (ByteArray.data s))) : Int) > (1 : Int)) = false, prB Try.prog = prB Try.prog, [(0, Value.string s), (2, Value.pointer
 (some (Addr.mk 1 0 none))), (4, Value.pointer (some (Addr.mk 2 0 none))), (5, Value.bool false), (6, Value.int IntKind.i64 (0 : Int))] = prS s 0 false, [(2, Rw.mk Kd.shut [Value.int IntKind.u64 (0 : Int), Value.int
 IntKind.u64 (0 : Int)]), (1, Rw.mk Kd.shut [Value.int IntKind.u64 (0 : Int), Value.int IntKind.u64 (0 : Int)])] = prH (0 : Int) (0 : Int), 3 = 3, prr0 s = none, leN s ≤ 39]) := by kernel_rfl
theorem pr_1ov (s : ByteArray) : prjV (runZ (prV (fun _ => 0) (fun _ => 0) (fun _ => false) (prL Try.prog s)) Try.prog 9 35 [.string s] [] 1 [false, false, false, false, true]) =
  Res.ok (Value.tuple (Array.mk [Value.agg (Array.mk [Value.int IntKind.u64 (0 : Int), Value.int IntKind.u64 (0 : Int)]), Value.int IntKind.i64 (15 : Int)]), [], [decide ((↑(List.length (Array.toList (ByteArray.data s))) :
 Int) > (39 : Int)) = false, strEq s (ByteArray.mk #[]) = false, decide ((↑(List.length (Array.toList (ByteArray.data s))) : Int) > (1 : Int)) = false, prB Try.prog = prB Try.prog, [(0, Value.string s), (2, Value.pointer
 (some (Addr.mk 1 0 none))), (4, Value.pointer (some (Addr.mk 2 0 none))), (5, Value.bool false), (6, Value.int IntKind.i64 (0 : Int))] = prS s 0 false, [(2, Rw.mk Kd.shut [Value.int IntKind.u64 (0 : Int), Value.int
 IntKind.u64 (0 : Int)]), (1, Rw.mk Kd.shut [Value.int IntKind.u64 (0 : Int), Value.int IntKind.u64 (0 : Int)])] = prH (0 : Int) (0 : Int), 3 = 3, prr0 s = some (Prod.fst (getT (prr0 s)), Prod.snd (getT (prr0 s)), true),
 leN s ≤ 39]) := by kernel_rfl
theorem pr_1ok (s : ByteArray) : prjV (runZ (prV (fun _ => 0) (fun _ => 0) (fun _ => false) (prL Try.prog s)) Try.prog 9 35 [.string s] [] 1 [false, false, false, false, false]) =
  Res.ok (Value.tuple (Array.mk [Value.agg (Array.mk [Value.int IntKind.u64 (Prod.fst (getT (prr0 s))), Value.int IntKind.u64 (Prod.snd (getT (prr0 s)))]), Value.int IntKind.i64 (0 : Int)]), [], [decide ((↑(List.length
 (Array.toList (ByteArray.data s))) : Int) > (39 : Int)) = false, strEq s (ByteArray.mk #[]) = false, decide ((↑(List.length (Array.toList (ByteArray.data s))) : Int) > (1 : Int)) = false, prB Try.prog = prB Try.prog, [(0,
 Value.string s), (2, Value.pointer (some (Addr.mk 1 0 none))), (4, Value.pointer (some (Addr.mk 2 0 none))), (5, Value.bool false), (6, Value.int IntKind.i64 (0 : Int))] = prS s 0 false, [(2, Rw.mk Kd.shut [Value.int
 IntKind.u64 (0 : Int), Value.int IntKind.u64 (0 : Int)]), (1, Rw.mk Kd.shut [Value.int IntKind.u64 (0 : Int), Value.int IntKind.u64 (0 : Int)])] = prH (0 : Int) (0 : Int), 3 = 3, prr0 s = some (Prod.fst (getT (prr0 s)),
 Prod.snd (getT (prr0 s)), false), leN s ≤ 39]) := by kernel_rfl
theorem pr_2bad (s : ByteArray) : prjV (runZ (prV (fun _ => 0) (fun _ => 0) (fun _ => false) (prL Try.prog s)) Try.prog 9 35 [.string s] [] 1 [false, false, true, false, true]) =
  Res.ok (Value.tuple (Array.mk [Value.agg (Array.mk [Value.int IntKind.u64 (0 : Int), Value.int IntKind.u64 (0 : Int)]), Value.int IntKind.i64 (4 : Int)]), [], [decide ((↑(List.length (Array.toList (ByteArray.data s))) :
 Int) > (39 : Int)) = false, strEq s (ByteArray.mk #[]) = false, decide ((↑(List.length (Array.toList (ByteArray.data s))) : Int) > (1 : Int)) = true, (0 : Int) ≤ (0 : Int) ∧ 0 < List.length (Array.toList (ByteArray.data
 s)), ((↑(chAt s 0) : Int) == (48 : Int)) = false, prB Try.prog = prB Try.prog, [(0, Value.string s), (2, Value.pointer (some (Addr.mk 1 0 none))), (4, Value.pointer (some (Addr.mk 2 0 none))), (5, Value.bool false), (6,
 Value.int IntKind.i64 (0 : Int))] = prS s 0 false, [(2, Rw.mk Kd.shut [Value.int IntKind.u64 (0 : Int), Value.int IntKind.u64 (0 : Int)]), (1, Rw.mk Kd.shut [Value.int IntKind.u64 (0 : Int), Value.int IntKind.u64 (0 :
 Int)])] = prH (0 : Int) (0 : Int), 3 = 3, prr0 s = none, leN s ≤ 39]) := by kernel_rfl
theorem pr_2ov (s : ByteArray) : prjV (runZ (prV (fun _ => 0) (fun _ => 0) (fun _ => false) (prL Try.prog s)) Try.prog 9 35 [.string s] [] 1 [false, false, true, false, false, true]) =
  Res.ok (Value.tuple (Array.mk [Value.agg (Array.mk [Value.int IntKind.u64 (0 : Int), Value.int IntKind.u64 (0 : Int)]), Value.int IntKind.i64 (15 : Int)]), [], [decide ((↑(List.length (Array.toList (ByteArray.data s))) :
 Int) > (39 : Int)) = false, strEq s (ByteArray.mk #[]) = false, decide ((↑(List.length (Array.toList (ByteArray.data s))) : Int) > (1 : Int)) = true, (0 : Int) ≤ (0 : Int) ∧ 0 < List.length (Array.toList (ByteArray.data
 s)), ((↑(chAt s 0) : Int) == (48 : Int)) = false, prB Try.prog = prB Try.prog, [(0, Value.string s), (2, Value.pointer (some (Addr.mk 1 0 none))), (4, Value.pointer (some (Addr.mk 2 0 none))), (5, Value.bool false), (6,
 Value.int IntKind.i64 (0 : Int))] = prS s 0 false, [(2, Rw.mk Kd.shut [Value.int IntKind.u64 (0 : Int), Value.int IntKind.u64 (0 : Int)]), (1, Rw.mk Kd.shut [Value.int IntKind.u64 (0 : Int), Value.int IntKind.u64 (0 :
 Int)])] = prH (0 : Int) (0 : Int), 3 = 3, prr0 s = some (Prod.fst (getT (prr0 s)), Prod.snd (getT (prr0 s)), true), leN s ≤ 39]) := by kernel_rfl
theorem pr_2ok (s : ByteArray) : prjV (runZ (prV (fun _ => 0) (fun _ => 0) (fun _ => false) (prL Try.prog s)) Try.prog 9 35 [.string s] [] 1 [false, false, true, false, false, false]) =
  Res.ok (Value.tuple (Array.mk [Value.agg (Array.mk [Value.int IntKind.u64 (Prod.fst (getT (prr0 s))), Value.int IntKind.u64 (Prod.snd (getT (prr0 s)))]), Value.int IntKind.i64 (0 : Int)]), [], [decide ((↑(List.length
 (Array.toList (ByteArray.data s))) : Int) > (39 : Int)) = false, strEq s (ByteArray.mk #[]) = false, decide ((↑(List.length (Array.toList (ByteArray.data s))) : Int) > (1 : Int)) = true, (0 : Int) ≤ (0 : Int) ∧ 0 <
 List.length (Array.toList (ByteArray.data s)), ((↑(chAt s 0) : Int) == (48 : Int)) = false, prB Try.prog = prB Try.prog, [(0, Value.string s), (2, Value.pointer (some (Addr.mk 1 0 none))), (4, Value.pointer (some (Addr.mk
 2 0 none))), (5, Value.bool false), (6, Value.int IntKind.i64 (0 : Int))] = prS s 0 false, [(2, Rw.mk Kd.shut [Value.int IntKind.u64 (0 : Int), Value.int IntKind.u64 (0 : Int)]), (1, Rw.mk Kd.shut [Value.int IntKind.u64
 (0 : Int), Value.int IntKind.u64 (0 : Int)])] = prH (0 : Int) (0 : Int), 3 = 3, prr0 s = some (Prod.fst (getT (prr0 s)), Prod.snd (getT (prr0 s)), false), leN s ≤ 39]) := by kernel_rfl
def preB (s : ByteArray) : Prop := leN s = 0 ∨ (1 < leN s ∧ (chAt s 0 : Int) = 48)
instance (s : ByteArray) : Decidable (preB s) := inferInstanceAs (Decidable (_ ∨ _))
/-- The number that a text says, and its error. -/
def pvC (s : ByteArray) : Int := if 39 < leN s then 3 else if preB s then 4 else prsC (prs0 s)
def pvH (s : ByteArray) : Int := if 39 < leN s then 0 else if preB s then 0 else prsH (prs0 s)
def pvL (s : ByteArray) : Int := if 39 < leN s then 0 else if preB s then 0 else prsL (prs0 s)
def gPrs : GSpec := fun av tp => match av with
  | [.fl (.string s)] => some (⟨fun _ => .tuple ⟨[.agg ⟨[.int .u64 (pvH s), .int .u64 (pvL s)]⟩, .int .i64 (pvC s)]⟩, []⟩, tp, [])
  | _ => none
theorem strE0 (s : ByteArray) : strEq s (ByteArray.mk #[]) = decide (leN s = 0) := by
  unfold strEq leN
  cases s.data.toList with
  | nil => rfl
  | cons a l => simp
theorem pi_gok : GOk Try.prog 34 [.f] gPrs := by
  intro av tp gr tp' ob hG ho hP caps hcap
  unfold gPrs at hG
  split at hG
  case h_2 => cases hG
  rename_i s
  simp only [Option.some.injEq, Prod.mk.injEq] at hG
  obtain ⟨rfl, rfl, rfl⟩ := hG
  have hX : XOkZ (pnV (piL Try.prog s)) Try.prog := by first | exact pnV_X _ | exact prV_X _ _ _ _
  have hT : TOkZ (pnV (piL Try.prog s)) Try.prog := by first | exact pnV_T _ | exact prV_T _ _ _ _
  have hL : LOkZ (pnV (piL Try.prog s)) Try.prog := L_okV rfl (mkL_ok (pi_spec_ok s))
  have eN : s.data.toList.length = leN s := rfl
  by_cases h39 : 39 < leN s
  · have e1 : pvC s = 3 := if_pos h39
    have e2 : pvH s = 0 := if_pos h39
    have e3 : pvL s = 0 := if_pos h39
    rw [e1, e2, e3]
    obtain ⟨h', nx', dd, T⟩ := run_val hX hT hL (pi_long s) (by
      repeat' (first | exact alls_nil | refine alls_cons ?_ ?_)
      all_goals (try simp only [strE0])
      all_goals first | with_reducible assumption | with_reducible rfl | omega | (simp only [decide_eq_true_eq, decide_eq_false_iff_not, beq_iff_eq, beq_eq_false_iff_ne, ne_eq]; omega) | (unfold leN at *; simp only [decide_eq_true_eq, decide_eq_false_iff_not, beq_iff_eq, beq_eq_false_iff_ne, ne_eq]; omega) | rfl) rfl
    exact ⟨_, _, _, _, fun n => n, T, GrIs.flat fun σ => rfl⟩
  by_cases hb : preB s
  · have e1 : pvC s = 4 := by unfold pvC; rw [if_neg h39, if_pos hb]
    have e2 : pvH s = 0 := by unfold pvH; rw [if_neg h39, if_pos hb]
    have e3 : pvL s = 0 := by unfold pvL; rw [if_neg h39, if_pos hb]
    rw [e1, e2, e3]
    by_cases h0 : leN s = 0
    ·
      obtain ⟨h', nx', dd, T⟩ := run_val hX hT hL (pi_empt s) (by
        repeat' (first | exact alls_nil | refine alls_cons ?_ ?_)
        all_goals (try simp only [strE0])
        all_goals first | with_reducible assumption | with_reducible rfl | omega | (simp only [decide_eq_true_eq, decide_eq_false_iff_not, beq_iff_eq, beq_eq_false_iff_ne, ne_eq]; omega) | (unfold leN at *; simp only [decide_eq_true_eq, decide_eq_false_iff_not, beq_iff_eq, beq_eq_false_iff_ne, ne_eq]; omega) | rfl) rfl
      exact ⟨_, _, _, _, fun n => n, T, GrIs.flat fun σ => rfl⟩
    · have hb2 : 1 < leN s ∧ (chAt s 0 : Int) = 48 := by
        unfold preB at hb
        rcases hb with hb | hb
        · exact absurd hb h0
        · exact hb
      obtain ⟨hb3, hb4⟩ := hb2
      obtain ⟨h', nx', dd, T⟩ := run_val hX hT hL (pi_lead s) (by
        repeat' (first | exact alls_nil | refine alls_cons ?_ ?_)
        all_goals (try simp only [strE0])
        all_goals first | with_reducible assumption | with_reducible rfl | omega | (simp only [decide_eq_true_eq, decide_eq_false_iff_not, beq_iff_eq, beq_eq_false_iff_ne, ne_eq]; omega) | (unfold leN at *; simp only [decide_eq_true_eq, decide_eq_false_iff_not, beq_iff_eq, beq_eq_false_iff_ne, ne_eq]; omega) | rfl) rfl
      exact ⟨_, _, _, _, fun n => n, T, GrIs.flat fun σ => rfl⟩
  · have e1 : pvC s = prsC (prs0 s) := by unfold pvC; rw [if_neg h39, if_neg hb]; try exact (⟨rfl, rfl, rfl⟩ : prsC (prs0 s) = prsC (prs0 s) ∧ prsH (prs0 s) = prsH (prs0 s) ∧ prsL (prs0 s) = prsL (prs0 s)).1
    have e2 : pvH s = prsH (prs0 s) := by unfold pvH; rw [if_neg h39, if_neg hb]; try exact (⟨rfl, rfl, rfl⟩ : prsC (prs0 s) = prsC (prs0 s) ∧ prsH (prs0 s) = prsH (prs0 s) ∧ prsL (prs0 s) = prsL (prs0 s)).2.1
    have e3 : pvL s = prsL (prs0 s) := by unfold pvL; rw [if_neg h39, if_neg hb]; try exact (⟨rfl, rfl, rfl⟩ : prsC (prs0 s) = prsC (prs0 s) ∧ prsH (prs0 s) = prsH (prs0 s) ∧ prsL (prs0 s) = prsL (prs0 s)).2.2
    rw [e1, e2, e3]
    have g0 : ¬ leN s = 0 := fun e => hb (.inl e)
    have g1 : ¬ (1 < leN s ∧ (chAt s 0 : Int) = 48) := fun e => hb (.inr e)
    by_cases h1 : 1 < leN s
    · have h48 : ¬ (chAt s 0 : Int) = 48 := fun e => g1 ⟨h1, e⟩
      rcases hr : prs0 s with _ | ⟨H, L, O⟩
      · show Ran _ _ _ _ _ _
        obtain ⟨h', nx', dd, T⟩ := run_val hX hT hL (pi_2bad s) (by
          repeat' (first | exact alls_nil | refine alls_cons ?_ ?_)
          all_goals (try simp only [strE0])
          all_goals first | with_reducible assumption | with_reducible rfl | omega | (simp only [decide_eq_true_eq, decide_eq_false_iff_not, beq_iff_eq, beq_eq_false_iff_ne, ne_eq]; omega) | (unfold leN at *; simp only [decide_eq_true_eq, decide_eq_false_iff_not, beq_iff_eq, beq_eq_false_iff_ne, ne_eq]; omega) | rfl) rfl
        exact ⟨_, _, _, _, fun n => n, T, GrIs.flat fun σ => rfl⟩
      · have gt : getT (prs0 s) = (H, L) := by rw [hr]; rfl
        have gr : prs0 s = some ((getT (prs0 s)).1, (getT (prs0 s)).2, O) := by rw [gt]; exact hr
        have g1 : (getT (prs0 s)).1 = H := by rw [gt]
        have g2 : (getT (prs0 s)).2 = L := by rw [gt]
        cases O with
        | true =>
          show Ran _ _ _ _ _ _
          obtain ⟨h', nx', dd, T⟩ := run_val hX hT hL (pi_2ov s) (by
            repeat' (first | exact alls_nil | refine alls_cons ?_ ?_)
            all_goals (try simp only [strE0])
            all_goals first | with_reducible assumption | with_reducible rfl | omega | (simp only [decide_eq_true_eq, decide_eq_false_iff_not, beq_iff_eq, beq_eq_false_iff_ne, ne_eq]; omega) | (unfold leN at *; simp only [decide_eq_true_eq, decide_eq_false_iff_not, beq_iff_eq, beq_eq_false_iff_ne, ne_eq]; omega) | rfl) rfl
          exact ⟨_, _, _, _, fun n => n, T, GrIs.flat fun σ => rfl⟩
        | false =>
          show Ran _ _ _ _ _ ⟨fun _ => .tuple ⟨[.agg ⟨[.int .u64 H, .int .u64 L]⟩, .int .i64 0]⟩, []⟩
          rw [← g1, ← g2]
          obtain ⟨h', nx', dd, T⟩ := run_val hX hT hL (pi_2ok s) (by
            repeat' (first | exact alls_nil | refine alls_cons ?_ ?_)
            all_goals (try simp only [strE0])
            all_goals first | with_reducible assumption | with_reducible rfl | omega | (simp only [decide_eq_true_eq, decide_eq_false_iff_not, beq_iff_eq, beq_eq_false_iff_ne, ne_eq]; omega) | (unfold leN at *; simp only [decide_eq_true_eq, decide_eq_false_iff_not, beq_iff_eq, beq_eq_false_iff_ne, ne_eq]; omega) | rfl) rfl
          exact ⟨_, _, _, _, fun n => n, T, GrIs.flat fun σ => rfl⟩
    · rcases hr : prs0 s with _ | ⟨H, L, O⟩
      · show Ran _ _ _ _ _ _
        obtain ⟨h', nx', dd, T⟩ := run_val hX hT hL (pi_1bad s) (by
          repeat' (first | exact alls_nil | refine alls_cons ?_ ?_)
          all_goals (try simp only [strE0])
          all_goals first | with_reducible assumption | with_reducible rfl | omega | (simp only [decide_eq_true_eq, decide_eq_false_iff_not, beq_iff_eq, beq_eq_false_iff_ne, ne_eq]; omega) | (unfold leN at *; simp only [decide_eq_true_eq, decide_eq_false_iff_not, beq_iff_eq, beq_eq_false_iff_ne, ne_eq]; omega) | rfl) rfl
        exact ⟨_, _, _, _, fun n => n, T, GrIs.flat fun σ => rfl⟩
      · have gt : getT (prs0 s) = (H, L) := by rw [hr]; rfl
        have gr : prs0 s = some ((getT (prs0 s)).1, (getT (prs0 s)).2, O) := by rw [gt]; exact hr
        have g1 : (getT (prs0 s)).1 = H := by rw [gt]
        have g2 : (getT (prs0 s)).2 = L := by rw [gt]
        cases O with
        | true =>
          show Ran _ _ _ _ _ _
          obtain ⟨h', nx', dd, T⟩ := run_val hX hT hL (pi_1ov s) (by
            repeat' (first | exact alls_nil | refine alls_cons ?_ ?_)
            all_goals (try simp only [strE0])
            all_goals first | with_reducible assumption | with_reducible rfl | omega | (simp only [decide_eq_true_eq, decide_eq_false_iff_not, beq_iff_eq, beq_eq_false_iff_ne, ne_eq]; omega) | (unfold leN at *; simp only [decide_eq_true_eq, decide_eq_false_iff_not, beq_iff_eq, beq_eq_false_iff_ne, ne_eq]; omega) | rfl) rfl
          exact ⟨_, _, _, _, fun n => n, T, GrIs.flat fun σ => rfl⟩
        | false =>
          show Ran _ _ _ _ _ ⟨fun _ => .tuple ⟨[.agg ⟨[.int .u64 H, .int .u64 L]⟩, .int .i64 0]⟩, []⟩
          rw [← g1, ← g2]
          obtain ⟨h', nx', dd, T⟩ := run_val hX hT hL (pi_1ok s) (by
            repeat' (first | exact alls_nil | refine alls_cons ?_ ?_)
            all_goals (try simp only [strE0])
            all_goals first | with_reducible assumption | with_reducible rfl | omega | (simp only [decide_eq_true_eq, decide_eq_false_iff_not, beq_iff_eq, beq_eq_false_iff_ne, ne_eq]; omega) | (unfold leN at *; simp only [decide_eq_true_eq, decide_eq_false_iff_not, beq_iff_eq, beq_eq_false_iff_ne, ne_eq]; omega) | rfl) rfl
          exact ⟨_, _, _, _, fun n => n, T, GrIs.flat fun σ => rfl⟩
theorem pr_gok : GOk Try.prog 35 [.f] gPrs := by
  intro av tp gr tp' ob hG ho hP caps hcap
  unfold gPrs at hG
  split at hG
  case h_2 => cases hG
  rename_i s
  simp only [Option.some.injEq, Prod.mk.injEq] at hG
  obtain ⟨rfl, rfl, rfl⟩ := hG
  have hX : XOkZ (prV (fun _ => 0) (fun _ => 0) (fun _ => false) (prL Try.prog s)) Try.prog := by first | exact pnV_X _ | exact prV_X _ _ _ _
  have hT : TOkZ (prV (fun _ => 0) (fun _ => 0) (fun _ => false) (prL Try.prog s)) Try.prog := by first | exact pnV_T _ | exact prV_T _ _ _ _
  have hL : LOkZ (prV (fun _ => 0) (fun _ => 0) (fun _ => false) (prL Try.prog s)) Try.prog := L_okV rfl (mkL_ok (pr_spec_ok s))
  have eN : s.data.toList.length = leN s := rfl
  by_cases h39 : 39 < leN s
  · have e1 : pvC s = 3 := if_pos h39
    have e2 : pvH s = 0 := if_pos h39
    have e3 : pvL s = 0 := if_pos h39
    rw [e1, e2, e3]
    obtain ⟨h', nx', dd, T⟩ := run_val hX hT hL (pr_long s) (by
      repeat' (first | exact alls_nil | refine alls_cons ?_ ?_)
      all_goals (try simp only [strE0])
      all_goals first | with_reducible assumption | with_reducible rfl | omega | (simp only [decide_eq_true_eq, decide_eq_false_iff_not, beq_iff_eq, beq_eq_false_iff_ne, ne_eq]; omega) | (unfold leN at *; simp only [decide_eq_true_eq, decide_eq_false_iff_not, beq_iff_eq, beq_eq_false_iff_ne, ne_eq]; omega) | rfl) rfl
    exact ⟨_, _, _, _, fun n => n, T, GrIs.flat fun σ => rfl⟩
  by_cases hb : preB s
  · have e1 : pvC s = 4 := by unfold pvC; rw [if_neg h39, if_pos hb]
    have e2 : pvH s = 0 := by unfold pvH; rw [if_neg h39, if_pos hb]
    have e3 : pvL s = 0 := by unfold pvL; rw [if_neg h39, if_pos hb]
    rw [e1, e2, e3]
    by_cases h0 : leN s = 0
    ·
      obtain ⟨h', nx', dd, T⟩ := run_val hX hT hL (pr_empt s) (by
        repeat' (first | exact alls_nil | refine alls_cons ?_ ?_)
        all_goals (try simp only [strE0])
        all_goals first | with_reducible assumption | with_reducible rfl | omega | (simp only [decide_eq_true_eq, decide_eq_false_iff_not, beq_iff_eq, beq_eq_false_iff_ne, ne_eq]; omega) | (unfold leN at *; simp only [decide_eq_true_eq, decide_eq_false_iff_not, beq_iff_eq, beq_eq_false_iff_ne, ne_eq]; omega) | rfl) rfl
      exact ⟨_, _, _, _, fun n => n, T, GrIs.flat fun σ => rfl⟩
    · have hb2 : 1 < leN s ∧ (chAt s 0 : Int) = 48 := by
        unfold preB at hb
        rcases hb with hb | hb
        · exact absurd hb h0
        · exact hb
      obtain ⟨hb3, hb4⟩ := hb2
      obtain ⟨h', nx', dd, T⟩ := run_val hX hT hL (pr_lead s) (by
        repeat' (first | exact alls_nil | refine alls_cons ?_ ?_)
        all_goals (try simp only [strE0])
        all_goals first | with_reducible assumption | with_reducible rfl | omega | (simp only [decide_eq_true_eq, decide_eq_false_iff_not, beq_iff_eq, beq_eq_false_iff_ne, ne_eq]; omega) | (unfold leN at *; simp only [decide_eq_true_eq, decide_eq_false_iff_not, beq_iff_eq, beq_eq_false_iff_ne, ne_eq]; omega) | rfl) rfl
      exact ⟨_, _, _, _, fun n => n, T, GrIs.flat fun σ => rfl⟩
  · have e1 : pvC s = prsC (prr0 s) := by unfold pvC; rw [if_neg h39, if_neg hb]; try exact (⟨(prs0_same s).1.symm, (prs0_same s).2.1.symm, (prs0_same s).2.2.symm⟩ : prsC (prs0 s) = prsC (prr0 s) ∧ prsH (prs0 s) = prsH (prr0 s) ∧ prsL (prs0 s) = prsL (prr0 s)).1
    have e2 : pvH s = prsH (prr0 s) := by unfold pvH; rw [if_neg h39, if_neg hb]; try exact (⟨(prs0_same s).1.symm, (prs0_same s).2.1.symm, (prs0_same s).2.2.symm⟩ : prsC (prs0 s) = prsC (prr0 s) ∧ prsH (prs0 s) = prsH (prr0 s) ∧ prsL (prs0 s) = prsL (prr0 s)).2.1
    have e3 : pvL s = prsL (prr0 s) := by unfold pvL; rw [if_neg h39, if_neg hb]; try exact (⟨(prs0_same s).1.symm, (prs0_same s).2.1.symm, (prs0_same s).2.2.symm⟩ : prsC (prs0 s) = prsC (prr0 s) ∧ prsH (prs0 s) = prsH (prr0 s) ∧ prsL (prs0 s) = prsL (prr0 s)).2.2
    rw [e1, e2, e3]
    have g0 : ¬ leN s = 0 := fun e => hb (.inl e)
    have g1 : ¬ (1 < leN s ∧ (chAt s 0 : Int) = 48) := fun e => hb (.inr e)
    by_cases h1 : 1 < leN s
    · have h48 : ¬ (chAt s 0 : Int) = 48 := fun e => g1 ⟨h1, e⟩
      rcases hr : prr0 s with _ | ⟨H, L, O⟩
      · show Ran _ _ _ _ _ _
        obtain ⟨h', nx', dd, T⟩ := run_val hX hT hL (pr_2bad s) (by
          repeat' (first | exact alls_nil | refine alls_cons ?_ ?_)
          all_goals (try simp only [strE0])
          all_goals first | with_reducible assumption | with_reducible rfl | omega | (simp only [decide_eq_true_eq, decide_eq_false_iff_not, beq_iff_eq, beq_eq_false_iff_ne, ne_eq]; omega) | (unfold leN at *; simp only [decide_eq_true_eq, decide_eq_false_iff_not, beq_iff_eq, beq_eq_false_iff_ne, ne_eq]; omega) | rfl) rfl
        exact ⟨_, _, _, _, fun n => n, T, GrIs.flat fun σ => rfl⟩
      · have gt : getT (prr0 s) = (H, L) := by rw [hr]; rfl
        have gr : prr0 s = some ((getT (prr0 s)).1, (getT (prr0 s)).2, O) := by rw [gt]; exact hr
        have g1 : (getT (prr0 s)).1 = H := by rw [gt]
        have g2 : (getT (prr0 s)).2 = L := by rw [gt]
        cases O with
        | true =>
          show Ran _ _ _ _ _ _
          obtain ⟨h', nx', dd, T⟩ := run_val hX hT hL (pr_2ov s) (by
            repeat' (first | exact alls_nil | refine alls_cons ?_ ?_)
            all_goals (try simp only [strE0])
            all_goals first | with_reducible assumption | with_reducible rfl | omega | (simp only [decide_eq_true_eq, decide_eq_false_iff_not, beq_iff_eq, beq_eq_false_iff_ne, ne_eq]; omega) | (unfold leN at *; simp only [decide_eq_true_eq, decide_eq_false_iff_not, beq_iff_eq, beq_eq_false_iff_ne, ne_eq]; omega) | rfl) rfl
          exact ⟨_, _, _, _, fun n => n, T, GrIs.flat fun σ => rfl⟩
        | false =>
          show Ran _ _ _ _ _ ⟨fun _ => .tuple ⟨[.agg ⟨[.int .u64 H, .int .u64 L]⟩, .int .i64 0]⟩, []⟩
          rw [← g1, ← g2]
          obtain ⟨h', nx', dd, T⟩ := run_val hX hT hL (pr_2ok s) (by
            repeat' (first | exact alls_nil | refine alls_cons ?_ ?_)
            all_goals (try simp only [strE0])
            all_goals first | with_reducible assumption | with_reducible rfl | omega | (simp only [decide_eq_true_eq, decide_eq_false_iff_not, beq_iff_eq, beq_eq_false_iff_ne, ne_eq]; omega) | (unfold leN at *; simp only [decide_eq_true_eq, decide_eq_false_iff_not, beq_iff_eq, beq_eq_false_iff_ne, ne_eq]; omega) | rfl) rfl
          exact ⟨_, _, _, _, fun n => n, T, GrIs.flat fun σ => rfl⟩
    · rcases hr : prr0 s with _ | ⟨H, L, O⟩
      · show Ran _ _ _ _ _ _
        obtain ⟨h', nx', dd, T⟩ := run_val hX hT hL (pr_1bad s) (by
          repeat' (first | exact alls_nil | refine alls_cons ?_ ?_)
          all_goals (try simp only [strE0])
          all_goals first | with_reducible assumption | with_reducible rfl | omega | (simp only [decide_eq_true_eq, decide_eq_false_iff_not, beq_iff_eq, beq_eq_false_iff_ne, ne_eq]; omega) | (unfold leN at *; simp only [decide_eq_true_eq, decide_eq_false_iff_not, beq_iff_eq, beq_eq_false_iff_ne, ne_eq]; omega) | rfl) rfl
        exact ⟨_, _, _, _, fun n => n, T, GrIs.flat fun σ => rfl⟩
      · have gt : getT (prr0 s) = (H, L) := by rw [hr]; rfl
        have gr : prr0 s = some ((getT (prr0 s)).1, (getT (prr0 s)).2, O) := by rw [gt]; exact hr
        have g1 : (getT (prr0 s)).1 = H := by rw [gt]
        have g2 : (getT (prr0 s)).2 = L := by rw [gt]
        cases O with
        | true =>
          show Ran _ _ _ _ _ _
          obtain ⟨h', nx', dd, T⟩ := run_val hX hT hL (pr_1ov s) (by
            repeat' (first | exact alls_nil | refine alls_cons ?_ ?_)
            all_goals (try simp only [strE0])
            all_goals first | with_reducible assumption | with_reducible rfl | omega | (simp only [decide_eq_true_eq, decide_eq_false_iff_not, beq_iff_eq, beq_eq_false_iff_ne, ne_eq]; omega) | (unfold leN at *; simp only [decide_eq_true_eq, decide_eq_false_iff_not, beq_iff_eq, beq_eq_false_iff_ne, ne_eq]; omega) | rfl) rfl
          exact ⟨_, _, _, _, fun n => n, T, GrIs.flat fun σ => rfl⟩
        | false =>
          show Ran _ _ _ _ _ ⟨fun _ => .tuple ⟨[.agg ⟨[.int .u64 H, .int .u64 L]⟩, .int .i64 0]⟩, []⟩
          rw [← g1, ← g2]
          obtain ⟨h', nx', dd, T⟩ := run_val hX hT hL (pr_1ok s) (by
            repeat' (first | exact alls_nil | refine alls_cons ?_ ?_)
            all_goals (try simp only [strE0])
            all_goals first | with_reducible assumption | with_reducible rfl | omega | (simp only [decide_eq_true_eq, decide_eq_false_iff_not, beq_iff_eq, beq_eq_false_iff_ne, ne_eq]; omega) | (unfold leN at *; simp only [decide_eq_true_eq, decide_eq_false_iff_not, beq_iff_eq, beq_eq_false_iff_ne, ne_eq]; omega) | rfl) rfl
          exact ⟨_, _, _, _, fun n => n, T, GrIs.flat fun σ => rfl⟩
end Go.Proofs.Ytpiapipmhlpmjaa
