/-
  Chapter 02: lists of records beside each other.
-/
import Derived.Test.YtgpgdkpfeoaidaaRecF
namespace Go.Proofs.Ytgpgdkpfeoaidaa
set_option linter.unusedSimpArgs false
set_option linter.unusedVariables false
set_option linter.unusedSectionVars false
open Go Go.RowKit

def eeS (n c d i : Nat) : List (Nat × Value) := [(0, .slice (some ⟨0, 0, none⟩) n c), (1, .slice (some ⟨1, 0, none⟩) n d), (5, .int .i64 (i : Int))]
def eqlV (f : Nat) (L : LFun) : Tv := ⟨noTz, noXz, L, tbl f [10, 14, 25], allSy f [], fun _ => [], fun _ => 0⟩
def eqlC (P : Program) (f : Nat) : Code := bodyIn P f 4
def eqlSpec (ok : List Value → Nat → Prop) : LSpec := lspec (fun live h => match live, h with | [(_, .slice _ n c), (_, .slice _ _ d), _], [(_, r), _] => some (n, c, d, r.cs) | _, _ => none) (fun a => (eeS a.1 a.2.1 a.2.2.1 0, [(0, ⟨.old, a.2.2.2⟩), (1, ⟨.old, a.2.2.2⟩)], 2))
  (fun a tp => some ((.exit 0, [], [(0, ⟨.old, a.2.2.2⟩), (1, ⟨.old, a.2.2.2⟩)], 2, []), tp, [ok a.2.2.2 a.1, a.1 ≤ a.2.1 ∧ a.2.1 ≤ 9223372036854775807, a.1 ≤ a.2.2.1 ∧ a.2.2.1 ≤ 9223372036854775807]))
def eqlL (ok : List Value → Nat → Prop) (P : Program) (f : Nat) : LFun := mkL f 4 26 [0, 1, 5] (eqlC P f) (eqlSpec ok)
def sEqO (ok : List Value → Nat → Prop) : Spec2 := fun xs n ys m tp => some (⟨fun _ => .bool true, []⟩, tp, [ok xs n, ys = xs, m = n])
abbrev wa_more_R (inr : Bool) (xs : List Value) (n c d i : Nat) : Res (PSt × Tape × List Prop) :=
  Res.ok ((Xt.normal, 26, [(0, Value.slice (some (Addr.mk 0 0 none)) n c), (1, Value.slice (some (Addr.mk 1 0 none)) n d), (5, Value.int IntKind.i64 (↑(i + 1) : Int))], [(0, Rw.mk Kd.old xs), (1, Rw.mk Kd.old xs)], 2, [],
 []), [], [decide ((↑i : Int) < (↑n : Int)) = true, (0 : Int) ≤ (↑i : Int) ∧ (↑i : Int) < (↑n : Int), List.take 19 (List.drop (i * 19) xs) = [Value.int IntKind.u64 (intAt xs (i * 19)), Value.int IntKind.u64 (intAt xs (i *
 19 + 1)), Value.int IntKind.u64 (intAt xs (i * 19 + 1 + 1)), Value.int IntKind.u64 (intAt xs (i * 19 + 1 + 1 + 1)), Value.int IntKind.u64 (intAt xs (i * 19 + 1 + 1 + 1 + 1)), Value.int IntKind.u64 (intAt xs (i * 19 + 1 +
 1 + 1 + 1 + 1)), Value.int IntKind.u64 (intAt xs (i * 19 + 1 + 1 + 1 + 1 + 1 + 1)), Value.int IntKind.u64 (intAt xs (i * 19 + 1 + 1 + 1 + 1 + 1 + 1 + 1)), Value.int IntKind.u64 (intAt xs (i * 19 + 1 + 1 + 1 + 1 + 1 + 1 +
 1 + 1)), Value.int IntKind.u64 (intAt xs (i * 19 + 1 + 1 + 1 + 1 + 1 + 1 + 1 + 1 + 1)), Value.int IntKind.u64 (intAt xs (i * 19 + 1 + 1 + 1 + 1 + 1 + 1 + 1 + 1 + 1 + 1)), Value.int IntKind.u64 (intAt xs (i * 19 + 1 + 1 +
 1 + 1 + 1 + 1 + 1 + 1 + 1 + 1 + 1)), Value.int IntKind.u64 (intAt xs (i * 19 + 1 + 1 + 1 + 1 + 1 + 1 + 1 + 1 + 1 + 1 + 1 + 1)), Value.int IntKind.u32 (intAt xs (i * 19 + 1 + 1 + 1 + 1 + 1 + 1 + 1 + 1 + 1 + 1 + 1 + 1 +
 1)), Value.int IntKind.u32 (intAt xs (i * 19 + 1 + 1 + 1 + 1 + 1 + 1 + 1 + 1 + 1 + 1 + 1 + 1 + 1 + 1)), Value.int IntKind.u32 (intAt xs (i * 19 + 1 + 1 + 1 + 1 + 1 + 1 + 1 + 1 + 1 + 1 + 1 + 1 + 1 + 1 + 1)), Value.int
 IntKind.u16 (intAt xs (i * 19 + 1 + 1 + 1 + 1 + 1 + 1 + 1 + 1 + 1 + 1 + 1 + 1 + 1 + 1 + 1 + 1)), Value.int IntKind.u16 (intAt xs (i * 19 + 1 + 1 + 1 + 1 + 1 + 1 + 1 + 1 + 1 + 1 + 1 + 1 + 1 + 1 + 1 + 1 + 1)), Value.int
 IntKind.u64 (intAt xs (i * 19 + 1 + 1 + 1 + 1 + 1 + 1 + 1 + 1 + 1 + 1 + 1 + 1 + 1 + 1 + 1 + 1 + 1 + 1))], (0 : Int) ≤ (↑i : Int) ∧ (↑i : Int) < (↑n : Int), List.take 19 (List.drop (i * 19) xs) = [Value.int IntKind.u64
 (intAt xs (i * 19)), Value.int IntKind.u64 (intAt xs (i * 19 + 1)), Value.int IntKind.u64 (intAt xs (i * 19 + 1 + 1)), Value.int IntKind.u64 (intAt xs (i * 19 + 1 + 1 + 1)), Value.int IntKind.u64 (intAt xs (i * 19 + 1 + 1
 + 1 + 1)), Value.int IntKind.u64 (intAt xs (i * 19 + 1 + 1 + 1 + 1 + 1)), Value.int IntKind.u64 (intAt xs (i * 19 + 1 + 1 + 1 + 1 + 1 + 1)), Value.int IntKind.u64 (intAt xs (i * 19 + 1 + 1 + 1 + 1 + 1 + 1 + 1)), Value.int
 IntKind.u64 (intAt xs (i * 19 + 1 + 1 + 1 + 1 + 1 + 1 + 1 + 1)), Value.int IntKind.u64 (intAt xs (i * 19 + 1 + 1 + 1 + 1 + 1 + 1 + 1 + 1 + 1)), Value.int IntKind.u64 (intAt xs (i * 19 + 1 + 1 + 1 + 1 + 1 + 1 + 1 + 1 + 1 +
 1)), Value.int IntKind.u64 (intAt xs (i * 19 + 1 + 1 + 1 + 1 + 1 + 1 + 1 + 1 + 1 + 1 + 1)), Value.int IntKind.u64 (intAt xs (i * 19 + 1 + 1 + 1 + 1 + 1 + 1 + 1 + 1 + 1 + 1 + 1 + 1)), Value.int IntKind.u32 (intAt xs (i *
 19 + 1 + 1 + 1 + 1 + 1 + 1 + 1 + 1 + 1 + 1 + 1 + 1 + 1)), Value.int IntKind.u32 (intAt xs (i * 19 + 1 + 1 + 1 + 1 + 1 + 1 + 1 + 1 + 1 + 1 + 1 + 1 + 1 + 1)), Value.int IntKind.u32 (intAt xs (i * 19 + 1 + 1 + 1 + 1 + 1 + 1
 + 1 + 1 + 1 + 1 + 1 + 1 + 1 + 1 + 1)), Value.int IntKind.u16 (intAt xs (i * 19 + 1 + 1 + 1 + 1 + 1 + 1 + 1 + 1 + 1 + 1 + 1 + 1 + 1 + 1 + 1 + 1)), Value.int IntKind.u16 (intAt xs (i * 19 + 1 + 1 + 1 + 1 + 1 + 1 + 1 + 1 + 1
 + 1 + 1 + 1 + 1 + 1 + 1 + 1 + 1)), Value.int IntKind.u64 (intAt xs (i * 19 + 1 + 1 + 1 + 1 + 1 + 1 + 1 + 1 + 1 + 1 + 1 + 1 + 1 + 1 + 1 + 1 + 1 + 1))], (!(intAt xs (i * 19) == intAt xs (i * 19) && (intAt xs (i * 19 + 1) ==
 intAt xs (i * 19 + 1) && true) && (intAt xs (i * 19 + 1 + 1) == intAt xs (i * 19 + 1 + 1) && (intAt xs (i * 19 + 1 + 1 + 1) == intAt xs (i * 19 + 1 + 1 + 1) && true) && (intAt xs (i * 19 + 1 + 1 + 1 + 1) == intAt xs (i *
 19 + 1 + 1 + 1 + 1) && (intAt xs (i * 19 + 1 + 1 + 1 + 1 + 1) == intAt xs (i * 19 + 1 + 1 + 1 + 1 + 1) && true) && (intAt xs (i * 19 + 1 + 1 + 1 + 1 + 1 + 1) == intAt xs (i * 19 + 1 + 1 + 1 + 1 + 1 + 1) && (intAt xs (i *
 19 + 1 + 1 + 1 + 1 + 1 + 1 + 1) == intAt xs (i * 19 + 1 + 1 + 1 + 1 + 1 + 1 + 1) && true) && (intAt xs (i * 19 + 1 + 1 + 1 + 1 + 1 + 1 + 1 + 1) == intAt xs (i * 19 + 1 + 1 + 1 + 1 + 1 + 1 + 1 + 1) && (intAt xs (i * 19 + 1
 + 1 + 1 + 1 + 1 + 1 + 1 + 1 + 1) == intAt xs (i * 19 + 1 + 1 + 1 + 1 + 1 + 1 + 1 + 1 + 1) && true) && (intAt xs (i * 19 + 1 + 1 + 1 + 1 + 1 + 1 + 1 + 1 + 1 + 1) == intAt xs (i * 19 + 1 + 1 + 1 + 1 + 1 + 1 + 1 + 1 + 1 + 1)
 && (intAt xs (i * 19 + 1 + 1 + 1 + 1 + 1 + 1 + 1 + 1 + 1 + 1 + 1) == intAt xs (i * 19 + 1 + 1 + 1 + 1 + 1 + 1 + 1 + 1 + 1 + 1 + 1) && true) && (intAt xs (i * 19 + 1 + 1 + 1 + 1 + 1 + 1 + 1 + 1 + 1 + 1 + 1 + 1) == intAt xs
 (i * 19 + 1 + 1 + 1 + 1 + 1 + 1 + 1 + 1 + 1 + 1 + 1 + 1) && (intAt xs (i * 19 + 1 + 1 + 1 + 1 + 1 + 1 + 1 + 1 + 1 + 1 + 1 + 1 + 1) == intAt xs (i * 19 + 1 + 1 + 1 + 1 + 1 + 1 + 1 + 1 + 1 + 1 + 1 + 1 + 1) && (intAt xs (i *
 19 + 1 + 1 + 1 + 1 + 1 + 1 + 1 + 1 + 1 + 1 + 1 + 1 + 1 + 1) == intAt xs (i * 19 + 1 + 1 + 1 + 1 + 1 + 1 + 1 + 1 + 1 + 1 + 1 + 1 + 1 + 1) && (intAt xs (i * 19 + 1 + 1 + 1 + 1 + 1 + 1 + 1 + 1 + 1 + 1 + 1 + 1 + 1 + 1 + 1) ==
 intAt xs (i * 19 + 1 + 1 + 1 + 1 + 1 + 1 + 1 + 1 + 1 + 1 + 1 + 1 + 1 + 1 + 1) && (intAt xs (i * 19 + 1 + 1 + 1 + 1 + 1 + 1 + 1 + 1 + 1 + 1 + 1 + 1 + 1 + 1 + 1 + 1) == intAt xs (i * 19 + 1 + 1 + 1 + 1 + 1 + 1 + 1 + 1 + 1 +
 1 + 1 + 1 + 1 + 1 + 1 + 1) && (intAt xs (i * 19 + 1 + 1 + 1 + 1 + 1 + 1 + 1 + 1 + 1 + 1 + 1 + 1 + 1 + 1 + 1 + 1 + 1) == intAt xs (i * 19 + 1 + 1 + 1 + 1 + 1 + 1 + 1 + 1 + 1 + 1 + 1 + 1 + 1 + 1 + 1 + 1 + 1) && (intAt xs (i
 * 19 + 1 + 1 + 1 + 1 + 1 + 1 + 1 + 1 + 1 + 1 + 1 + 1 + 1 + 1 + 1 + 1 + 1 + 1) == intAt xs (i * 19 + 1 + 1 + 1 + 1 + 1 + 1 + 1 + 1 + 1 + 1 + 1 + 1 + 1 + 1 + 1 + 1 + 1 + 1) && true)))))))))))))) = false, rg IntKind.i64 (↑(i
 + 1) : Int)])
theorem wa_more (inr : Bool) (xs : List Value) (n c d i : Nat) : prjZ [0, 1, 5] (codeZ (eqlV 27 noL) Try.prog (runZ (eqlV 27 noL) Try.prog 5) 27 inr 100000 (eqlC Try.prog 27) (SL 26 (eeS n c d i)) [(0, ⟨.old, xs⟩), (1, ⟨.old, xs⟩)] 2 [true, false]) = wa_more_R inr xs n c d i := by kernel_rfl
theorem wa_done (inr : Bool) (xs : List Value) (n c d i : Nat) : prjZ [0] (codeZ (eqlV 27 noL) Try.prog (runZ (eqlV 27 noL) Try.prog 5) 27 inr 100000 (eqlC Try.prog 27) (SL 26 (eeS n c d i)) [(0, ⟨.old, xs⟩), (1, ⟨.old, xs⟩)] 2 [false]) =
  Res.ok ((Xt.exit 0, 26, [(0, Value.slice (some (Addr.mk 0 0 none)) n c)], [(0, Rw.mk Kd.old xs), (1, Rw.mk Kd.old xs)], 2, [], []), [], [decide ((↑i : Int) < (↑n : Int)) = false]) := by kernel_rfl
theorem wa_ss (xs : List Value) (n c d : Nat) : runZ (eqlV 27 (eqlL RecsOk Try.prog 27)) Try.prog 5 27 [.slice (some ⟨0, 0, none⟩) n c, .slice (some ⟨1, 0, none⟩) n d] [(0, ⟨.old, xs⟩), (1, ⟨.old, xs⟩)] 2 [false] =
  Res.ok ((Value.bool true, [(0, Rw.mk Kd.old xs), (1, Rw.mk Kd.old xs)], 2, []), [], [((↑n : Int) != (↑n : Int)) = false, eqlC Try.prog 27 = eqlC Try.prog 27, [(0, Value.slice (some (Addr.mk 0 0 none)) n c), (1,
 Value.slice (some (Addr.mk 1 0 none)) n d), (5, Value.int IntKind.i64 (0 : Int))] = eeS n c d 0, [(0, Rw.mk Kd.old xs), (1, Rw.mk Kd.old xs)] = [(0, Rw.mk Kd.old xs), (1, Rw.mk Kd.old xs)], 2 = 2, RecsOk xs n, n ≤ c ∧ c ≤
 9223372036854775807, n ≤ d ∧ d ≤ 9223372036854775807]) := by kernel_rfl
theorem wa_nn  : runZ (eqlV 27 noL) Try.prog 5 27 [.slice none 0 0, .slice none 0 0] [] 2 [false, false] =
  Res.ok ((Value.bool true, [], 2, []), [], [false = false, false = false]) := by kernel_rfl
theorem wa_sn (xs : List Value) (c : Nat) : runZ (eqlV 27 noL) Try.prog 5 27 [.slice (some ⟨0, 0, none⟩) 0 c, .slice none 0 0] [(0, ⟨.old, xs⟩)] 2 [false, false] =
  Res.ok ((Value.bool true, [(0, Rw.mk Kd.old xs)], 2, []), [], [false = false, false = false]) := by kernel_rfl
theorem wa_ns (ys : List Value) (d : Nat) : runZ (eqlV 27 noL) Try.prog 5 27 [.slice none 0 0, .slice (some ⟨1, 0, none⟩) 0 d] [(1, ⟨.old, ys⟩)] 2 [false, false] =
  Res.ok ((Value.bool true, [(1, Rw.mk Kd.old ys)], 2, []), [], [false = false, false = false]) := by kernel_rfl
theorem wt_more (inr : Bool) (xs : List Value) (n c d i : Nat) : prjZ [0, 1, 5] (codeZ (eqlV 28 noL) Try.prog (runZ (eqlV 28 noL) Try.prog 5) 28 inr 100000 (eqlC Try.prog 28) (SL 26 (eeS n c d i)) [(0, ⟨.old, xs⟩), (1, ⟨.old, xs⟩)] 2 [true, false]) = wa_more_R inr xs n c d i := by kernel_rfl
theorem wt_done (inr : Bool) (xs : List Value) (n c d i : Nat) : prjZ [0] (codeZ (eqlV 28 noL) Try.prog (runZ (eqlV 28 noL) Try.prog 5) 28 inr 100000 (eqlC Try.prog 28) (SL 26 (eeS n c d i)) [(0, ⟨.old, xs⟩), (1, ⟨.old, xs⟩)] 2 [false]) =
  Res.ok ((Xt.exit 0, 26, [(0, Value.slice (some (Addr.mk 0 0 none)) n c)], [(0, Rw.mk Kd.old xs), (1, Rw.mk Kd.old xs)], 2, [], []), [], [decide ((↑i : Int) < (↑n : Int)) = false]) := by kernel_rfl
theorem wt_ss (xs : List Value) (n c d : Nat) : runZ (eqlV 28 (eqlL RecsOk Try.prog 28)) Try.prog 5 28 [.slice (some ⟨0, 0, none⟩) n c, .slice (some ⟨1, 0, none⟩) n d] [(0, ⟨.old, xs⟩), (1, ⟨.old, xs⟩)] 2 [false] =
  Res.ok ((Value.bool true, [(0, Rw.mk Kd.old xs), (1, Rw.mk Kd.old xs)], 2, []), [], [((↑n : Int) != (↑n : Int)) = false, eqlC Try.prog 28 = eqlC Try.prog 28, [(0, Value.slice (some (Addr.mk 0 0 none)) n c), (1,
 Value.slice (some (Addr.mk 1 0 none)) n d), (5, Value.int IntKind.i64 (0 : Int))] = eeS n c d 0, [(0, Rw.mk Kd.old xs), (1, Rw.mk Kd.old xs)] = [(0, Rw.mk Kd.old xs), (1, Rw.mk Kd.old xs)], 2 = 2, RecsOk xs n, n ≤ c ∧ c ≤
 9223372036854775807, n ≤ d ∧ d ≤ 9223372036854775807]) := by kernel_rfl
theorem wt_nn  : runZ (eqlV 28 noL) Try.prog 5 28 [.slice none 0 0, .slice none 0 0] [] 2 [false, false] =
  Res.ok ((Value.bool true, [], 2, []), [], [false = false, false = false]) := by kernel_rfl
theorem wt_sn (xs : List Value) (c : Nat) : runZ (eqlV 28 noL) Try.prog 5 28 [.slice (some ⟨0, 0, none⟩) 0 c, .slice none 0 0] [(0, ⟨.old, xs⟩)] 2 [false, false] =
  Res.ok ((Value.bool true, [(0, Rw.mk Kd.old xs)], 2, []), [], [false = false, false = false]) := by kernel_rfl
theorem wt_ns (ys : List Value) (d : Nat) : runZ (eqlV 28 noL) Try.prog 5 28 [.slice none 0 0, .slice (some ⟨1, 0, none⟩) 0 d] [(1, ⟨.old, ys⟩)] 2 [false, false] =
  Res.ok ((Value.bool true, [(1, Rw.mk Kd.old ys)], 2, []), [], [false = false, false = false]) := by kernel_rfl
theorem wa_loop {inr : Bool} {h0 : Hp} {xs : List Value} {n c d : Nat} (hx : RecsOk xs n) (hc : n ≤ c ∧ c ≤ 9223372036854775807) (hd : n ≤ d ∧ d ≤ 9223372036854775807) : ∀ (k i : Nat), i + k = n →
    LRuns inr Try.prog (eqlC Try.prog 27) 2 2 h0 26 (eeS n c d i) [(0, ⟨.old, xs⟩), (1, ⟨.old, xs⟩)] 2 (.exit 0, [], [(0, ⟨.old, xs⟩), (1, ⟨.old, xs⟩)])
  | 0, i, hk => by
      have hX : XOkZ (eqlV 27 noL) Try.prog := noXz_ok rfl
      have hT : TOkZ (eqlV 27 noL) Try.prog := noTz_okV rfl
      have hL : LOkZ (eqlV 27 noL) Try.prog := noL_okV rfl
      have hfl : Fl xs := hx.f
      refine LRuns.exit (code_runs hX hL (runZ_ok hX hT hL mixed 5) mixed (wa_done inr xs n c d i) ?_) (by intro e; cases e) rfl (by omega) (by omega) (fun n => n) trivial ?_ rfl
      · simp only [Alls, decide_eq_false_iff_not]
        repeat' (first | with_reducible exact trivial | with_reducible apply And.intro)
        all_goals first | with_reducible assumption | omega | with_reducible rfl | (skip)
      · exact ⟨rb_old (by omega) rfl hfl, rb_old (by omega) rfl hfl, trivial⟩
  | k + 1, i, hk => by
      have hX : XOkZ (eqlV 27 noL) Try.prog := noXz_ok rfl
      have hT : TOkZ (eqlV 27 noL) Try.prog := noTz_okV rfl
      have hL : LOkZ (eqlV 27 noL) Try.prog := noL_okV rfl
      have hfl : Fl xs := hx.f
      have g3 := hx.t i (by omega)
      have hb : (!boolAt xs i == boolAt xs i) = false := by cases boolAt xs i <;> rfl
      refine LRuns.step (code_runs hX hL (runZ_ok hX hT hL mixed 5) mixed (wa_more inr xs n c d i) ?_) rfl (by omega) (by omega) (fun n => n) ?_ ?_ rfl (wa_loop hx hc hd k (i + 1) (by omega))
      · simp only [Alls, decide_eq_true_eq, rg, beq_self_eq_true, Bool.and_self, Bool.not_true, bne_self_eq_false]
        repeat' (first | with_reducible exact trivial | with_reducible apply And.intro)
        all_goals first | with_reducible assumption | omega | with_reducible rfl | (first | exact g3 | exact hb | (have := hc.2; omega))
      · exact ⟨rfl, rb_slc rfl (by unfold capBig; omega), rfl, rb_slc rfl (by unfold capBig; omega), rfl, rfl, trivial⟩
      · exact ⟨rb_old (by omega) rfl hfl, rb_old (by omega) rfl hfl, trivial⟩
theorem wa_spec_ok : LSOk Try.prog 26 [0, 1, 5] (eqlC Try.prog 27) (eqlSpec RecsOk) := by
  refine lspec_ok fun a tp xt l2 h2 nx2 d tp' ob hs ho inr ts hn hg => ?_
  obtain ⟨n, c, e, xs⟩ := a
  simp only at hs hg
  simp only [Option.some.injEq, Prod.mk.injEq] at hs
  obtain ⟨⟨rfl, rfl, rfl, rfl, rfl⟩, rfl, rfl⟩ := hs
  obtain ⟨hx, hc, hd, _⟩ := ho
  have hfl : Fl xs := hx.f
  have key := wa_loop (inr := inr) (h0 := [(0, ⟨.old, xs⟩), (1, ⟨.old, xs⟩)]) hx hc hd n 0 (by omega)
  refine LRuns.enter (l2 := eeS n c e 0) (h := [(0, ⟨.old, xs⟩), (1, ⟨.old, xs⟩)]) (h2 := [(0, ⟨.old, xs⟩), (1, ⟨.old, xs⟩)]) hn hg (Nat.le_refl 2) (by omega) (fun n => n) ?_ ⟨rb_old (by omega) rfl hfl, rb_old (by omega) rfl hfl, trivial⟩ rfl key ?_
  · exact ⟨rfl, rb_slc rfl (by unfold capBig; omega), rfl, rb_slc rfl (by unfold capBig; omega), rfl, rfl, trivial⟩
  · exact tidy_of (by omega) (fun n hn hd => rfl) rfl
theorem wa_gok {sz : Nat} : GOk Try.prog 27 [.s sz, .s sz] (gSS (sEqO RecsOk)) := by
  have hX : ∀ L, XOkZ (eqlV 27 L) Try.prog := fun L => noXz_ok rfl
  have hT : ∀ L, TOkZ (eqlV 27 L) Try.prog := fun L => noTz_okV rfl
  have hL : LOkZ (eqlV 27 (eqlL RecsOk Try.prog 27)) Try.prog := L_okV rfl (mkL_ok wa_spec_ok)
  have hL0 : LOkZ (eqlV 27 noL) Try.prog := noL_okV rfl
  refine gSS_ok (fun tp gr tp' ob hG ho => ?_) (fun xs n c tp gr tp' ob hG ho hf hl hc => ?_) (fun ys m d tp gr tp' ob hG ho hf hl hc => ?_) (fun xs n c ys m d tp gr tp' ob hG ho hf hl hc hf2 hl2 hc2 => ?_) <;> (
    unfold sEqO at hG
    simp only [Option.some.injEq, Prod.mk.injEq] at hG
    obtain ⟨rfl, rfl, rfl⟩ := hG
    obtain ⟨hx, h1, h2, _⟩ := ho)
  · exact ⟨_, _, _, _, fun n => n, run_tri (hX _) (hT _) hL0 wa_nn (by simp [Alls]) rfl, GrIs.flat fun σ => rfl⟩
  · subst h2
    exact ⟨_, _, _, _, fun n => n, run_tri (hX _) (hT _) hL0 (wa_sn xs c) (by simp [Alls]) rfl, GrIs.flat fun σ => rfl⟩
  · subst h2
    exact ⟨_, _, _, _, fun n => n, run_tri (hX _) (hT _) hL0 (wa_ns ys d) (by simp [Alls]) rfl, GrIs.flat fun σ => rfl⟩
  · subst h2
    subst h1
    refine ⟨_, _, _, _, fun n => n, run_tri (hX _) (hT _) hL (wa_ss ys m c d) ?_ rfl, GrIs.flat fun σ => rfl⟩
    have hne : (((m : Nat) : Int) != (m : Int)) = false := by simp
    simp only [Alls]
    repeat' (first | with_reducible exact trivial | with_reducible apply And.intro)
    all_goals first | with_reducible assumption | omega | with_reducible rfl | (rfl)
theorem wt_loop {inr : Bool} {h0 : Hp} {xs : List Value} {n c d : Nat} (hx : RecsOk xs n) (hc : n ≤ c ∧ c ≤ 9223372036854775807) (hd : n ≤ d ∧ d ≤ 9223372036854775807) : ∀ (k i : Nat), i + k = n →
    LRuns inr Try.prog (eqlC Try.prog 28) 2 2 h0 26 (eeS n c d i) [(0, ⟨.old, xs⟩), (1, ⟨.old, xs⟩)] 2 (.exit 0, [], [(0, ⟨.old, xs⟩), (1, ⟨.old, xs⟩)])
  | 0, i, hk => by
      have hX : XOkZ (eqlV 28 noL) Try.prog := noXz_ok rfl
      have hT : TOkZ (eqlV 28 noL) Try.prog := noTz_okV rfl
      have hL : LOkZ (eqlV 28 noL) Try.prog := noL_okV rfl
      have hfl : Fl xs := hx.f
      refine LRuns.exit (code_runs hX hL (runZ_ok hX hT hL mixed 5) mixed (wt_done inr xs n c d i) ?_) (by intro e; cases e) rfl (by omega) (by omega) (fun n => n) trivial ?_ rfl
      · simp only [Alls, decide_eq_false_iff_not]
        repeat' (first | with_reducible exact trivial | with_reducible apply And.intro)
        all_goals first | with_reducible assumption | omega | with_reducible rfl | (skip)
      · exact ⟨rb_old (by omega) rfl hfl, rb_old (by omega) rfl hfl, trivial⟩
  | k + 1, i, hk => by
      have hX : XOkZ (eqlV 28 noL) Try.prog := noXz_ok rfl
      have hT : TOkZ (eqlV 28 noL) Try.prog := noTz_okV rfl
      have hL : LOkZ (eqlV 28 noL) Try.prog := noL_okV rfl
      have hfl : Fl xs := hx.f
      have g3 := hx.t i (by omega)
      have hb : (!boolAt xs i == boolAt xs i) = false := by cases boolAt xs i <;> rfl
      refine LRuns.step (code_runs hX hL (runZ_ok hX hT hL mixed 5) mixed (wt_more inr xs n c d i) ?_) rfl (by omega) (by omega) (fun n => n) ?_ ?_ rfl (wt_loop hx hc hd k (i + 1) (by omega))
      · simp only [Alls, decide_eq_true_eq, rg, beq_self_eq_true, Bool.and_self, Bool.not_true, bne_self_eq_false]
        repeat' (first | with_reducible exact trivial | with_reducible apply And.intro)
        all_goals first | with_reducible assumption | omega | with_reducible rfl | (first | exact g3 | exact hb | (have := hc.2; omega))
      · exact ⟨rfl, rb_slc rfl (by unfold capBig; omega), rfl, rb_slc rfl (by unfold capBig; omega), rfl, rfl, trivial⟩
      · exact ⟨rb_old (by omega) rfl hfl, rb_old (by omega) rfl hfl, trivial⟩
theorem wt_spec_ok : LSOk Try.prog 26 [0, 1, 5] (eqlC Try.prog 28) (eqlSpec RecsOk) := by
  refine lspec_ok fun a tp xt l2 h2 nx2 d tp' ob hs ho inr ts hn hg => ?_
  obtain ⟨n, c, e, xs⟩ := a
  simp only at hs hg
  simp only [Option.some.injEq, Prod.mk.injEq] at hs
  obtain ⟨⟨rfl, rfl, rfl, rfl, rfl⟩, rfl, rfl⟩ := hs
  obtain ⟨hx, hc, hd, _⟩ := ho
  have hfl : Fl xs := hx.f
  have key := wt_loop (inr := inr) (h0 := [(0, ⟨.old, xs⟩), (1, ⟨.old, xs⟩)]) hx hc hd n 0 (by omega)
  refine LRuns.enter (l2 := eeS n c e 0) (h := [(0, ⟨.old, xs⟩), (1, ⟨.old, xs⟩)]) (h2 := [(0, ⟨.old, xs⟩), (1, ⟨.old, xs⟩)]) hn hg (Nat.le_refl 2) (by omega) (fun n => n) ?_ ⟨rb_old (by omega) rfl hfl, rb_old (by omega) rfl hfl, trivial⟩ rfl key ?_
  · exact ⟨rfl, rb_slc rfl (by unfold capBig; omega), rfl, rb_slc rfl (by unfold capBig; omega), rfl, rfl, trivial⟩
  · exact tidy_of (by omega) (fun n hn hd => rfl) rfl
theorem wt_gok {sz : Nat} : GOk Try.prog 28 [.s sz, .s sz] (gSS (sEqO RecsOk)) := by
  have hX : ∀ L, XOkZ (eqlV 28 L) Try.prog := fun L => noXz_ok rfl
  have hT : ∀ L, TOkZ (eqlV 28 L) Try.prog := fun L => noTz_okV rfl
  have hL : LOkZ (eqlV 28 (eqlL RecsOk Try.prog 28)) Try.prog := L_okV rfl (mkL_ok wt_spec_ok)
  have hL0 : LOkZ (eqlV 28 noL) Try.prog := noL_okV rfl
  refine gSS_ok (fun tp gr tp' ob hG ho => ?_) (fun xs n c tp gr tp' ob hG ho hf hl hc => ?_) (fun ys m d tp gr tp' ob hG ho hf hl hc => ?_) (fun xs n c ys m d tp gr tp' ob hG ho hf hl hc hf2 hl2 hc2 => ?_) <;> (
    unfold sEqO at hG
    simp only [Option.some.injEq, Prod.mk.injEq] at hG
    obtain ⟨rfl, rfl, rfl⟩ := hG
    obtain ⟨hx, h1, h2, _⟩ := ho)
  · exact ⟨_, _, _, _, fun n => n, run_tri (hX _) (hT _) hL0 wt_nn (by simp [Alls]) rfl, GrIs.flat fun σ => rfl⟩
  · subst h2
    exact ⟨_, _, _, _, fun n => n, run_tri (hX _) (hT _) hL0 (wt_sn xs c) (by simp [Alls]) rfl, GrIs.flat fun σ => rfl⟩
  · subst h2
    exact ⟨_, _, _, _, fun n => n, run_tri (hX _) (hT _) hL0 (wt_ns ys d) (by simp [Alls]) rfl, GrIs.flat fun σ => rfl⟩
  · subst h2
    subst h1
    refine ⟨_, _, _, _, fun n => n, run_tri (hX _) (hT _) hL (wt_ss ys m c d) ?_ rfl, GrIs.flat fun σ => rfl⟩
    have hne : (((m : Nat) : Int) != (m : Int)) = false := by simp
    simp only [Alls]
    repeat' (first | with_reducible exact trivial | with_reducible apply And.intro)
    all_goals first | with_reducible assumption | omega | with_reducible rfl | (rfl)
end Go.Proofs.Ytgpgdkpfeoaidaa
