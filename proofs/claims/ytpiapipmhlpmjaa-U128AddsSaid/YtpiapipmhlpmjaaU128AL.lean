/-
  Chapter 01: the statement U128Adds, run at any list.
-/
import Derived.Test.YtpiapipmhlpmjaaU128S
namespace Go.Proofs.Ytpiapipmhlpmjaa
set_option linter.unusedSimpArgs false
set_option linter.unusedVariables false
set_option linter.unusedSectionVars false
open Go Go.RowKit

def ualT : TFun := orTz (mkT 13 [] gTrueY) (orTz (mkT 11 [.s 2] (gS sSum)) (mkT 12 [.s 2] (gS sSum)))
def ualV (md : Nat) (L : LFun) : Tv := ⟨ualT, noXz, L, fun f => bif Nat.beq f 3 then [11, 28, 39, 42, 46] else [], allSy 3 [(14, md)], fun _ => [], fun _ => 0⟩
theorem ua_l (xs : List Value) (n c : Nat) : runZ (ualV 0 noL) Try.prog 5 3 [.slice (some ⟨0, 0, none⟩) n c] [(0, ⟨.old, xs⟩)] 1 [true] =
Res.ok
  ((Value.bool true, [((0 : Nat), Rw.mk Kd.old xs)], (1 : Nat), []), [], [decide ((↑n : Int) > (1000 : Int)) = true]) := by kernel_rfl
theorem ua_n  : runZ (ualV 4 noL) Try.prog 5 3 [.slice none 0 0] [] 1 [false, false, true, true] =
Res.ok
  ((Value.bool true, [], (4 : Nat), []), [],
    [false = false, (0 : Nat) ≤ (0 : Nat) ∧ (0 : Nat) ≤ (9223372036854775807 : Nat), (0 : Nat) ≤ (0 : Nat), Fl [],
      U64s [], (2 : Nat) ≤ (2 : Nat), U64s [], (2 : Nat) ≤ (2 : Nat), false = false,
      [Value.int IntKind.u64 (0 : Int), Value.int IntKind.u64 (0 : Int)] =
        [Value.int IntKind.u64 (0 : Int), Value.int IntKind.u64 (0 : Int)],
      [Value.int IntKind.u64 (0 : Int), Value.int IntKind.u64 (0 : Int)] =
        [Value.int IntKind.u64 (0 : Int), Value.int IntKind.u64 (0 : Int)],
      true = true, true = true]) := by kernel_rfl
theorem ua_e (xs : List Value) (c : Nat) : runZ (ualV 4 noL) Try.prog 5 3 [.slice (some ⟨0, 0, none⟩) 0 c] [(0, ⟨.old, xs⟩)] 1 [false, false, true, true] =
Res.ok
  ((Value.bool true, [((0 : Nat), Rw.mk Kd.old xs)], (4 : Nat), []), [],
    [false = false, (0 : Nat) ≤ (0 : Nat) ∧ (0 : Nat) ≤ (9223372036854775807 : Nat), (0 : Nat) ≤ (0 : Nat), Fl [],
      U64s [], (2 : Nat) ≤ (2 : Nat), (0 : Nat) ≤ c ∧ c ≤ (9223372036854775807 : Nat), (0 : Nat) ≤ List.length xs,
      Fl [], U64s [], (2 : Nat) ≤ (2 : Nat), false = false,
      [Value.int IntKind.u64 (0 : Int), Value.int IntKind.u64 (0 : Int)] =
        [Value.int IntKind.u64 (0 : Int), Value.int IntKind.u64 (0 : Int)],
      [Value.int IntKind.u64 (0 : Int), Value.int IntKind.u64 (0 : Int)] =
        [Value.int IntKind.u64 (0 : Int), Value.int IntKind.u64 (0 : Int)],
      true = true, true = true]) := by kernel_rfl
def uaB (P : Program) : Code := bodyIn P 3 7
def uaS (n m c i : Nat) (o1 o2 : Bool) : List (Nat × Value) := [(0, .slice (some ⟨0, 0, none⟩) n c), (2, .bool false), (3, .slice (some ⟨2, 0, none⟩) m (capBig + 2)), (4, .pointer (some ⟨3, 0, none⟩)), (5, .bool o1), (6, .pointer (some ⟨4, 0, none⟩)), (7, .bool o2), (8, .int .i64 (i : Int))]
def uaH (xs ys : List Value) (h1 l1 h2 l2 : Int) : Hp := [(4, sRow h2 l2), (3, sRow h1 l1), (2, ⟨.room 2 [.int .u64 0, .int .u64 0], ys⟩), (1, ⟨.shut, []⟩), (0, ⟨.old, xs⟩)]
structure UaA where
  n : Nat
  m : Nat
  c : Nat
  o1 : Bool
  o2 : Bool
  xs : List Value
  ys : List Value
  h1 : Int
  l1 : Int
  h2 : Int
  l2 : Int
def uaSpec : LSpec := lspec (fun live h => match live, h with
    | [(_, .slice _ n c), _, (_, .slice _ m _), _, (_, .bool o1), _, (_, .bool o2), _], [(_, ⟨_, [.int _ h2, .int _ l2]⟩), (_, ⟨_, [.int _ h1, .int _ l1]⟩), (_, ⟨_, ys⟩), _, (_, ⟨_, xs⟩)] => some (⟨n, m, c, o1, o2, xs, ys, h1, l1, h2, l2⟩ : UaA)
    | _, _ => none) (fun a => (uaS a.n a.m a.c 0 a.o1 a.o2, uaH a.xs a.ys a.h1 a.l1 a.h2 a.l2, 5))
  (fun a tp => some ((.exit 0, [(4, .pointer (some ⟨3, 0, none⟩)), (5, .bool a.o1), (6, .pointer (some ⟨4, 0, none⟩)), (7, .bool a.o2)], uaH a.xs a.ys a.h1 a.l1 a.h2 a.l2, 5, []), tp, [a.m = a.n, a.ys = a.xs, U64s a.xs, a.xs.length = a.n * 2, a.n ≤ a.c ∧ a.c ≤ 9223372036854775807]))
def uaL (P : Program) : LFun := mkL 3 7 51 [0, 2, 3, 4, 5, 6, 7, 8] (uaB P) uaSpec
theorem ua_more (inr : Bool) (xs : List Value) (n c i : Nat) (o1 o2 : Bool) (h1 l1 h2 l2 : Int) : prjZ [0, 2, 3, 4, 5, 6, 7, 8] (codeZ (ualV 0 noL) Try.prog (runZ (ualV 0 noL) Try.prog 5) 3 inr 100000 (uaB Try.prog) (SL 51 (uaS n n c i o1 o2)) (uaH xs xs h1 l1 h2 l2) 5 [true, false]) =
Res.ok
  ((Xt.normal, (51 : Nat),
      [((0 : Nat), Value.slice (some (Addr.mk (0 : Nat) (0 : Nat) none)) n c), ((2 : Nat), Value.bool false),
        ((3 : Nat), Value.slice (some (Addr.mk (2 : Nat) (0 : Nat) none)) n (capBig + (2 : Nat))),
        ((4 : Nat), Value.pointer (some (Addr.mk (3 : Nat) (0 : Nat) none))), ((5 : Nat), Value.bool o1),
        ((6 : Nat), Value.pointer (some (Addr.mk (4 : Nat) (0 : Nat) none))), ((7 : Nat), Value.bool o2),
        ((8 : Nat), Value.int IntKind.i64 (↑(i + (1 : Nat)) : Int))],
      [((4 : Nat), Rw.mk Kd.shut [Value.int IntKind.u64 h2, Value.int IntKind.u64 l2]),
        ((3 : Nat), Rw.mk Kd.shut [Value.int IntKind.u64 h1, Value.int IntKind.u64 l1]),
        ((2 : Nat), Rw.mk (Kd.room (2 : Nat) [Value.int IntKind.u64 (0 : Int), Value.int IntKind.u64 (0 : Int)]) xs),
        ((1 : Nat), Rw.mk Kd.shut []), ((0 : Nat), Rw.mk Kd.old xs)],
      (5 : Nat), [], []),
    [],
    [decide ((↑i : Int) < (↑n : Int)) = true, (0 : Int) ≤ (↑i : Int) ∧ (↑i : Int) < (↑n : Int),
      List.take (2 : Nat) (List.drop (i * (2 : Nat)) xs) =
        [Value.int IntKind.u64 (intAt xs (i * (2 : Nat))),
          Value.int IntKind.u64 (intAt xs (i * (2 : Nat) + (1 : Nat)))],
      (0 : Int) ≤ (↑i : Int) ∧ (↑i : Int) < (↑n : Int),
      List.take (2 : Nat) (List.drop (i * (2 : Nat)) xs) =
        [Value.int IntKind.u64 (intAt xs (i * (2 : Nat))),
          Value.int IntKind.u64 (intAt xs (i * (2 : Nat) + (1 : Nat)))],
      (!(intAt xs (i * (2 : Nat)) == intAt xs (i * (2 : Nat)) &&
            (intAt xs (i * (2 : Nat) + (1 : Nat)) == intAt xs (i * (2 : Nat) + (1 : Nat)) && true))) =
        false,
      rg IntKind.i64 (↑(i + (1 : Nat)) : Int)]) := by kernel_rfl
theorem ua_done (inr : Bool) (xs : List Value) (n c i : Nat) (o1 o2 : Bool) (h1 l1 h2 l2 : Int) : prjZ [4, 5, 6, 7] (codeZ (ualV 0 noL) Try.prog (runZ (ualV 0 noL) Try.prog 5) 3 inr 100000 (uaB Try.prog) (SL 51 (uaS n n c i o1 o2)) (uaH xs xs h1 l1 h2 l2) 5 [false]) =
Res.ok
  ((Xt.exit (0 : Nat), (51 : Nat),
      [((4 : Nat), Value.pointer (some (Addr.mk (3 : Nat) (0 : Nat) none))), ((5 : Nat), Value.bool o1),
        ((6 : Nat), Value.pointer (some (Addr.mk (4 : Nat) (0 : Nat) none))), ((7 : Nat), Value.bool o2)],
      [((4 : Nat), Rw.mk Kd.shut [Value.int IntKind.u64 h2, Value.int IntKind.u64 l2]),
        ((3 : Nat), Rw.mk Kd.shut [Value.int IntKind.u64 h1, Value.int IntKind.u64 l1]),
        ((2 : Nat), Rw.mk (Kd.room (2 : Nat) [Value.int IntKind.u64 (0 : Int), Value.int IntKind.u64 (0 : Int)]) xs),
        ((1 : Nat), Rw.mk Kd.shut []), ((0 : Nat), Rw.mk Kd.old xs)],
      (5 : Nat), [], []),
    [], [decide ((↑i : Int) < (↑n : Int)) = false]) := by kernel_rfl
theorem ua_x (xs : List Value) (n c : Nat) : runZ (ualV 2 (uaL Try.prog)) Try.prog 5 3 [.slice (some ⟨0, 0, none⟩) n c] [(0, ⟨.old, xs⟩)] 1 [false, true, true] =
Res.ok
  ((Value.bool true, [((0 : Nat), Rw.mk Kd.old xs)], (5 : Nat), []), [],
    [decide ((↑n : Int) > (1000 : Int)) = false, (0 : Nat) < (18446744073709551616 : Nat), (0 : Nat) < (0 : Nat) + n,
      (0 : Nat) ≤ (0 : Nat),
      ((0 : Nat) + n) * (16 : Nat) ≤ (140737488355328 : Nat) ∧ (0 : Nat) + n ≤ (9223372036854775807 : Nat),
      n * (2 : Nat) ≤ List.length xs, all1 (List.take (n * (2 : Nat)) xs) = true,
      capBig + (2 : Nat) = capBig + (2 : Nat),
      ((0 : Nat) + n) * (2 : Nat) ≤ List.length ([] ++ List.take (n * (2 : Nat)) xs), (0 : Nat) < (2 : Nat),
      ((0 : Nat) + n) * (2 : Nat) ≤ List.length ([] ++ List.take (n * (2 : Nat)) xs),
      Fl (List.take (((0 : Nat) + n) * (2 : Nat)) ([] ++ List.take (n * (2 : Nat)) xs)),
      U64s (List.take (((0 : Nat) + n) * (2 : Nat)) ([] ++ List.take (n * (2 : Nat)) xs)), (2 : Nat) ≤ (2 : Nat),
      n ≤ c ∧ c ≤ (9223372036854775807 : Nat), n * (2 : Nat) ≤ List.length xs, Fl (List.take (n * (2 : Nat)) xs),
      U64s (List.take (n * (2 : Nat)) xs), (2 : Nat) ≤ (2 : Nat), uaB Try.prog = uaB Try.prog,
      [((0 : Nat), Value.slice (some (Addr.mk (0 : Nat) (0 : Nat) none)) n c), ((2 : Nat), Value.bool false),
          ((3 : Nat), Value.slice (some (Addr.mk (2 : Nat) (0 : Nat) none)) ((0 : Nat) + n) (capBig + (2 : Nat))),
          ((4 : Nat), Value.pointer (some (Addr.mk (3 : Nat) (0 : Nat) none))),
          ((5 : Nat),
            Value.bool
              (smO (List.take (((0 : Nat) + n) * (2 : Nat)) ([] ++ List.take (n * (2 : Nat)) xs))
                (avLen
                  (Av.sl (List.take (((0 : Nat) + n) * (2 : Nat)) ([] ++ List.take (n * (2 : Nat)) xs))
                    ((0 : Nat) + n))))),
          ((6 : Nat), Value.pointer (some (Addr.mk (4 : Nat) (0 : Nat) none))),
          ((7 : Nat), Value.bool (smO (List.take (n * (2 : Nat)) xs) (avLen (Av.sl (List.take (n * (2 : Nat)) xs) n)))),
          ((8 : Nat), Value.int IntKind.i64 (0 : Int))] =
        uaS n ((0 : Nat) + n) c (0 : Nat)
          (smO (List.take (((0 : Nat) + n) * (2 : Nat)) ([] ++ List.take (n * (2 : Nat)) xs))
            (avLen
              (Av.sl (List.take (((0 : Nat) + n) * (2 : Nat)) ([] ++ List.take (n * (2 : Nat)) xs)) ((0 : Nat) + n))))
          (smO (List.take (n * (2 : Nat)) xs) (avLen (Av.sl (List.take (n * (2 : Nat)) xs) n))),
      setH
          (((4 : Nat), Rw.mk Kd.shut [Value.int IntKind.u64 (0 : Int), Value.int IntKind.u64 (0 : Int)]) ::
            rowsN (4 : Nat) []
              (setH
                (((3 : Nat), Rw.mk Kd.shut [Value.int IntKind.u64 (0 : Int), Value.int IntKind.u64 (0 : Int)]) ::
                  rowsN (3 : Nat) []
                    [((2 : Nat),
                        Rw.mk (Kd.room (2 : Nat) [Value.int IntKind.u64 (0 : Int), Value.int IntKind.u64 (0 : Int)])
                          ([] ++ List.take (n * (2 : Nat)) xs)),
                      ((1 : Nat), Rw.mk Kd.shut []), ((0 : Nat), Rw.mk Kd.old xs)])
                (3 : Nat)
                (Rw.mk Kd.shut
                  [Value.int IntKind.u64
                      (smH (List.take (((0 : Nat) + n) * (2 : Nat)) ([] ++ List.take (n * (2 : Nat)) xs))
                        (avLen
                          (Av.sl (List.take (((0 : Nat) + n) * (2 : Nat)) ([] ++ List.take (n * (2 : Nat)) xs))
                            ((0 : Nat) + n)))),
                    Value.int IntKind.u64
                      (smL (List.take (((0 : Nat) + n) * (2 : Nat)) ([] ++ List.take (n * (2 : Nat)) xs))
                        (avLen
                          (Av.sl (List.take (((0 : Nat) + n) * (2 : Nat)) ([] ++ List.take (n * (2 : Nat)) xs))
                            ((0 : Nat) + n))))])))
          (4 : Nat)
          (Rw.mk Kd.shut
            [Value.int IntKind.u64
                (smH (List.take (n * (2 : Nat)) xs) (avLen (Av.sl (List.take (n * (2 : Nat)) xs) n))),
              Value.int IntKind.u64
                (smL (List.take (n * (2 : Nat)) xs) (avLen (Av.sl (List.take (n * (2 : Nat)) xs) n)))]) =
        uaH xs ([] ++ List.take (n * (2 : Nat)) xs)
          (smH (List.take (((0 : Nat) + n) * (2 : Nat)) ([] ++ List.take (n * (2 : Nat)) xs))
            (avLen
              (Av.sl (List.take (((0 : Nat) + n) * (2 : Nat)) ([] ++ List.take (n * (2 : Nat)) xs)) ((0 : Nat) + n))))
          (smL (List.take (((0 : Nat) + n) * (2 : Nat)) ([] ++ List.take (n * (2 : Nat)) xs))
            (avLen
              (Av.sl (List.take (((0 : Nat) + n) * (2 : Nat)) ([] ++ List.take (n * (2 : Nat)) xs)) ((0 : Nat) + n))))
          (smH (List.take (n * (2 : Nat)) xs) (avLen (Av.sl (List.take (n * (2 : Nat)) xs) n)))
          (smL (List.take (n * (2 : Nat)) xs) (avLen (Av.sl (List.take (n * (2 : Nat)) xs) n))),
      (5 : Nat) = (5 : Nat), (0 : Nat) + n = n, [] ++ List.take (n * (2 : Nat)) xs = xs, U64s xs,
      List.length xs = n * (2 : Nat), n ≤ c ∧ c ≤ (9223372036854775807 : Nat),
      [Value.int IntKind.u64
            (smH (List.take (((0 : Nat) + n) * (2 : Nat)) ([] ++ List.take (n * (2 : Nat)) xs))
              (avLen
                (Av.sl (List.take (((0 : Nat) + n) * (2 : Nat)) ([] ++ List.take (n * (2 : Nat)) xs))
                  ((0 : Nat) + n)))),
          Value.int IntKind.u64
            (smL (List.take (((0 : Nat) + n) * (2 : Nat)) ([] ++ List.take (n * (2 : Nat)) xs))
              (avLen
                (Av.sl (List.take (((0 : Nat) + n) * (2 : Nat)) ([] ++ List.take (n * (2 : Nat)) xs))
                  ((0 : Nat) + n))))] =
        [Value.int IntKind.u64
            (smH (List.take (((0 : Nat) + n) * (2 : Nat)) ([] ++ List.take (n * (2 : Nat)) xs))
              (avLen
                (Av.sl (List.take (((0 : Nat) + n) * (2 : Nat)) ([] ++ List.take (n * (2 : Nat)) xs))
                  ((0 : Nat) + n)))),
          Value.int IntKind.u64
            (smL (List.take (((0 : Nat) + n) * (2 : Nat)) ([] ++ List.take (n * (2 : Nat)) xs))
              (avLen
                (Av.sl (List.take (((0 : Nat) + n) * (2 : Nat)) ([] ++ List.take (n * (2 : Nat)) xs))
                  ((0 : Nat) + n))))],
      [Value.int IntKind.u64 (smH (List.take (n * (2 : Nat)) xs) (avLen (Av.sl (List.take (n * (2 : Nat)) xs) n))),
          Value.int IntKind.u64 (smL (List.take (n * (2 : Nat)) xs) (avLen (Av.sl (List.take (n * (2 : Nat)) xs) n)))] =
        [Value.int IntKind.u64 (smH (List.take (n * (2 : Nat)) xs) (avLen (Av.sl (List.take (n * (2 : Nat)) xs) n))),
          Value.int IntKind.u64 (smL (List.take (n * (2 : Nat)) xs) (avLen (Av.sl (List.take (n * (2 : Nat)) xs) n)))],
      (smH (List.take (((0 : Nat) + n) * (2 : Nat)) ([] ++ List.take (n * (2 : Nat)) xs))
              (avLen
                (Av.sl (List.take (((0 : Nat) + n) * (2 : Nat)) ([] ++ List.take (n * (2 : Nat)) xs))
                  ((0 : Nat) + n))) ==
            smH (List.take (n * (2 : Nat)) xs) (avLen (Av.sl (List.take (n * (2 : Nat)) xs) n)) &&
          (smL (List.take (((0 : Nat) + n) * (2 : Nat)) ([] ++ List.take (n * (2 : Nat)) xs))
                (avLen
                  (Av.sl (List.take (((0 : Nat) + n) * (2 : Nat)) ([] ++ List.take (n * (2 : Nat)) xs))
                    ((0 : Nat) + n))) ==
              smL (List.take (n * (2 : Nat)) xs) (avLen (Av.sl (List.take (n * (2 : Nat)) xs) n)) &&
            true)) =
        true,
      (smO (List.take (((0 : Nat) + n) * (2 : Nat)) ([] ++ List.take (n * (2 : Nat)) xs))
            (avLen
              (Av.sl (List.take (((0 : Nat) + n) * (2 : Nat)) ([] ++ List.take (n * (2 : Nat)) xs)) ((0 : Nat) + n))) ==
          smO (List.take (n * (2 : Nat)) xs) (avLen (Av.sl (List.take (n * (2 : Nat)) xs) n))) =
        true]) := by kernel_rfl
theorem ualT_one : TOneZ Try.prog ualT := orTz_ok (mkT_one (gTrueY_ok awake_any)) (orTz_ok (mkT_one su_gok) (mkT_one sr_gok))
theorem ua_rows {xs : List Value} (hf : Fl xs) {h0 h1' : Hp} {N : Nat} {h1 l1 h2 l2 : Int} (h : h1' = uaH xs xs h1 l1 h2 l2) : RbL 5 5 (fun n => n) h0 h1' (uaH xs xs h1 l1 h2 l2) := by
  subst h
  exact ⟨rb_row (m := 4) rfl rfl rfl rfl (fl_sRow _ _), rb_row (m := 3) rfl rfl rfl rfl (fl_sRow _ _), rb_row (m := 2) rfl rfl rfl rfl hf, rb_row (m := 1) rfl rfl rfl rfl (Fl.of rfl), rb_old (by omega) rfl hf, trivial⟩
theorem ua_loop {inr : Bool} {h0 : Hp} {xs : List Value} {n c : Nat} {o1 o2 : Bool} {h1 l1 h2 l2 : Int} (hx : U64s xs) (hl : xs.length = n * 2) (hc : n ≤ c ∧ c ≤ 9223372036854775807) : ∀ (k i : Nat), i + k = n →
    LRuns inr Try.prog (uaB Try.prog) 5 5 h0 51 (uaS n n c i o1 o2) (uaH xs xs h1 l1 h2 l2) 5
      (.exit 0, [(4, .pointer (some ⟨3, 0, none⟩)), (5, .bool o1), (6, .pointer (some ⟨4, 0, none⟩)), (7, .bool o2)], uaH xs xs h1 l1 h2 l2)
  | 0, i, hi => by
      have hX : XOkZ (ualV 0 noL) Try.prog := noXz_ok rfl
      have hT : TOkZ (ualV 0 noL) Try.prog := T_okV rfl ualT_one
      have hL : LOkZ (ualV 0 noL) Try.prog := noL_okV rfl
      obtain rfl : i = n := by omega
      refine LRuns.exit (code_runs hX hL (runZ_ok hX hT hL mixed 5) mixed (ua_done inr xs i c i o1 o2 h1 l1 h2 l2) ?_) (by intro e; cases e) rfl (Nat.le_refl _) (by omega) (fun n => n) ?_ (ua_rows (N := 5) hx.1.fl rfl) rfl
      · simp [Alls]
      · exact ⟨rfl, rb_ptr rfl, rfl, rfl, rfl, rb_ptr rfl, rfl, rfl, trivial⟩
  | k + 1, i, hi => by
      have hX : XOkZ (ualV 0 noL) Try.prog := noXz_ok rfl
      have hT : TOkZ (ualV 0 noL) Try.prog := T_okV rfl ualT_one
      have hL : LOkZ (ualV 0 noL) Try.prog := noL_okV rfl
      have g2 := hx.take2 (o := i * 2) (by omega)
      refine LRuns.step (l2 := uaS n n c (i + 1) o1 o2) (code_runs hX hL (runZ_ok hX hT hL mixed 5) mixed (ua_more inr xs n c i o1 o2 h1 l1 h2 l2) ?_) rfl (Nat.le_refl _) (by omega) (fun n => n) ?_ (ua_rows (N := 5) hx.1.fl rfl) rfl (ua_loop hx hl hc k (i + 1) (by omega))
      · simp only [Alls, rg, adI_eq, decide_eq_true_eq]
        repeat' (first | with_reducible exact trivial | with_reducible apply And.intro)
        all_goals first | with_reducible assumption | omega | with_reducible rfl | (first | exact g2 | rfl | (simp only [beq_self_eq_true, Bool.and_self, Bool.not_true]; done))
      · exact ⟨rfl, rb_slc rfl (by unfold capBig; omega), rfl, rfl, rfl, rb_slg rfl rfl, rfl, rb_ptr rfl, rfl, rfl, rfl, rb_ptr rfl, rfl, rfl, rfl, rfl, trivial⟩
theorem ua_spec_ok : LSOk Try.prog 51 [0, 2, 3, 4, 5, 6, 7, 8] (uaB Try.prog) uaSpec := by
  refine lspec_ok fun a tp xt l2 h2 nx2 d tp' ob hs ho inr ts hn hg => ?_
  obtain ⟨n, m, c, o1, o2, xs, ys, p1, q1, p2, q2⟩ := a
  simp only [Option.some.injEq, Prod.mk.injEq] at hs hg
  obtain ⟨⟨rfl, rfl, rfl, rfl, rfl⟩, rfl, rfl⟩ := hs
  obtain ⟨hm, hy, hx, hl, hc, _⟩ := ho
  subst hm hy
  refine LRuns.enter (l2 := uaS m m c 0 o1 o2) hn hg (Nat.le_refl 5) (by omega) (fun n => n) ?_ (ua_rows (N := 5) hx.1.fl rfl) rfl (ua_loop hx hl hc m 0 (by omega)) ?_
  · exact ⟨rfl, rb_slc rfl (by unfold capBig; omega), rfl, rfl, rfl, rb_slg rfl rfl, rfl, rb_ptr rfl, rfl, rfl, rfl, rb_ptr rfl, rfl, rfl, rfl, rfl, trivial⟩
  · exact tidy_of (by omega) (fun n hn hd => rfl) rfl
theorem all1_map {k : IntKind} : ∀ l : List Int, all1 (l.map (Value.int k)) = true
  | [] => rfl
  | x :: l => by simp only [List.map_cons, all1, all1_map l]; rfl
theorem Ints.all1 {k : IntKind} {xs : List Value} (h : Ints k xs) : all1 xs = true := by rw [h]; exact all1_map _
theorem adds_run {xs : List Value} {n c : Nat} (hx : U64s xs) (hl : xs.length = n * 2) (hc : n ≤ c ∧ c ≤ 9223372036854775807) : RunsTrue Try.prog 3 [.slice (some ⟨0, 0, none⟩) n c] [(0, ⟨.old, xs⟩)] 1 := by
  have hX : ∀ md L, XOkZ (ualV md L) Try.prog := fun md L => noXz_ok rfl
  have hT : ∀ md L, TOkZ (ualV md L) Try.prog := fun md L => T_okV rfl ualT_one
  have hL0 : ∀ md, LOkZ (ualV md noL) Try.prog := fun md => noL_okV rfl
  have hL : ∀ md, LOkZ (ualV md (uaL Try.prog)) Try.prog := fun md => L_okV rfl (mkL_ok ua_spec_ok)
  have ex1 : xs.take (n * 2) = xs := take_len hl
  have f1 := hx.1.fl
  have a1 := hx.1.all1
  by_cases h1 : n ≤ 1000
  case neg =>
    refine ⟨_, _, _, run_tri (hX _ _) (hT _ _) (hL0 _) (ua_l xs n c) ?_ rfl⟩
    simp only [Alls, decide_eq_true_eq]
    repeat' (first | with_reducible exact trivial | with_reducible apply And.intro)
    all_goals first | with_reducible assumption | omega | with_reducible rfl | (skip)
  have g1 : decide ((n : Int) > 1000) = false := by simp only [decide_eq_false_iff_not]; omega
  by_cases k0 : n = 0
  · subst k0
    obtain rfl : xs = [] := List.eq_nil_of_length_eq_zero (by omega)
    refine ⟨_, _, _, run_tri (hX _ _) (hT _ _) (hL0 _) (ua_e [] c) ?_ rfl⟩
    simp only [Alls]
    repeat' (first | with_reducible exact trivial | with_reducible apply And.intro)
    all_goals first | with_reducible assumption | omega | with_reducible rfl | (first | exact hx | rfl)
  · refine ⟨_, _, _, run_tri (hX _ _) (hT _ _) (hL _) (ua_x xs n c) ?_ rfl⟩
    simp only [Alls, avLen, Nat.zero_add, List.nil_append, ex1]
    repeat' (first | with_reducible exact trivial | with_reducible apply And.intro)
    all_goals first | with_reducible assumption | omega | with_reducible rfl | (first | exact hx | exact f1 | exact a1 | rfl | (simp only [beq_self_eq_true, Bool.and_self]; done))
theorem adds_run_n : RunsTrue Try.prog 3 [.slice none 0 0] [] 1 := by
  have hX : XOkZ (ualV 4 noL) Try.prog := noXz_ok rfl
  have hT : TOkZ (ualV 4 noL) Try.prog := T_okV rfl ualT_one
  have hL : LOkZ (ualV 4 noL) Try.prog := noL_okV rfl
  have hx : U64s [] := ⟨Ints.of (l := []), fun i hi => by simp at hi⟩
  refine ⟨_, _, _, run_tri hX hT hL ua_n ?_ rfl⟩
  simp only [Alls]
  repeat' (first | with_reducible exact trivial | with_reducible apply And.intro)
  all_goals first | with_reducible assumption | omega | with_reducible rfl | (first | exact hx | exact Fl.of rfl | rfl)
theorem adds_any {W : World} {v0 : Value} {a0 : Av} {q0 : Option (Addr × Nat)} {z0 : List (List Int)} (h0 : (a0 = .fl (.slice none 0 0) ∧ z0 = []) ∨ a0 = .sl (z0.map (cellsK [.u64, .u64])).flatten z0.length)
    (A0 : AvAt a0 v0 q0) (L0 : Lies W a0 q0) (w0 : ∀ zs ∈ z0, AllWf [.u64, .u64] zs) :
    Calls Try.prog 3 #[v0] W fun e w' => e = .returned (.bool true) ∧ Ext W w' := by
  have b0 : U64s (z0.map (cellsK [.u64, .u64])).flatten := by
    obtain ⟨l, e, hw⟩ := flat_rep (m := 2) (k := .u64) w0
    rw [show [IntKind.u64, IntKind.u64] = List.replicate 2 .u64 from rfl, e]
    refine ⟨Ints.of, fun i hi => ?_⟩
    have hi' : i < l.length := by simpa using hi
    have e : intAt (l.map (Value.int .u64)) i = l[i] := by unfold intAt; rw [List.getElem?_map, List.getElem?_eq_getElem hi']; rfl
    rw [e]
    have := hw _ (List.getElem_mem hi')
    simp [Lit.wf, IntKind.min, IntKind.max, IntKind.signed, IntKind.bits] at this
    unfold wf64; omega
  have l0 : ((z0.map (cellsK [.u64, .u64])).flatten).length = z0.length * 2 := flat_len w0
  refine calls_sl (avs := [a0]) (vs := [v0]) (ps := [q0]) ⟨A0, trivial⟩ ⟨L0, trivial⟩ (fun σ => rfl) fun cs hcs => ?_
  obtain ⟨c, rfl⟩ := caps1 hcs
  rcases h0 with ⟨rfl, rfl⟩ | rfl
  · exact adds_run_n
  · exact adds_run b0 l0 hcs.1
end Go.Proofs.Ytpiapipmhlpmjaa
