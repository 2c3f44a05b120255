/-
  Chapter 23: message.Check, the code from its regions 21, 14, 9 and 4 on: what is run.
-/
import Derived.Test.YtcmcelilollchaaMszB
import Derived.Test.YtcmcelilollchaaKitT
namespace Go.Proofs.Ytcmcelilollchaa
set_option linter.unusedSimpArgs false
set_option linter.unusedVariables false
set_option linter.unusedSectionVars false
open Go Go.RowKit

/-- A run, as far as its slots go. -/
def prjT (ks : List Nat) : Res (St5 × Tape × List Prop) → Res ((Xt × Nat × List (Nat × Value) × Nat × List Nat) × Tape × List Prop)
  | .ok ((x, ts, _, nx, _, ms), tp, ob) => match getS ks ts with
    | some l => .ok ((x, ts.n, l, nx, ms), tp, ob)
    | none => .no
  | .ask b => .ask b
  | .no => .no
theorem code_runsT {V : Tv} {P : Program} {call : CallZ} (hX : XOkZ V P) (hL : LOkZ V P) (hC : COkZ P call) (hm : P.follows .mixedOrders = true) {fid : FuncId} {inr : Bool} {ks : List Nat} {c : Code} {ts : Tm} {h : Hp} {nx : Nat} {tp tp' : Tape} {x : Xt} {n : Nat} {l : List (Nat × Value)} {nx1 : Nat} {ms : List Nat} {ob : List Prop}
    (hr : prjT ks (codeZ V P call fid inr 100000 c ts h nx tp) = .ok ((x, n, l, nx1, ms), tp', ob)) (ho : Alls ob) : ∃ h1 d1, RunsL inr (fun F m Q => c.wpIn F m P Q) ts h nx (x, n, l, h1, nx1, d1, ms) := by
  unfold prjT at hr
  split at hr
  · rename_i x1 ts1 h1 nx2 d ms1 tp1 ob1 hc
    split at hr
    · rename_i l1 hl
      simp only [Res.ok.injEq, Prod.mk.injEq] at hr
      obtain ⟨⟨rfl, rfl, rfl, rfl, rfl⟩, rfl, rfl⟩ := hr
      exact ⟨_, _, ((codeZ_ok hX hL hC hm 100000).1 _ _ _ _ _ _ _ _ hc ho).proj hl⟩
    · cases hr
  · cases hr
  · cases hr
theorem tail_ofE {P : Program} {x : Code} {M N n : Nat} {l : List (Nat × Value)} {hC : Hp} {nx1 : Nat} {xt : Xt} {k : Nat} {v : Value} (hrun : ∀ inr, ∃ h1 d1, RunsL inr (fun F m Q => x.wpIn F m P Q) (SL n l) hC N (xt, n, [(k, v)], h1, nx1, d1, [])) (hB : bdB hC N = true) (hM : nx1 ≤ M) (hv : ∀ σ, renV σ v = some v) : TailAt P x M n l hC N (xt, [(k, v)]) :=
  fun inr lo h0 hlo => by
    obtain ⟨h1, d1, hr⟩ := hrun inr
    exact CRuns.of hr hB hlo hM (fun n => n) ⟨rfl, hv _, trivial⟩ trivial rfl
def ckT : TFun := orTz (mkT 31 [.f] gOwn) (orTz (mkT 33 [.f, .s 1] gBod) msgT)
def ckV (L : LFun) : Tv := ⟨ckT, noXz, L, fun f => bif Nat.beq f 18 then [16, 21, 26, 34, 65, 72, 77, 83, 88, 99, 103, 110, 115, 119, 126, 133] else [], lsSy 18 [(19, 0), (32, 0), (38, 0), (73, 0), (74, 0), (75, 0), (81, 0), (91, 0), (94, 0), (95, 0), (100, 0), (101, 0), (108, 0), (113, 0), (116, 0), (117, 0), (122, 0)], fun _ => [], fun _ => 0⟩
def ckC (P : Program) (k : Nat) : Code := tailIn P 18 k
def hdF (f : Nat → Int) : List Value := hdV (f 0) (f 1) (f 2) (f 3) (f 4) (f 5) (f 6) (f 7) (f 8) (f 9) (f 10) (f 11) (f 12) (f 13) (f 14) (f 15)
def ckS (o : Bool) : List (Nat × Value) := [(1, .pointer (some ⟨1, 0, none⟩)), (3, .pointer (some ⟨2, 0, none⟩)), (5, .bool o)]
def ckH (f : Nat → Int) (a : Sa) : Hp := (2, ⟨.shut, hdF f⟩) :: (1, ⟨.shut, hdF f ++ [saV 0 a]⟩) :: saH 0 a []
theorem c21_f (inr : Bool) (f : Nat → Int) (a : Sa) : prjT [2] (codeZ (ckV noL) Try.prog (runZ (ckV noL) Try.prog 5) 18 inr 100000 (ckC Try.prog 21) (SL 134 (ckS false)) (ckH f a) 40 [true, true]) =
Res.ok
  ((Xt.ret, (134 : Nat), [((2 : Nat), Value.int IntKind.i64 (2 : Int))], (40 : Nat), []), [],
    [true = true, true = true]) := by kernel_rfl
theorem c21_bn (inr : Bool) (f : Nat → Int) (n c : Nat) (xs : List Value) : prjT [2] (codeZ (ckV noL) Try.prog (runZ (ckV noL) Try.prog 5) 18 inr 100000 (ckC Try.prog 21) (SL 134 (ckS true)) (ckH f ⟨true, n, c, xs⟩) 40 [false, true]) =
Res.ok
  ((Xt.ret, (134 : Nat), [((2 : Nat), Value.int IntKind.i64 (2 : Int))], (40 : Nat), []), [],
    [false = false, n ≤ c ∧ c ≤ (9223372036854775807 : Nat), n ≤ List.length xs, Fl (List.take n xs),
      Byts (List.take n xs), avLen (Av.sl (List.take n xs) n) ≤ (4096 : Nat),
      (bif false then true else !bodB (f (0 : Nat)) (List.take n xs) (avLen (Av.sl (List.take n xs) n))) = true]) := by kernel_rfl
theorem c21_by (inr : Bool) (f : Nat → Int) (n c : Nat) (xs : List Value) : prjT [2] (codeZ (ckV noL) Try.prog (runZ (ckV noL) Try.prog 5) 18 inr 100000 (ckC Try.prog 21) (SL 134 (ckS true)) (ckH f ⟨true, n, c, xs⟩) 40 [false, false]) =
Res.ok
  ((Xt.ret, (134 : Nat), [((2 : Nat), Value.int IntKind.i64 (0 : Int))], (40 : Nat), []), [],
    [false = false, n ≤ c ∧ c ≤ (9223372036854775807 : Nat), n ≤ List.length xs, Fl (List.take n xs),
      Byts (List.take n xs), avLen (Av.sl (List.take n xs) n) ≤ (4096 : Nat),
      (bif false then true else !bodB (f (0 : Nat)) (List.take n xs) (avLen (Av.sl (List.take n xs) n))) = false]) := by kernel_rfl
theorem c21_nn (inr : Bool) (f : Nat → Int) : prjT [2] (codeZ (ckV noL) Try.prog (runZ (ckV noL) Try.prog 5) 18 inr 100000 (ckC Try.prog 21) (SL 134 (ckS true)) (ckH f ⟨false, 0, 0, []⟩) 40 [false, true]) =
Res.ok
  ((Xt.ret, (134 : Nat), [((2 : Nat), Value.int IntKind.i64 (2 : Int))], (40 : Nat), []), [],
    [false = false, Byts [], (0 : Nat) ≤ (4096 : Nat),
      (bif false then true else !bodB (f (0 : Nat)) [] (0 : Nat)) = true]) := by kernel_rfl
theorem c21_ny (inr : Bool) (f : Nat → Int) : prjT [2] (codeZ (ckV noL) Try.prog (runZ (ckV noL) Try.prog 5) 18 inr 100000 (ckC Try.prog 21) (SL 134 (ckS true)) (ckH f ⟨false, 0, 0, []⟩) 40 [false, false]) =
Res.ok
  ((Xt.ret, (134 : Nat), [((2 : Nat), Value.int IntKind.i64 (0 : Int))], (40 : Nat), []), [],
    [false = false, Byts [], (0 : Nat) ≤ (4096 : Nat),
      (bif false then true else !bodB (f (0 : Nat)) [] (0 : Nat)) = false]) := by kernel_rfl
/-- A list that comes in, as it lies. -/
def unSa (v : Value) (h : Hp) : Sa := match pkA 0 v h with | some a => a | none => ⟨false, 0, 0, []⟩
theorem unSa_eq {a : Sa} {h : Hp} (hr : rowAt h 0 a) (hz : a.b = false → a.n = 0 ∧ a.c = 0 ∧ a.xs = []) : unSa (saV 0 a) h = a := by
  obtain ⟨b, n, c, xs⟩ := a
  cases b with
  | false =>
    obtain ⟨h1, h2, h3⟩ := hz rfl
    simp only at h1 h2 h3
    subst h1; subst h2; subst h3
    rfl
  | true =>
    have := hr rfl
    simp only [unSa, saV, cond_true, pkA, this]
def ckP (live : List (Nat × Value)) (h : Hp) : Option ((Nat → Int) × Sa × Bool) := match live with
  | [(_, _), (_, _), (_, .bool o)] => (match lk h 1, lk h 2 with
    | some m, some r => (match m.cs[16]? with
      | some v => some (intAt r.cs, unSa v h, o)
      | none => none)
    | _, _ => none)
  | _ => none
structure CkOk (f : Nat → Int) (a : Sa) (h : Hp) : Prop where
  m : lk h 1 = some ⟨.shut, hdF f ++ [saV 0 a]⟩
  hh : lk h 2 = some ⟨.shut, hdF f⟩
  r : rowAt h 0 a
  o : SaOk Byts 1 4096 a
def ckA (f : Nat → Int) (a : Sa) (h : Hp) : List Prop := [CkOk f a h]
def ckO (b : Bool) : List (Nat × Value) := [(2, .int .i64 (bif b then 0 else 2))]
/-- A tail's law; what it hands back hangs on what it is given. -/
def tlSpecO {α : Type} (pick : List (Nat × Value) → Hp → Option α) (S : α → List (Nat × Value)) (rw : α → Hp → List Prop) (N M : Nat) (out : α → List (Nat × Value)) : LSpec := fun live h nx tp => match pick live h with
  | some a => some ((.ret, out a, oldsH h, M, garH h), tp, (live = S a) :: (3 ≤ nx ∧ nx ≤ N) :: rw a h)
  | none => none
theorem tlSpecO_ok {P : Program} {n : Nat} {ks : List Nat} {body : Code} {α : Type} {pick : List (Nat × Value) → Hp → Option α} {S : α → List (Nat × Value)} {rw : α → Hp → List Prop} {N M : Nat} {out : α → List (Nat × Value)}
    (H : ∀ a h nx, 3 ≤ nx → nx ≤ N → Alls (rw a h) → ∃ hC, TailAt P body M n (S a) hC N (.ret, out a) ∧ RbT (sgf nx N fun n => n) (S a) (S a) ∧ RbL nx N (fun n => n) h h hC ∧ injN nx N (fun n => n) hC = true) (hNM : N ≤ M) : SSOk P n ks body (tlSpecO pick S rw N M out) := by
  intro live h nx tp xt l2 h2 nx2 d tp' ob hs ho inr ts hn hg
  unfold tlSpecO at hs
  split at hs
  case h_2 => cases hs
  rename_i a ha
  simp only [Option.some.injEq, Prod.mk.injEq] at hs
  obtain ⟨⟨rfl, rfl, rfl, rfl, rfl⟩, rfl, rfl⟩ := hs
  obtain ⟨rfl, ⟨h3, hN⟩, ho⟩ := ho
  obtain ⟨hC, T, hT, hH, hI⟩ := H a h nx h3 hN ho
  exact T.runs hn hg hN hNM hT hH hI
/-! ### what is told -/
def wB (n lo hi : Int) : Bool := decide (n ≥ lo) && decide (n ≤ hi)
def k21 (f : Nat → Int) (a : Sa) (o : Bool) : Bool := o && bodB (f 0) a.xs a.n
def c14 (f : Nat → Int) : Bool := bif (f 0 == 2) || (f 0 == 4) then decide (f 6 ≤ f 3) && decide (f 5 ≥ 1) else bif (f 0 == 5) || (f 0 == 11) then decide (f 5 ≥ 1) else true
def ck21L (P : Program) : LFun := mkS 18 21 134 [1, 3, 5] (ckC P 21) (tlSpecO ckP (fun a => ckS a.2.2) (fun a => ckA a.1 a.2.1) 40 60 (fun a => ckO (k21 a.1 a.2.1 a.2.2)))
theorem c14_2f (inr : Bool) (f : Nat → Int) (a : Sa) : prjT [2] (codeZ (ckV (ck21L Try.prog)) Try.prog (runZ (ckV (ck21L Try.prog)) Try.prog 5) 18 inr 100000 (ckC Try.prog 14) (SL 134 (ckS false)) (ckH f a) 30 [true, false, false]) =
Res.ok
  ((Xt.ret, (134 : Nat), [((2 : Nat), Value.int IntKind.i64 (2 : Int))], (60 : Nat), []), [],
    [(f (0 : Nat) == (2 : Int)) = true, false = false, false = false, ckC Try.prog (21 : Nat) = ckC Try.prog (21 : Nat),
      [((1 : Nat), Value.pointer (some (Addr.mk (1 : Nat) (0 : Nat) none))),
          ((3 : Nat), Value.pointer (some (Addr.mk (2 : Nat) (0 : Nat) none))), ((5 : Nat), Value.bool false)] =
        ckS false,
      (3 : Nat) ≤ (30 : Nat) ∧ (30 : Nat) ≤ (40 : Nat),
      CkOk
        (intAt
          [Value.int IntKind.i64 (f (0 : Nat)), Value.int IntKind.i64 (f (1 : Nat)),
            Value.int IntKind.i64 (f (2 : Nat)), Value.int IntKind.i64 (f (3 : Nat)),
            Value.int IntKind.i64 (f (4 : Nat)), Value.int IntKind.i64 (f (5 : Nat)),
            Value.int IntKind.i64 (f (6 : Nat)), Value.int IntKind.i64 (f (7 : Nat)),
            Value.int IntKind.i64 (f (8 : Nat)), Value.int IntKind.u64 (f (9 : Nat)),
            Value.int IntKind.u64 (f (10 : Nat)), Value.int IntKind.i64 (f (11 : Nat)),
            Value.int IntKind.i64 (f (12 : Nat)), Value.int IntKind.u64 (f (13 : Nat)),
            Value.int IntKind.i64 (f (14 : Nat)), Value.int IntKind.i64 (f (15 : Nat))])
        (unSa (saV (0 : Nat) a) (ckH f a)) (ckH f a)]) := by kernel_rfl
theorem c14_2p (inr : Bool) (f : Nat → Int) (a : Sa) : prjT [2] (codeZ (ckV (ck21L Try.prog)) Try.prog (runZ (ckV (ck21L Try.prog)) Try.prog 5) 18 inr 100000 (ckC Try.prog 14) (SL 134 (ckS true)) (ckH f a) 30 [true, true, false]) =
Res.ok
  ((Xt.ret, (134 : Nat), [((2 : Nat), Value.int IntKind.i64 (2 : Int))], (60 : Nat), []), [],
    [(f (0 : Nat) == (2 : Int)) = true, true = true,
      (bif true then decide (f (6 : Nat) ≤ f (3 : Nat)) else false) = false,
      ckC Try.prog (21 : Nat) = ckC Try.prog (21 : Nat),
      [((1 : Nat), Value.pointer (some (Addr.mk (1 : Nat) (0 : Nat) none))),
          ((3 : Nat), Value.pointer (some (Addr.mk (2 : Nat) (0 : Nat) none))), ((5 : Nat), Value.bool false)] =
        ckS false,
      (3 : Nat) ≤ (30 : Nat) ∧ (30 : Nat) ≤ (40 : Nat),
      CkOk
        (intAt
          [Value.int IntKind.i64 (f (0 : Nat)), Value.int IntKind.i64 (f (1 : Nat)),
            Value.int IntKind.i64 (f (2 : Nat)), Value.int IntKind.i64 (f (3 : Nat)),
            Value.int IntKind.i64 (f (4 : Nat)), Value.int IntKind.i64 (f (5 : Nat)),
            Value.int IntKind.i64 (f (6 : Nat)), Value.int IntKind.i64 (f (7 : Nat)),
            Value.int IntKind.i64 (f (8 : Nat)), Value.int IntKind.u64 (f (9 : Nat)),
            Value.int IntKind.u64 (f (10 : Nat)), Value.int IntKind.i64 (f (11 : Nat)),
            Value.int IntKind.i64 (f (12 : Nat)), Value.int IntKind.u64 (f (13 : Nat)),
            Value.int IntKind.i64 (f (14 : Nat)), Value.int IntKind.i64 (f (15 : Nat))])
        (unSa (saV (0 : Nat) a) (ckH f a)) (ckH f a)]) := by kernel_rfl
theorem c14_2t (inr : Bool) (f : Nat → Int) (a : Sa) : prjT [2] (codeZ (ckV (ck21L Try.prog)) Try.prog (runZ (ckV (ck21L Try.prog)) Try.prog 5) 18 inr 100000 (ckC Try.prog 14) (SL 134 (ckS true)) (ckH f a) 30 [true, true, true]) =
Res.ok
  ((Xt.ret, (134 : Nat),
      [((2 : Nat),
          Value.int IntKind.i64
            (bif
                k21
                  (intAt
                    [Value.int IntKind.i64 (f (0 : Nat)), Value.int IntKind.i64 (f (1 : Nat)),
                      Value.int IntKind.i64 (f (2 : Nat)), Value.int IntKind.i64 (f (3 : Nat)),
                      Value.int IntKind.i64 (f (4 : Nat)), Value.int IntKind.i64 (f (5 : Nat)),
                      Value.int IntKind.i64 (f (6 : Nat)), Value.int IntKind.i64 (f (7 : Nat)),
                      Value.int IntKind.i64 (f (8 : Nat)), Value.int IntKind.u64 (f (9 : Nat)),
                      Value.int IntKind.u64 (f (10 : Nat)), Value.int IntKind.i64 (f (11 : Nat)),
                      Value.int IntKind.i64 (f (12 : Nat)), Value.int IntKind.u64 (f (13 : Nat)),
                      Value.int IntKind.i64 (f (14 : Nat)), Value.int IntKind.i64 (f (15 : Nat))])
                  (unSa (saV (0 : Nat) a) (ckH f a)) (bif true then decide (f (5 : Nat) ≥ (1 : Int)) else false) then
              (0 : Int)
            else (2 : Int)))],
      (60 : Nat), []),
    [],
    [(f (0 : Nat) == (2 : Int)) = true, true = true,
      (bif true then decide (f (6 : Nat) ≤ f (3 : Nat)) else false) = true,
      ckC Try.prog (21 : Nat) = ckC Try.prog (21 : Nat),
      [((1 : Nat), Value.pointer (some (Addr.mk (1 : Nat) (0 : Nat) none))),
          ((3 : Nat), Value.pointer (some (Addr.mk (2 : Nat) (0 : Nat) none))),
          ((5 : Nat), Value.bool (bif true then decide (f (5 : Nat) ≥ (1 : Int)) else false))] =
        ckS (bif true then decide (f (5 : Nat) ≥ (1 : Int)) else false),
      (3 : Nat) ≤ (30 : Nat) ∧ (30 : Nat) ≤ (40 : Nat),
      CkOk
        (intAt
          [Value.int IntKind.i64 (f (0 : Nat)), Value.int IntKind.i64 (f (1 : Nat)),
            Value.int IntKind.i64 (f (2 : Nat)), Value.int IntKind.i64 (f (3 : Nat)),
            Value.int IntKind.i64 (f (4 : Nat)), Value.int IntKind.i64 (f (5 : Nat)),
            Value.int IntKind.i64 (f (6 : Nat)), Value.int IntKind.i64 (f (7 : Nat)),
            Value.int IntKind.i64 (f (8 : Nat)), Value.int IntKind.u64 (f (9 : Nat)),
            Value.int IntKind.u64 (f (10 : Nat)), Value.int IntKind.i64 (f (11 : Nat)),
            Value.int IntKind.i64 (f (12 : Nat)), Value.int IntKind.u64 (f (13 : Nat)),
            Value.int IntKind.i64 (f (14 : Nat)), Value.int IntKind.i64 (f (15 : Nat))])
        (unSa (saV (0 : Nat) a) (ckH f a)) (ckH f a)]) := by kernel_rfl
theorem c14_4f (inr : Bool) (f : Nat → Int) (a : Sa) : prjT [2] (codeZ (ckV (ck21L Try.prog)) Try.prog (runZ (ckV (ck21L Try.prog)) Try.prog 5) 18 inr 100000 (ckC Try.prog 14) (SL 134 (ckS false)) (ckH f a) 30 [false, true, false, false]) =
Res.ok
  ((Xt.ret, (134 : Nat), [((2 : Nat), Value.int IntKind.i64 (2 : Int))], (60 : Nat), []), [],
    [(f (0 : Nat) == (2 : Int)) = false, (f (0 : Nat) == (4 : Int)) = true, false = false, false = false,
      ckC Try.prog (21 : Nat) = ckC Try.prog (21 : Nat),
      [((1 : Nat), Value.pointer (some (Addr.mk (1 : Nat) (0 : Nat) none))),
          ((3 : Nat), Value.pointer (some (Addr.mk (2 : Nat) (0 : Nat) none))), ((5 : Nat), Value.bool false)] =
        ckS false,
      (3 : Nat) ≤ (30 : Nat) ∧ (30 : Nat) ≤ (40 : Nat),
      CkOk
        (intAt
          [Value.int IntKind.i64 (f (0 : Nat)), Value.int IntKind.i64 (f (1 : Nat)),
            Value.int IntKind.i64 (f (2 : Nat)), Value.int IntKind.i64 (f (3 : Nat)),
            Value.int IntKind.i64 (f (4 : Nat)), Value.int IntKind.i64 (f (5 : Nat)),
            Value.int IntKind.i64 (f (6 : Nat)), Value.int IntKind.i64 (f (7 : Nat)),
            Value.int IntKind.i64 (f (8 : Nat)), Value.int IntKind.u64 (f (9 : Nat)),
            Value.int IntKind.u64 (f (10 : Nat)), Value.int IntKind.i64 (f (11 : Nat)),
            Value.int IntKind.i64 (f (12 : Nat)), Value.int IntKind.u64 (f (13 : Nat)),
            Value.int IntKind.i64 (f (14 : Nat)), Value.int IntKind.i64 (f (15 : Nat))])
        (unSa (saV (0 : Nat) a) (ckH f a)) (ckH f a)]) := by kernel_rfl
theorem c14_4p (inr : Bool) (f : Nat → Int) (a : Sa) : prjT [2] (codeZ (ckV (ck21L Try.prog)) Try.prog (runZ (ckV (ck21L Try.prog)) Try.prog 5) 18 inr 100000 (ckC Try.prog 14) (SL 134 (ckS true)) (ckH f a) 30 [false, true, true, false]) =
Res.ok
  ((Xt.ret, (134 : Nat), [((2 : Nat), Value.int IntKind.i64 (2 : Int))], (60 : Nat), []), [],
    [(f (0 : Nat) == (2 : Int)) = false, (f (0 : Nat) == (4 : Int)) = true, true = true,
      (bif true then decide (f (6 : Nat) ≤ f (3 : Nat)) else false) = false,
      ckC Try.prog (21 : Nat) = ckC Try.prog (21 : Nat),
      [((1 : Nat), Value.pointer (some (Addr.mk (1 : Nat) (0 : Nat) none))),
          ((3 : Nat), Value.pointer (some (Addr.mk (2 : Nat) (0 : Nat) none))), ((5 : Nat), Value.bool false)] =
        ckS false,
      (3 : Nat) ≤ (30 : Nat) ∧ (30 : Nat) ≤ (40 : Nat),
      CkOk
        (intAt
          [Value.int IntKind.i64 (f (0 : Nat)), Value.int IntKind.i64 (f (1 : Nat)),
            Value.int IntKind.i64 (f (2 : Nat)), Value.int IntKind.i64 (f (3 : Nat)),
            Value.int IntKind.i64 (f (4 : Nat)), Value.int IntKind.i64 (f (5 : Nat)),
            Value.int IntKind.i64 (f (6 : Nat)), Value.int IntKind.i64 (f (7 : Nat)),
            Value.int IntKind.i64 (f (8 : Nat)), Value.int IntKind.u64 (f (9 : Nat)),
            Value.int IntKind.u64 (f (10 : Nat)), Value.int IntKind.i64 (f (11 : Nat)),
            Value.int IntKind.i64 (f (12 : Nat)), Value.int IntKind.u64 (f (13 : Nat)),
            Value.int IntKind.i64 (f (14 : Nat)), Value.int IntKind.i64 (f (15 : Nat))])
        (unSa (saV (0 : Nat) a) (ckH f a)) (ckH f a)]) := by kernel_rfl
theorem c14_4t (inr : Bool) (f : Nat → Int) (a : Sa) : prjT [2] (codeZ (ckV (ck21L Try.prog)) Try.prog (runZ (ckV (ck21L Try.prog)) Try.prog 5) 18 inr 100000 (ckC Try.prog 14) (SL 134 (ckS true)) (ckH f a) 30 [false, true, true, true]) =
Res.ok
  ((Xt.ret, (134 : Nat),
      [((2 : Nat),
          Value.int IntKind.i64
            (bif
                k21
                  (intAt
                    [Value.int IntKind.i64 (f (0 : Nat)), Value.int IntKind.i64 (f (1 : Nat)),
                      Value.int IntKind.i64 (f (2 : Nat)), Value.int IntKind.i64 (f (3 : Nat)),
                      Value.int IntKind.i64 (f (4 : Nat)), Value.int IntKind.i64 (f (5 : Nat)),
                      Value.int IntKind.i64 (f (6 : Nat)), Value.int IntKind.i64 (f (7 : Nat)),
                      Value.int IntKind.i64 (f (8 : Nat)), Value.int IntKind.u64 (f (9 : Nat)),
                      Value.int IntKind.u64 (f (10 : Nat)), Value.int IntKind.i64 (f (11 : Nat)),
                      Value.int IntKind.i64 (f (12 : Nat)), Value.int IntKind.u64 (f (13 : Nat)),
                      Value.int IntKind.i64 (f (14 : Nat)), Value.int IntKind.i64 (f (15 : Nat))])
                  (unSa (saV (0 : Nat) a) (ckH f a)) (bif true then decide (f (5 : Nat) ≥ (1 : Int)) else false) then
              (0 : Int)
            else (2 : Int)))],
      (60 : Nat), []),
    [],
    [(f (0 : Nat) == (2 : Int)) = false, (f (0 : Nat) == (4 : Int)) = true, true = true,
      (bif true then decide (f (6 : Nat) ≤ f (3 : Nat)) else false) = true,
      ckC Try.prog (21 : Nat) = ckC Try.prog (21 : Nat),
      [((1 : Nat), Value.pointer (some (Addr.mk (1 : Nat) (0 : Nat) none))),
          ((3 : Nat), Value.pointer (some (Addr.mk (2 : Nat) (0 : Nat) none))),
          ((5 : Nat), Value.bool (bif true then decide (f (5 : Nat) ≥ (1 : Int)) else false))] =
        ckS (bif true then decide (f (5 : Nat) ≥ (1 : Int)) else false),
      (3 : Nat) ≤ (30 : Nat) ∧ (30 : Nat) ≤ (40 : Nat),
      CkOk
        (intAt
          [Value.int IntKind.i64 (f (0 : Nat)), Value.int IntKind.i64 (f (1 : Nat)),
            Value.int IntKind.i64 (f (2 : Nat)), Value.int IntKind.i64 (f (3 : Nat)),
            Value.int IntKind.i64 (f (4 : Nat)), Value.int IntKind.i64 (f (5 : Nat)),
            Value.int IntKind.i64 (f (6 : Nat)), Value.int IntKind.i64 (f (7 : Nat)),
            Value.int IntKind.i64 (f (8 : Nat)), Value.int IntKind.u64 (f (9 : Nat)),
            Value.int IntKind.u64 (f (10 : Nat)), Value.int IntKind.i64 (f (11 : Nat)),
            Value.int IntKind.i64 (f (12 : Nat)), Value.int IntKind.u64 (f (13 : Nat)),
            Value.int IntKind.i64 (f (14 : Nat)), Value.int IntKind.i64 (f (15 : Nat))])
        (unSa (saV (0 : Nat) a) (ckH f a)) (ckH f a)]) := by kernel_rfl
theorem c14_5f (inr : Bool) (f : Nat → Int) (a : Sa) : prjT [2] (codeZ (ckV (ck21L Try.prog)) Try.prog (runZ (ckV (ck21L Try.prog)) Try.prog 5) 18 inr 100000 (ckC Try.prog 14) (SL 134 (ckS false)) (ckH f a) 30 [false, false, true, false]) =
Res.ok
  ((Xt.ret, (134 : Nat), [((2 : Nat), Value.int IntKind.i64 (2 : Int))], (60 : Nat), []), [],
    [(f (0 : Nat) == (2 : Int)) = false, (f (0 : Nat) == (4 : Int)) = false, (f (0 : Nat) == (5 : Int)) = true,
      false = false, ckC Try.prog (21 : Nat) = ckC Try.prog (21 : Nat),
      [((1 : Nat), Value.pointer (some (Addr.mk (1 : Nat) (0 : Nat) none))),
          ((3 : Nat), Value.pointer (some (Addr.mk (2 : Nat) (0 : Nat) none))), ((5 : Nat), Value.bool false)] =
        ckS false,
      (3 : Nat) ≤ (30 : Nat) ∧ (30 : Nat) ≤ (40 : Nat),
      CkOk
        (intAt
          [Value.int IntKind.i64 (f (0 : Nat)), Value.int IntKind.i64 (f (1 : Nat)),
            Value.int IntKind.i64 (f (2 : Nat)), Value.int IntKind.i64 (f (3 : Nat)),
            Value.int IntKind.i64 (f (4 : Nat)), Value.int IntKind.i64 (f (5 : Nat)),
            Value.int IntKind.i64 (f (6 : Nat)), Value.int IntKind.i64 (f (7 : Nat)),
            Value.int IntKind.i64 (f (8 : Nat)), Value.int IntKind.u64 (f (9 : Nat)),
            Value.int IntKind.u64 (f (10 : Nat)), Value.int IntKind.i64 (f (11 : Nat)),
            Value.int IntKind.i64 (f (12 : Nat)), Value.int IntKind.u64 (f (13 : Nat)),
            Value.int IntKind.i64 (f (14 : Nat)), Value.int IntKind.i64 (f (15 : Nat))])
        (unSa (saV (0 : Nat) a) (ckH f a)) (ckH f a)]) := by kernel_rfl
theorem c14_5t (inr : Bool) (f : Nat → Int) (a : Sa) : prjT [2] (codeZ (ckV (ck21L Try.prog)) Try.prog (runZ (ckV (ck21L Try.prog)) Try.prog 5) 18 inr 100000 (ckC Try.prog 14) (SL 134 (ckS true)) (ckH f a) 30 [false, false, true, true]) =
Res.ok
  ((Xt.ret, (134 : Nat),
      [((2 : Nat),
          Value.int IntKind.i64
            (bif
                k21
                  (intAt
                    [Value.int IntKind.i64 (f (0 : Nat)), Value.int IntKind.i64 (f (1 : Nat)),
                      Value.int IntKind.i64 (f (2 : Nat)), Value.int IntKind.i64 (f (3 : Nat)),
                      Value.int IntKind.i64 (f (4 : Nat)), Value.int IntKind.i64 (f (5 : Nat)),
                      Value.int IntKind.i64 (f (6 : Nat)), Value.int IntKind.i64 (f (7 : Nat)),
                      Value.int IntKind.i64 (f (8 : Nat)), Value.int IntKind.u64 (f (9 : Nat)),
                      Value.int IntKind.u64 (f (10 : Nat)), Value.int IntKind.i64 (f (11 : Nat)),
                      Value.int IntKind.i64 (f (12 : Nat)), Value.int IntKind.u64 (f (13 : Nat)),
                      Value.int IntKind.i64 (f (14 : Nat)), Value.int IntKind.i64 (f (15 : Nat))])
                  (unSa (saV (0 : Nat) a) (ckH f a)) (bif true then decide (f (5 : Nat) ≥ (1 : Int)) else false) then
              (0 : Int)
            else (2 : Int)))],
      (60 : Nat), []),
    [],
    [(f (0 : Nat) == (2 : Int)) = false, (f (0 : Nat) == (4 : Int)) = false, (f (0 : Nat) == (5 : Int)) = true,
      true = true, ckC Try.prog (21 : Nat) = ckC Try.prog (21 : Nat),
      [((1 : Nat), Value.pointer (some (Addr.mk (1 : Nat) (0 : Nat) none))),
          ((3 : Nat), Value.pointer (some (Addr.mk (2 : Nat) (0 : Nat) none))),
          ((5 : Nat), Value.bool (bif true then decide (f (5 : Nat) ≥ (1 : Int)) else false))] =
        ckS (bif true then decide (f (5 : Nat) ≥ (1 : Int)) else false),
      (3 : Nat) ≤ (30 : Nat) ∧ (30 : Nat) ≤ (40 : Nat),
      CkOk
        (intAt
          [Value.int IntKind.i64 (f (0 : Nat)), Value.int IntKind.i64 (f (1 : Nat)),
            Value.int IntKind.i64 (f (2 : Nat)), Value.int IntKind.i64 (f (3 : Nat)),
            Value.int IntKind.i64 (f (4 : Nat)), Value.int IntKind.i64 (f (5 : Nat)),
            Value.int IntKind.i64 (f (6 : Nat)), Value.int IntKind.i64 (f (7 : Nat)),
            Value.int IntKind.i64 (f (8 : Nat)), Value.int IntKind.u64 (f (9 : Nat)),
            Value.int IntKind.u64 (f (10 : Nat)), Value.int IntKind.i64 (f (11 : Nat)),
            Value.int IntKind.i64 (f (12 : Nat)), Value.int IntKind.u64 (f (13 : Nat)),
            Value.int IntKind.i64 (f (14 : Nat)), Value.int IntKind.i64 (f (15 : Nat))])
        (unSa (saV (0 : Nat) a) (ckH f a)) (ckH f a)]) := by kernel_rfl
theorem c14_11f (inr : Bool) (f : Nat → Int) (a : Sa) : prjT [2] (codeZ (ckV (ck21L Try.prog)) Try.prog (runZ (ckV (ck21L Try.prog)) Try.prog 5) 18 inr 100000 (ckC Try.prog 14) (SL 134 (ckS false)) (ckH f a) 30 [false, false, false, true, false]) =
Res.ok
  ((Xt.ret, (134 : Nat), [((2 : Nat), Value.int IntKind.i64 (2 : Int))], (60 : Nat), []), [],
    [(f (0 : Nat) == (2 : Int)) = false, (f (0 : Nat) == (4 : Int)) = false, (f (0 : Nat) == (5 : Int)) = false,
      (f (0 : Nat) == (11 : Int)) = true, false = false, ckC Try.prog (21 : Nat) = ckC Try.prog (21 : Nat),
      [((1 : Nat), Value.pointer (some (Addr.mk (1 : Nat) (0 : Nat) none))),
          ((3 : Nat), Value.pointer (some (Addr.mk (2 : Nat) (0 : Nat) none))), ((5 : Nat), Value.bool false)] =
        ckS false,
      (3 : Nat) ≤ (30 : Nat) ∧ (30 : Nat) ≤ (40 : Nat),
      CkOk
        (intAt
          [Value.int IntKind.i64 (f (0 : Nat)), Value.int IntKind.i64 (f (1 : Nat)),
            Value.int IntKind.i64 (f (2 : Nat)), Value.int IntKind.i64 (f (3 : Nat)),
            Value.int IntKind.i64 (f (4 : Nat)), Value.int IntKind.i64 (f (5 : Nat)),
            Value.int IntKind.i64 (f (6 : Nat)), Value.int IntKind.i64 (f (7 : Nat)),
            Value.int IntKind.i64 (f (8 : Nat)), Value.int IntKind.u64 (f (9 : Nat)),
            Value.int IntKind.u64 (f (10 : Nat)), Value.int IntKind.i64 (f (11 : Nat)),
            Value.int IntKind.i64 (f (12 : Nat)), Value.int IntKind.u64 (f (13 : Nat)),
            Value.int IntKind.i64 (f (14 : Nat)), Value.int IntKind.i64 (f (15 : Nat))])
        (unSa (saV (0 : Nat) a) (ckH f a)) (ckH f a)]) := by kernel_rfl
theorem c14_11t (inr : Bool) (f : Nat → Int) (a : Sa) : prjT [2] (codeZ (ckV (ck21L Try.prog)) Try.prog (runZ (ckV (ck21L Try.prog)) Try.prog 5) 18 inr 100000 (ckC Try.prog 14) (SL 134 (ckS true)) (ckH f a) 30 [false, false, false, true, true]) =
Res.ok
  ((Xt.ret, (134 : Nat),
      [((2 : Nat),
          Value.int IntKind.i64
            (bif
                k21
                  (intAt
                    [Value.int IntKind.i64 (f (0 : Nat)), Value.int IntKind.i64 (f (1 : Nat)),
                      Value.int IntKind.i64 (f (2 : Nat)), Value.int IntKind.i64 (f (3 : Nat)),
                      Value.int IntKind.i64 (f (4 : Nat)), Value.int IntKind.i64 (f (5 : Nat)),
                      Value.int IntKind.i64 (f (6 : Nat)), Value.int IntKind.i64 (f (7 : Nat)),
                      Value.int IntKind.i64 (f (8 : Nat)), Value.int IntKind.u64 (f (9 : Nat)),
                      Value.int IntKind.u64 (f (10 : Nat)), Value.int IntKind.i64 (f (11 : Nat)),
                      Value.int IntKind.i64 (f (12 : Nat)), Value.int IntKind.u64 (f (13 : Nat)),
                      Value.int IntKind.i64 (f (14 : Nat)), Value.int IntKind.i64 (f (15 : Nat))])
                  (unSa (saV (0 : Nat) a) (ckH f a)) (bif true then decide (f (5 : Nat) ≥ (1 : Int)) else false) then
              (0 : Int)
            else (2 : Int)))],
      (60 : Nat), []),
    [],
    [(f (0 : Nat) == (2 : Int)) = false, (f (0 : Nat) == (4 : Int)) = false, (f (0 : Nat) == (5 : Int)) = false,
      (f (0 : Nat) == (11 : Int)) = true, true = true, ckC Try.prog (21 : Nat) = ckC Try.prog (21 : Nat),
      [((1 : Nat), Value.pointer (some (Addr.mk (1 : Nat) (0 : Nat) none))),
          ((3 : Nat), Value.pointer (some (Addr.mk (2 : Nat) (0 : Nat) none))),
          ((5 : Nat), Value.bool (bif true then decide (f (5 : Nat) ≥ (1 : Int)) else false))] =
        ckS (bif true then decide (f (5 : Nat) ≥ (1 : Int)) else false),
      (3 : Nat) ≤ (30 : Nat) ∧ (30 : Nat) ≤ (40 : Nat),
      CkOk
        (intAt
          [Value.int IntKind.i64 (f (0 : Nat)), Value.int IntKind.i64 (f (1 : Nat)),
            Value.int IntKind.i64 (f (2 : Nat)), Value.int IntKind.i64 (f (3 : Nat)),
            Value.int IntKind.i64 (f (4 : Nat)), Value.int IntKind.i64 (f (5 : Nat)),
            Value.int IntKind.i64 (f (6 : Nat)), Value.int IntKind.i64 (f (7 : Nat)),
            Value.int IntKind.i64 (f (8 : Nat)), Value.int IntKind.u64 (f (9 : Nat)),
            Value.int IntKind.u64 (f (10 : Nat)), Value.int IntKind.i64 (f (11 : Nat)),
            Value.int IntKind.i64 (f (12 : Nat)), Value.int IntKind.u64 (f (13 : Nat)),
            Value.int IntKind.i64 (f (14 : Nat)), Value.int IntKind.i64 (f (15 : Nat))])
        (unSa (saV (0 : Nat) a) (ckH f a)) (ckH f a)]) := by kernel_rfl
theorem c14_nof (inr : Bool) (f : Nat → Int) (a : Sa) : prjT [2] (codeZ (ckV (ck21L Try.prog)) Try.prog (runZ (ckV (ck21L Try.prog)) Try.prog 5) 18 inr 100000 (ckC Try.prog 14) (SL 134 (ckS false)) (ckH f a) 30 [false, false, false, false]) =
Res.ok
  ((Xt.ret, (134 : Nat), [((2 : Nat), Value.int IntKind.i64 (2 : Int))], (60 : Nat), []), [],
    [(f (0 : Nat) == (2 : Int)) = false, (f (0 : Nat) == (4 : Int)) = false, (f (0 : Nat) == (5 : Int)) = false,
      (f (0 : Nat) == (11 : Int)) = false, ckC Try.prog (21 : Nat) = ckC Try.prog (21 : Nat),
      [((1 : Nat), Value.pointer (some (Addr.mk (1 : Nat) (0 : Nat) none))),
          ((3 : Nat), Value.pointer (some (Addr.mk (2 : Nat) (0 : Nat) none))), ((5 : Nat), Value.bool false)] =
        ckS false,
      (3 : Nat) ≤ (30 : Nat) ∧ (30 : Nat) ≤ (40 : Nat),
      CkOk
        (intAt
          [Value.int IntKind.i64 (f (0 : Nat)), Value.int IntKind.i64 (f (1 : Nat)),
            Value.int IntKind.i64 (f (2 : Nat)), Value.int IntKind.i64 (f (3 : Nat)),
            Value.int IntKind.i64 (f (4 : Nat)), Value.int IntKind.i64 (f (5 : Nat)),
            Value.int IntKind.i64 (f (6 : Nat)), Value.int IntKind.i64 (f (7 : Nat)),
            Value.int IntKind.i64 (f (8 : Nat)), Value.int IntKind.u64 (f (9 : Nat)),
            Value.int IntKind.u64 (f (10 : Nat)), Value.int IntKind.i64 (f (11 : Nat)),
            Value.int IntKind.i64 (f (12 : Nat)), Value.int IntKind.u64 (f (13 : Nat)),
            Value.int IntKind.i64 (f (14 : Nat)), Value.int IntKind.i64 (f (15 : Nat))])
        (unSa (saV (0 : Nat) a) (ckH f a)) (ckH f a)]) := by kernel_rfl
theorem c14_not (inr : Bool) (f : Nat → Int) (a : Sa) : prjT [2] (codeZ (ckV (ck21L Try.prog)) Try.prog (runZ (ckV (ck21L Try.prog)) Try.prog 5) 18 inr 100000 (ckC Try.prog 14) (SL 134 (ckS true)) (ckH f a) 30 [false, false, false, false]) =
Res.ok
  ((Xt.ret, (134 : Nat),
      [((2 : Nat),
          Value.int IntKind.i64
            (bif
                k21
                  (intAt
                    [Value.int IntKind.i64 (f (0 : Nat)), Value.int IntKind.i64 (f (1 : Nat)),
                      Value.int IntKind.i64 (f (2 : Nat)), Value.int IntKind.i64 (f (3 : Nat)),
                      Value.int IntKind.i64 (f (4 : Nat)), Value.int IntKind.i64 (f (5 : Nat)),
                      Value.int IntKind.i64 (f (6 : Nat)), Value.int IntKind.i64 (f (7 : Nat)),
                      Value.int IntKind.i64 (f (8 : Nat)), Value.int IntKind.u64 (f (9 : Nat)),
                      Value.int IntKind.u64 (f (10 : Nat)), Value.int IntKind.i64 (f (11 : Nat)),
                      Value.int IntKind.i64 (f (12 : Nat)), Value.int IntKind.u64 (f (13 : Nat)),
                      Value.int IntKind.i64 (f (14 : Nat)), Value.int IntKind.i64 (f (15 : Nat))])
                  (unSa (saV (0 : Nat) a) (ckH f a)) true then
              (0 : Int)
            else (2 : Int)))],
      (60 : Nat), []),
    [],
    [(f (0 : Nat) == (2 : Int)) = false, (f (0 : Nat) == (4 : Int)) = false, (f (0 : Nat) == (5 : Int)) = false,
      (f (0 : Nat) == (11 : Int)) = false, ckC Try.prog (21 : Nat) = ckC Try.prog (21 : Nat),
      [((1 : Nat), Value.pointer (some (Addr.mk (1 : Nat) (0 : Nat) none))),
          ((3 : Nat), Value.pointer (some (Addr.mk (2 : Nat) (0 : Nat) none))), ((5 : Nat), Value.bool true)] =
        ckS true,
      (3 : Nat) ≤ (30 : Nat) ∧ (30 : Nat) ≤ (40 : Nat),
      CkOk
        (intAt
          [Value.int IntKind.i64 (f (0 : Nat)), Value.int IntKind.i64 (f (1 : Nat)),
            Value.int IntKind.i64 (f (2 : Nat)), Value.int IntKind.i64 (f (3 : Nat)),
            Value.int IntKind.i64 (f (4 : Nat)), Value.int IntKind.i64 (f (5 : Nat)),
            Value.int IntKind.i64 (f (6 : Nat)), Value.int IntKind.i64 (f (7 : Nat)),
            Value.int IntKind.i64 (f (8 : Nat)), Value.int IntKind.u64 (f (9 : Nat)),
            Value.int IntKind.u64 (f (10 : Nat)), Value.int IntKind.i64 (f (11 : Nat)),
            Value.int IntKind.i64 (f (12 : Nat)), Value.int IntKind.u64 (f (13 : Nat)),
            Value.int IntKind.i64 (f (14 : Nat)), Value.int IntKind.i64 (f (15 : Nat))])
        (unSa (saV (0 : Nat) a) (ckH f a)) (ckH f a)]) := by kernel_rfl
/-- A command of clients has a client, an operation, and a number but for the first. -/
def cl9 (f : Nat → Int) : Bool := !((f 9 == 0) && ((f 10 == 0) && true))
def c9 (f : Nat → Int) : Bool := bif (f 0 == 3) || ((f 0 == 2) || (f 0 == 5)) then cl9 f && wB (f 12) 1 5 && ((f 11 == 0) == (f 12 == 1)) else true
def ck14L (P : Program) : LFun := mkS 18 14 134 [1, 3, 5] (ckC P 14) (tlSpecO ckP (fun a => ckS a.2.2) (fun a => ckA a.1 a.2.1) 30 60 (fun a => ckO (k21 a.1 a.2.1 (a.2.2 && c14 a.1))))
theorem c9_3f (inr : Bool) (f : Nat → Int) (a : Sa) : prjT [2] (codeZ (ckV (ck14L Try.prog)) Try.prog (runZ (ckV (ck14L Try.prog)) Try.prog 5) 18 inr 100000 (ckC Try.prog 9) (SL 134 (ckS false)) (ckH f a) 20 ([true] ++ [false, false, false])) =
Res.ok
  ((Xt.ret, (134 : Nat), [((2 : Nat), Value.int IntKind.i64 (2 : Int))], (60 : Nat), []), [],
    [(f (0 : Nat) == (3 : Int)) = true, false = false, false = false, false = false,
      ckC Try.prog (14 : Nat) = ckC Try.prog (14 : Nat),
      [((1 : Nat), Value.pointer (some (Addr.mk (1 : Nat) (0 : Nat) none))),
          ((3 : Nat), Value.pointer (some (Addr.mk (2 : Nat) (0 : Nat) none))), ((5 : Nat), Value.bool false)] =
        ckS false,
      (3 : Nat) ≤ (20 : Nat) ∧ (20 : Nat) ≤ (30 : Nat),
      CkOk
        (intAt
          [Value.int IntKind.i64 (f (0 : Nat)), Value.int IntKind.i64 (f (1 : Nat)),
            Value.int IntKind.i64 (f (2 : Nat)), Value.int IntKind.i64 (f (3 : Nat)),
            Value.int IntKind.i64 (f (4 : Nat)), Value.int IntKind.i64 (f (5 : Nat)),
            Value.int IntKind.i64 (f (6 : Nat)), Value.int IntKind.i64 (f (7 : Nat)),
            Value.int IntKind.i64 (f (8 : Nat)), Value.int IntKind.u64 (f (9 : Nat)),
            Value.int IntKind.u64 (f (10 : Nat)), Value.int IntKind.i64 (f (11 : Nat)),
            Value.int IntKind.i64 (f (12 : Nat)), Value.int IntKind.u64 (f (13 : Nat)),
            Value.int IntKind.i64 (f (14 : Nat)), Value.int IntKind.i64 (f (15 : Nat))])
        (unSa (saV (0 : Nat) a) (ckH f a)) (ckH f a)]) := by kernel_rfl
theorem c9_3a (inr : Bool) (f : Nat → Int) (a : Sa) : prjT [2] (codeZ (ckV (ck14L Try.prog)) Try.prog (runZ (ckV (ck14L Try.prog)) Try.prog 5) 18 inr 100000 (ckC Try.prog 9) (SL 134 (ckS true)) (ckH f a) 20 ([true] ++ [true, false, false])) =
Res.ok
  ((Xt.ret, (134 : Nat), [((2 : Nat), Value.int IntKind.i64 (2 : Int))], (60 : Nat), []), [],
    [(f (0 : Nat) == (3 : Int)) = true, true = true,
      (bif true then !(f (9 : Nat) == (0 : Int) && (f (10 : Nat) == (0 : Int) && true)) else false) = false,
      false = false, ckC Try.prog (14 : Nat) = ckC Try.prog (14 : Nat),
      [((1 : Nat), Value.pointer (some (Addr.mk (1 : Nat) (0 : Nat) none))),
          ((3 : Nat), Value.pointer (some (Addr.mk (2 : Nat) (0 : Nat) none))), ((5 : Nat), Value.bool false)] =
        ckS false,
      (3 : Nat) ≤ (20 : Nat) ∧ (20 : Nat) ≤ (30 : Nat),
      CkOk
        (intAt
          [Value.int IntKind.i64 (f (0 : Nat)), Value.int IntKind.i64 (f (1 : Nat)),
            Value.int IntKind.i64 (f (2 : Nat)), Value.int IntKind.i64 (f (3 : Nat)),
            Value.int IntKind.i64 (f (4 : Nat)), Value.int IntKind.i64 (f (5 : Nat)),
            Value.int IntKind.i64 (f (6 : Nat)), Value.int IntKind.i64 (f (7 : Nat)),
            Value.int IntKind.i64 (f (8 : Nat)), Value.int IntKind.u64 (f (9 : Nat)),
            Value.int IntKind.u64 (f (10 : Nat)), Value.int IntKind.i64 (f (11 : Nat)),
            Value.int IntKind.i64 (f (12 : Nat)), Value.int IntKind.u64 (f (13 : Nat)),
            Value.int IntKind.i64 (f (14 : Nat)), Value.int IntKind.i64 (f (15 : Nat))])
        (unSa (saV (0 : Nat) a) (ckH f a)) (ckH f a)]) := by kernel_rfl
theorem c9_3b (inr : Bool) (f : Nat → Int) (a : Sa) : prjT [2] (codeZ (ckV (ck14L Try.prog)) Try.prog (runZ (ckV (ck14L Try.prog)) Try.prog 5) 18 inr 100000 (ckC Try.prog 9) (SL 134 (ckS true)) (ckH f a) 20 ([true] ++ [true, true, false])) =
Res.ok
  ((Xt.ret, (134 : Nat), [((2 : Nat), Value.int IntKind.i64 (2 : Int))], (60 : Nat), []), [],
    [(f (0 : Nat) == (3 : Int)) = true, true = true,
      (bif true then !(f (9 : Nat) == (0 : Int) && (f (10 : Nat) == (0 : Int) && true)) else false) = true,
      (bif true then decide (f (12 : Nat) ≥ (1 : Int)) && decide (f (12 : Nat) ≤ (5 : Int)) else false) = false,
      ckC Try.prog (14 : Nat) = ckC Try.prog (14 : Nat),
      [((1 : Nat), Value.pointer (some (Addr.mk (1 : Nat) (0 : Nat) none))),
          ((3 : Nat), Value.pointer (some (Addr.mk (2 : Nat) (0 : Nat) none))), ((5 : Nat), Value.bool false)] =
        ckS false,
      (3 : Nat) ≤ (20 : Nat) ∧ (20 : Nat) ≤ (30 : Nat),
      CkOk
        (intAt
          [Value.int IntKind.i64 (f (0 : Nat)), Value.int IntKind.i64 (f (1 : Nat)),
            Value.int IntKind.i64 (f (2 : Nat)), Value.int IntKind.i64 (f (3 : Nat)),
            Value.int IntKind.i64 (f (4 : Nat)), Value.int IntKind.i64 (f (5 : Nat)),
            Value.int IntKind.i64 (f (6 : Nat)), Value.int IntKind.i64 (f (7 : Nat)),
            Value.int IntKind.i64 (f (8 : Nat)), Value.int IntKind.u64 (f (9 : Nat)),
            Value.int IntKind.u64 (f (10 : Nat)), Value.int IntKind.i64 (f (11 : Nat)),
            Value.int IntKind.i64 (f (12 : Nat)), Value.int IntKind.u64 (f (13 : Nat)),
            Value.int IntKind.i64 (f (14 : Nat)), Value.int IntKind.i64 (f (15 : Nat))])
        (unSa (saV (0 : Nat) a) (rowsN (20 : Nat) [] (ckH f a))) (rowsN (20 : Nat) [] (ckH f a))]) := by kernel_rfl
theorem c9_3t (inr : Bool) (f : Nat → Int) (a : Sa) : prjT [2] (codeZ (ckV (ck14L Try.prog)) Try.prog (runZ (ckV (ck14L Try.prog)) Try.prog 5) 18 inr 100000 (ckC Try.prog 9) (SL 134 (ckS true)) (ckH f a) 20 ([true] ++ [true, true, true])) =
Res.ok
  ((Xt.ret, (134 : Nat),
      [((2 : Nat),
          Value.int IntKind.i64
            (bif
                k21
                  (intAt
                    [Value.int IntKind.i64 (f (0 : Nat)), Value.int IntKind.i64 (f (1 : Nat)),
                      Value.int IntKind.i64 (f (2 : Nat)), Value.int IntKind.i64 (f (3 : Nat)),
                      Value.int IntKind.i64 (f (4 : Nat)), Value.int IntKind.i64 (f (5 : Nat)),
                      Value.int IntKind.i64 (f (6 : Nat)), Value.int IntKind.i64 (f (7 : Nat)),
                      Value.int IntKind.i64 (f (8 : Nat)), Value.int IntKind.u64 (f (9 : Nat)),
                      Value.int IntKind.u64 (f (10 : Nat)), Value.int IntKind.i64 (f (11 : Nat)),
                      Value.int IntKind.i64 (f (12 : Nat)), Value.int IntKind.u64 (f (13 : Nat)),
                      Value.int IntKind.i64 (f (14 : Nat)), Value.int IntKind.i64 (f (15 : Nat))])
                  (unSa (saV (0 : Nat) a) (rowsN (20 : Nat) [] (ckH f a)))
                  ((bif true then (f (11 : Nat) == (0 : Int)) == (f (12 : Nat) == (1 : Int)) else false) &&
                    c14
                      (intAt
                        [Value.int IntKind.i64 (f (0 : Nat)), Value.int IntKind.i64 (f (1 : Nat)),
                          Value.int IntKind.i64 (f (2 : Nat)), Value.int IntKind.i64 (f (3 : Nat)),
                          Value.int IntKind.i64 (f (4 : Nat)), Value.int IntKind.i64 (f (5 : Nat)),
                          Value.int IntKind.i64 (f (6 : Nat)), Value.int IntKind.i64 (f (7 : Nat)),
                          Value.int IntKind.i64 (f (8 : Nat)), Value.int IntKind.u64 (f (9 : Nat)),
                          Value.int IntKind.u64 (f (10 : Nat)), Value.int IntKind.i64 (f (11 : Nat)),
                          Value.int IntKind.i64 (f (12 : Nat)), Value.int IntKind.u64 (f (13 : Nat)),
                          Value.int IntKind.i64 (f (14 : Nat)), Value.int IntKind.i64 (f (15 : Nat))])) then
              (0 : Int)
            else (2 : Int)))],
      (60 : Nat), []),
    [],
    [(f (0 : Nat) == (3 : Int)) = true, true = true,
      (bif true then !(f (9 : Nat) == (0 : Int) && (f (10 : Nat) == (0 : Int) && true)) else false) = true,
      (bif true then decide (f (12 : Nat) ≥ (1 : Int)) && decide (f (12 : Nat) ≤ (5 : Int)) else false) = true,
      ckC Try.prog (14 : Nat) = ckC Try.prog (14 : Nat),
      [((1 : Nat), Value.pointer (some (Addr.mk (1 : Nat) (0 : Nat) none))),
          ((3 : Nat), Value.pointer (some (Addr.mk (2 : Nat) (0 : Nat) none))),
          ((5 : Nat),
            Value.bool (bif true then (f (11 : Nat) == (0 : Int)) == (f (12 : Nat) == (1 : Int)) else false))] =
        ckS (bif true then (f (11 : Nat) == (0 : Int)) == (f (12 : Nat) == (1 : Int)) else false),
      (3 : Nat) ≤ (20 : Nat) ∧ (20 : Nat) ≤ (30 : Nat),
      CkOk
        (intAt
          [Value.int IntKind.i64 (f (0 : Nat)), Value.int IntKind.i64 (f (1 : Nat)),
            Value.int IntKind.i64 (f (2 : Nat)), Value.int IntKind.i64 (f (3 : Nat)),
            Value.int IntKind.i64 (f (4 : Nat)), Value.int IntKind.i64 (f (5 : Nat)),
            Value.int IntKind.i64 (f (6 : Nat)), Value.int IntKind.i64 (f (7 : Nat)),
            Value.int IntKind.i64 (f (8 : Nat)), Value.int IntKind.u64 (f (9 : Nat)),
            Value.int IntKind.u64 (f (10 : Nat)), Value.int IntKind.i64 (f (11 : Nat)),
            Value.int IntKind.i64 (f (12 : Nat)), Value.int IntKind.u64 (f (13 : Nat)),
            Value.int IntKind.i64 (f (14 : Nat)), Value.int IntKind.i64 (f (15 : Nat))])
        (unSa (saV (0 : Nat) a) (rowsN (20 : Nat) [] (ckH f a))) (rowsN (20 : Nat) [] (ckH f a))]) := by kernel_rfl
theorem c9_2f (inr : Bool) (f : Nat → Int) (a : Sa) : prjT [2] (codeZ (ckV (ck14L Try.prog)) Try.prog (runZ (ckV (ck14L Try.prog)) Try.prog 5) 18 inr 100000 (ckC Try.prog 9) (SL 134 (ckS false)) (ckH f a) 20 ([false, true] ++ [false, false, false])) =
Res.ok
  ((Xt.ret, (134 : Nat), [((2 : Nat), Value.int IntKind.i64 (2 : Int))], (60 : Nat), []), [],
    [(f (0 : Nat) == (3 : Int)) = false, (f (0 : Nat) == (2 : Int)) = true, false = false, false = false, false = false,
      ckC Try.prog (14 : Nat) = ckC Try.prog (14 : Nat),
      [((1 : Nat), Value.pointer (some (Addr.mk (1 : Nat) (0 : Nat) none))),
          ((3 : Nat), Value.pointer (some (Addr.mk (2 : Nat) (0 : Nat) none))), ((5 : Nat), Value.bool false)] =
        ckS false,
      (3 : Nat) ≤ (20 : Nat) ∧ (20 : Nat) ≤ (30 : Nat),
      CkOk
        (intAt
          [Value.int IntKind.i64 (f (0 : Nat)), Value.int IntKind.i64 (f (1 : Nat)),
            Value.int IntKind.i64 (f (2 : Nat)), Value.int IntKind.i64 (f (3 : Nat)),
            Value.int IntKind.i64 (f (4 : Nat)), Value.int IntKind.i64 (f (5 : Nat)),
            Value.int IntKind.i64 (f (6 : Nat)), Value.int IntKind.i64 (f (7 : Nat)),
            Value.int IntKind.i64 (f (8 : Nat)), Value.int IntKind.u64 (f (9 : Nat)),
            Value.int IntKind.u64 (f (10 : Nat)), Value.int IntKind.i64 (f (11 : Nat)),
            Value.int IntKind.i64 (f (12 : Nat)), Value.int IntKind.u64 (f (13 : Nat)),
            Value.int IntKind.i64 (f (14 : Nat)), Value.int IntKind.i64 (f (15 : Nat))])
        (unSa (saV (0 : Nat) a) (ckH f a)) (ckH f a)]) := by kernel_rfl
theorem c9_2a (inr : Bool) (f : Nat → Int) (a : Sa) : prjT [2] (codeZ (ckV (ck14L Try.prog)) Try.prog (runZ (ckV (ck14L Try.prog)) Try.prog 5) 18 inr 100000 (ckC Try.prog 9) (SL 134 (ckS true)) (ckH f a) 20 ([false, true] ++ [true, false, false])) =
Res.ok
  ((Xt.ret, (134 : Nat), [((2 : Nat), Value.int IntKind.i64 (2 : Int))], (60 : Nat), []), [],
    [(f (0 : Nat) == (3 : Int)) = false, (f (0 : Nat) == (2 : Int)) = true, true = true,
      (bif true then !(f (9 : Nat) == (0 : Int) && (f (10 : Nat) == (0 : Int) && true)) else false) = false,
      false = false, ckC Try.prog (14 : Nat) = ckC Try.prog (14 : Nat),
      [((1 : Nat), Value.pointer (some (Addr.mk (1 : Nat) (0 : Nat) none))),
          ((3 : Nat), Value.pointer (some (Addr.mk (2 : Nat) (0 : Nat) none))), ((5 : Nat), Value.bool false)] =
        ckS false,
      (3 : Nat) ≤ (20 : Nat) ∧ (20 : Nat) ≤ (30 : Nat),
      CkOk
        (intAt
          [Value.int IntKind.i64 (f (0 : Nat)), Value.int IntKind.i64 (f (1 : Nat)),
            Value.int IntKind.i64 (f (2 : Nat)), Value.int IntKind.i64 (f (3 : Nat)),
            Value.int IntKind.i64 (f (4 : Nat)), Value.int IntKind.i64 (f (5 : Nat)),
            Value.int IntKind.i64 (f (6 : Nat)), Value.int IntKind.i64 (f (7 : Nat)),
            Value.int IntKind.i64 (f (8 : Nat)), Value.int IntKind.u64 (f (9 : Nat)),
            Value.int IntKind.u64 (f (10 : Nat)), Value.int IntKind.i64 (f (11 : Nat)),
            Value.int IntKind.i64 (f (12 : Nat)), Value.int IntKind.u64 (f (13 : Nat)),
            Value.int IntKind.i64 (f (14 : Nat)), Value.int IntKind.i64 (f (15 : Nat))])
        (unSa (saV (0 : Nat) a) (ckH f a)) (ckH f a)]) := by kernel_rfl
theorem c9_2b (inr : Bool) (f : Nat → Int) (a : Sa) : prjT [2] (codeZ (ckV (ck14L Try.prog)) Try.prog (runZ (ckV (ck14L Try.prog)) Try.prog 5) 18 inr 100000 (ckC Try.prog 9) (SL 134 (ckS true)) (ckH f a) 20 ([false, true] ++ [true, true, false])) =
Res.ok
  ((Xt.ret, (134 : Nat), [((2 : Nat), Value.int IntKind.i64 (2 : Int))], (60 : Nat), []), [],
    [(f (0 : Nat) == (3 : Int)) = false, (f (0 : Nat) == (2 : Int)) = true, true = true,
      (bif true then !(f (9 : Nat) == (0 : Int) && (f (10 : Nat) == (0 : Int) && true)) else false) = true,
      (bif true then decide (f (12 : Nat) ≥ (1 : Int)) && decide (f (12 : Nat) ≤ (5 : Int)) else false) = false,
      ckC Try.prog (14 : Nat) = ckC Try.prog (14 : Nat),
      [((1 : Nat), Value.pointer (some (Addr.mk (1 : Nat) (0 : Nat) none))),
          ((3 : Nat), Value.pointer (some (Addr.mk (2 : Nat) (0 : Nat) none))), ((5 : Nat), Value.bool false)] =
        ckS false,
      (3 : Nat) ≤ (20 : Nat) ∧ (20 : Nat) ≤ (30 : Nat),
      CkOk
        (intAt
          [Value.int IntKind.i64 (f (0 : Nat)), Value.int IntKind.i64 (f (1 : Nat)),
            Value.int IntKind.i64 (f (2 : Nat)), Value.int IntKind.i64 (f (3 : Nat)),
            Value.int IntKind.i64 (f (4 : Nat)), Value.int IntKind.i64 (f (5 : Nat)),
            Value.int IntKind.i64 (f (6 : Nat)), Value.int IntKind.i64 (f (7 : Nat)),
            Value.int IntKind.i64 (f (8 : Nat)), Value.int IntKind.u64 (f (9 : Nat)),
            Value.int IntKind.u64 (f (10 : Nat)), Value.int IntKind.i64 (f (11 : Nat)),
            Value.int IntKind.i64 (f (12 : Nat)), Value.int IntKind.u64 (f (13 : Nat)),
            Value.int IntKind.i64 (f (14 : Nat)), Value.int IntKind.i64 (f (15 : Nat))])
        (unSa (saV (0 : Nat) a) (rowsN (20 : Nat) [] (ckH f a))) (rowsN (20 : Nat) [] (ckH f a))]) := by kernel_rfl
theorem c9_2t (inr : Bool) (f : Nat → Int) (a : Sa) : prjT [2] (codeZ (ckV (ck14L Try.prog)) Try.prog (runZ (ckV (ck14L Try.prog)) Try.prog 5) 18 inr 100000 (ckC Try.prog 9) (SL 134 (ckS true)) (ckH f a) 20 ([false, true] ++ [true, true, true])) =
Res.ok
  ((Xt.ret, (134 : Nat),
      [((2 : Nat),
          Value.int IntKind.i64
            (bif
                k21
                  (intAt
                    [Value.int IntKind.i64 (f (0 : Nat)), Value.int IntKind.i64 (f (1 : Nat)),
                      Value.int IntKind.i64 (f (2 : Nat)), Value.int IntKind.i64 (f (3 : Nat)),
                      Value.int IntKind.i64 (f (4 : Nat)), Value.int IntKind.i64 (f (5 : Nat)),
                      Value.int IntKind.i64 (f (6 : Nat)), Value.int IntKind.i64 (f (7 : Nat)),
                      Value.int IntKind.i64 (f (8 : Nat)), Value.int IntKind.u64 (f (9 : Nat)),
                      Value.int IntKind.u64 (f (10 : Nat)), Value.int IntKind.i64 (f (11 : Nat)),
                      Value.int IntKind.i64 (f (12 : Nat)), Value.int IntKind.u64 (f (13 : Nat)),
                      Value.int IntKind.i64 (f (14 : Nat)), Value.int IntKind.i64 (f (15 : Nat))])
                  (unSa (saV (0 : Nat) a) (rowsN (20 : Nat) [] (ckH f a)))
                  ((bif true then (f (11 : Nat) == (0 : Int)) == (f (12 : Nat) == (1 : Int)) else false) &&
                    c14
                      (intAt
                        [Value.int IntKind.i64 (f (0 : Nat)), Value.int IntKind.i64 (f (1 : Nat)),
                          Value.int IntKind.i64 (f (2 : Nat)), Value.int IntKind.i64 (f (3 : Nat)),
                          Value.int IntKind.i64 (f (4 : Nat)), Value.int IntKind.i64 (f (5 : Nat)),
                          Value.int IntKind.i64 (f (6 : Nat)), Value.int IntKind.i64 (f (7 : Nat)),
                          Value.int IntKind.i64 (f (8 : Nat)), Value.int IntKind.u64 (f (9 : Nat)),
                          Value.int IntKind.u64 (f (10 : Nat)), Value.int IntKind.i64 (f (11 : Nat)),
                          Value.int IntKind.i64 (f (12 : Nat)), Value.int IntKind.u64 (f (13 : Nat)),
                          Value.int IntKind.i64 (f (14 : Nat)), Value.int IntKind.i64 (f (15 : Nat))])) then
              (0 : Int)
            else (2 : Int)))],
      (60 : Nat), []),
    [],
    [(f (0 : Nat) == (3 : Int)) = false, (f (0 : Nat) == (2 : Int)) = true, true = true,
      (bif true then !(f (9 : Nat) == (0 : Int) && (f (10 : Nat) == (0 : Int) && true)) else false) = true,
      (bif true then decide (f (12 : Nat) ≥ (1 : Int)) && decide (f (12 : Nat) ≤ (5 : Int)) else false) = true,
      ckC Try.prog (14 : Nat) = ckC Try.prog (14 : Nat),
      [((1 : Nat), Value.pointer (some (Addr.mk (1 : Nat) (0 : Nat) none))),
          ((3 : Nat), Value.pointer (some (Addr.mk (2 : Nat) (0 : Nat) none))),
          ((5 : Nat),
            Value.bool (bif true then (f (11 : Nat) == (0 : Int)) == (f (12 : Nat) == (1 : Int)) else false))] =
        ckS (bif true then (f (11 : Nat) == (0 : Int)) == (f (12 : Nat) == (1 : Int)) else false),
      (3 : Nat) ≤ (20 : Nat) ∧ (20 : Nat) ≤ (30 : Nat),
      CkOk
        (intAt
          [Value.int IntKind.i64 (f (0 : Nat)), Value.int IntKind.i64 (f (1 : Nat)),
            Value.int IntKind.i64 (f (2 : Nat)), Value.int IntKind.i64 (f (3 : Nat)),
            Value.int IntKind.i64 (f (4 : Nat)), Value.int IntKind.i64 (f (5 : Nat)),
            Value.int IntKind.i64 (f (6 : Nat)), Value.int IntKind.i64 (f (7 : Nat)),
            Value.int IntKind.i64 (f (8 : Nat)), Value.int IntKind.u64 (f (9 : Nat)),
            Value.int IntKind.u64 (f (10 : Nat)), Value.int IntKind.i64 (f (11 : Nat)),
            Value.int IntKind.i64 (f (12 : Nat)), Value.int IntKind.u64 (f (13 : Nat)),
            Value.int IntKind.i64 (f (14 : Nat)), Value.int IntKind.i64 (f (15 : Nat))])
        (unSa (saV (0 : Nat) a) (rowsN (20 : Nat) [] (ckH f a))) (rowsN (20 : Nat) [] (ckH f a))]) := by kernel_rfl
theorem c9_5f (inr : Bool) (f : Nat → Int) (a : Sa) : prjT [2] (codeZ (ckV (ck14L Try.prog)) Try.prog (runZ (ckV (ck14L Try.prog)) Try.prog 5) 18 inr 100000 (ckC Try.prog 9) (SL 134 (ckS false)) (ckH f a) 20 ([false, false, true] ++ [false, false, false])) =
Res.ok
  ((Xt.ret, (134 : Nat), [((2 : Nat), Value.int IntKind.i64 (2 : Int))], (60 : Nat), []), [],
    [(f (0 : Nat) == (3 : Int)) = false, (f (0 : Nat) == (2 : Int)) = false, (f (0 : Nat) == (5 : Int)) = true,
      false = false, false = false, false = false, ckC Try.prog (14 : Nat) = ckC Try.prog (14 : Nat),
      [((1 : Nat), Value.pointer (some (Addr.mk (1 : Nat) (0 : Nat) none))),
          ((3 : Nat), Value.pointer (some (Addr.mk (2 : Nat) (0 : Nat) none))), ((5 : Nat), Value.bool false)] =
        ckS false,
      (3 : Nat) ≤ (20 : Nat) ∧ (20 : Nat) ≤ (30 : Nat),
      CkOk
        (intAt
          [Value.int IntKind.i64 (f (0 : Nat)), Value.int IntKind.i64 (f (1 : Nat)),
            Value.int IntKind.i64 (f (2 : Nat)), Value.int IntKind.i64 (f (3 : Nat)),
            Value.int IntKind.i64 (f (4 : Nat)), Value.int IntKind.i64 (f (5 : Nat)),
            Value.int IntKind.i64 (f (6 : Nat)), Value.int IntKind.i64 (f (7 : Nat)),
            Value.int IntKind.i64 (f (8 : Nat)), Value.int IntKind.u64 (f (9 : Nat)),
            Value.int IntKind.u64 (f (10 : Nat)), Value.int IntKind.i64 (f (11 : Nat)),
            Value.int IntKind.i64 (f (12 : Nat)), Value.int IntKind.u64 (f (13 : Nat)),
            Value.int IntKind.i64 (f (14 : Nat)), Value.int IntKind.i64 (f (15 : Nat))])
        (unSa (saV (0 : Nat) a) (ckH f a)) (ckH f a)]) := by kernel_rfl
theorem c9_5a (inr : Bool) (f : Nat → Int) (a : Sa) : prjT [2] (codeZ (ckV (ck14L Try.prog)) Try.prog (runZ (ckV (ck14L Try.prog)) Try.prog 5) 18 inr 100000 (ckC Try.prog 9) (SL 134 (ckS true)) (ckH f a) 20 ([false, false, true] ++ [true, false, false])) =
Res.ok
  ((Xt.ret, (134 : Nat), [((2 : Nat), Value.int IntKind.i64 (2 : Int))], (60 : Nat), []), [],
    [(f (0 : Nat) == (3 : Int)) = false, (f (0 : Nat) == (2 : Int)) = false, (f (0 : Nat) == (5 : Int)) = true,
      true = true,
      (bif true then !(f (9 : Nat) == (0 : Int) && (f (10 : Nat) == (0 : Int) && true)) else false) = false,
      false = false, ckC Try.prog (14 : Nat) = ckC Try.prog (14 : Nat),
      [((1 : Nat), Value.pointer (some (Addr.mk (1 : Nat) (0 : Nat) none))),
          ((3 : Nat), Value.pointer (some (Addr.mk (2 : Nat) (0 : Nat) none))), ((5 : Nat), Value.bool false)] =
        ckS false,
      (3 : Nat) ≤ (20 : Nat) ∧ (20 : Nat) ≤ (30 : Nat),
      CkOk
        (intAt
          [Value.int IntKind.i64 (f (0 : Nat)), Value.int IntKind.i64 (f (1 : Nat)),
            Value.int IntKind.i64 (f (2 : Nat)), Value.int IntKind.i64 (f (3 : Nat)),
            Value.int IntKind.i64 (f (4 : Nat)), Value.int IntKind.i64 (f (5 : Nat)),
            Value.int IntKind.i64 (f (6 : Nat)), Value.int IntKind.i64 (f (7 : Nat)),
            Value.int IntKind.i64 (f (8 : Nat)), Value.int IntKind.u64 (f (9 : Nat)),
            Value.int IntKind.u64 (f (10 : Nat)), Value.int IntKind.i64 (f (11 : Nat)),
            Value.int IntKind.i64 (f (12 : Nat)), Value.int IntKind.u64 (f (13 : Nat)),
            Value.int IntKind.i64 (f (14 : Nat)), Value.int IntKind.i64 (f (15 : Nat))])
        (unSa (saV (0 : Nat) a) (ckH f a)) (ckH f a)]) := by kernel_rfl
theorem c9_5b (inr : Bool) (f : Nat → Int) (a : Sa) : prjT [2] (codeZ (ckV (ck14L Try.prog)) Try.prog (runZ (ckV (ck14L Try.prog)) Try.prog 5) 18 inr 100000 (ckC Try.prog 9) (SL 134 (ckS true)) (ckH f a) 20 ([false, false, true] ++ [true, true, false])) =
Res.ok
  ((Xt.ret, (134 : Nat), [((2 : Nat), Value.int IntKind.i64 (2 : Int))], (60 : Nat), []), [],
    [(f (0 : Nat) == (3 : Int)) = false, (f (0 : Nat) == (2 : Int)) = false, (f (0 : Nat) == (5 : Int)) = true,
      true = true, (bif true then !(f (9 : Nat) == (0 : Int) && (f (10 : Nat) == (0 : Int) && true)) else false) = true,
      (bif true then decide (f (12 : Nat) ≥ (1 : Int)) && decide (f (12 : Nat) ≤ (5 : Int)) else false) = false,
      ckC Try.prog (14 : Nat) = ckC Try.prog (14 : Nat),
      [((1 : Nat), Value.pointer (some (Addr.mk (1 : Nat) (0 : Nat) none))),
          ((3 : Nat), Value.pointer (some (Addr.mk (2 : Nat) (0 : Nat) none))), ((5 : Nat), Value.bool false)] =
        ckS false,
      (3 : Nat) ≤ (20 : Nat) ∧ (20 : Nat) ≤ (30 : Nat),
      CkOk
        (intAt
          [Value.int IntKind.i64 (f (0 : Nat)), Value.int IntKind.i64 (f (1 : Nat)),
            Value.int IntKind.i64 (f (2 : Nat)), Value.int IntKind.i64 (f (3 : Nat)),
            Value.int IntKind.i64 (f (4 : Nat)), Value.int IntKind.i64 (f (5 : Nat)),
            Value.int IntKind.i64 (f (6 : Nat)), Value.int IntKind.i64 (f (7 : Nat)),
            Value.int IntKind.i64 (f (8 : Nat)), Value.int IntKind.u64 (f (9 : Nat)),
            Value.int IntKind.u64 (f (10 : Nat)), Value.int IntKind.i64 (f (11 : Nat)),
            Value.int IntKind.i64 (f (12 : Nat)), Value.int IntKind.u64 (f (13 : Nat)),
            Value.int IntKind.i64 (f (14 : Nat)), Value.int IntKind.i64 (f (15 : Nat))])
        (unSa (saV (0 : Nat) a) (rowsN (20 : Nat) [] (ckH f a))) (rowsN (20 : Nat) [] (ckH f a))]) := by kernel_rfl
theorem c9_5t (inr : Bool) (f : Nat → Int) (a : Sa) : prjT [2] (codeZ (ckV (ck14L Try.prog)) Try.prog (runZ (ckV (ck14L Try.prog)) Try.prog 5) 18 inr 100000 (ckC Try.prog 9) (SL 134 (ckS true)) (ckH f a) 20 ([false, false, true] ++ [true, true, true])) =
Res.ok
  ((Xt.ret, (134 : Nat),
      [((2 : Nat),
          Value.int IntKind.i64
            (bif
                k21
                  (intAt
                    [Value.int IntKind.i64 (f (0 : Nat)), Value.int IntKind.i64 (f (1 : Nat)),
                      Value.int IntKind.i64 (f (2 : Nat)), Value.int IntKind.i64 (f (3 : Nat)),
                      Value.int IntKind.i64 (f (4 : Nat)), Value.int IntKind.i64 (f (5 : Nat)),
                      Value.int IntKind.i64 (f (6 : Nat)), Value.int IntKind.i64 (f (7 : Nat)),
                      Value.int IntKind.i64 (f (8 : Nat)), Value.int IntKind.u64 (f (9 : Nat)),
                      Value.int IntKind.u64 (f (10 : Nat)), Value.int IntKind.i64 (f (11 : Nat)),
                      Value.int IntKind.i64 (f (12 : Nat)), Value.int IntKind.u64 (f (13 : Nat)),
                      Value.int IntKind.i64 (f (14 : Nat)), Value.int IntKind.i64 (f (15 : Nat))])
                  (unSa (saV (0 : Nat) a) (rowsN (20 : Nat) [] (ckH f a)))
                  ((bif true then (f (11 : Nat) == (0 : Int)) == (f (12 : Nat) == (1 : Int)) else false) &&
                    c14
                      (intAt
                        [Value.int IntKind.i64 (f (0 : Nat)), Value.int IntKind.i64 (f (1 : Nat)),
                          Value.int IntKind.i64 (f (2 : Nat)), Value.int IntKind.i64 (f (3 : Nat)),
                          Value.int IntKind.i64 (f (4 : Nat)), Value.int IntKind.i64 (f (5 : Nat)),
                          Value.int IntKind.i64 (f (6 : Nat)), Value.int IntKind.i64 (f (7 : Nat)),
                          Value.int IntKind.i64 (f (8 : Nat)), Value.int IntKind.u64 (f (9 : Nat)),
                          Value.int IntKind.u64 (f (10 : Nat)), Value.int IntKind.i64 (f (11 : Nat)),
                          Value.int IntKind.i64 (f (12 : Nat)), Value.int IntKind.u64 (f (13 : Nat)),
                          Value.int IntKind.i64 (f (14 : Nat)), Value.int IntKind.i64 (f (15 : Nat))])) then
              (0 : Int)
            else (2 : Int)))],
      (60 : Nat), []),
    [],
    [(f (0 : Nat) == (3 : Int)) = false, (f (0 : Nat) == (2 : Int)) = false, (f (0 : Nat) == (5 : Int)) = true,
      true = true, (bif true then !(f (9 : Nat) == (0 : Int) && (f (10 : Nat) == (0 : Int) && true)) else false) = true,
      (bif true then decide (f (12 : Nat) ≥ (1 : Int)) && decide (f (12 : Nat) ≤ (5 : Int)) else false) = true,
      ckC Try.prog (14 : Nat) = ckC Try.prog (14 : Nat),
      [((1 : Nat), Value.pointer (some (Addr.mk (1 : Nat) (0 : Nat) none))),
          ((3 : Nat), Value.pointer (some (Addr.mk (2 : Nat) (0 : Nat) none))),
          ((5 : Nat),
            Value.bool (bif true then (f (11 : Nat) == (0 : Int)) == (f (12 : Nat) == (1 : Int)) else false))] =
        ckS (bif true then (f (11 : Nat) == (0 : Int)) == (f (12 : Nat) == (1 : Int)) else false),
      (3 : Nat) ≤ (20 : Nat) ∧ (20 : Nat) ≤ (30 : Nat),
      CkOk
        (intAt
          [Value.int IntKind.i64 (f (0 : Nat)), Value.int IntKind.i64 (f (1 : Nat)),
            Value.int IntKind.i64 (f (2 : Nat)), Value.int IntKind.i64 (f (3 : Nat)),
            Value.int IntKind.i64 (f (4 : Nat)), Value.int IntKind.i64 (f (5 : Nat)),
            Value.int IntKind.i64 (f (6 : Nat)), Value.int IntKind.i64 (f (7 : Nat)),
            Value.int IntKind.i64 (f (8 : Nat)), Value.int IntKind.u64 (f (9 : Nat)),
            Value.int IntKind.u64 (f (10 : Nat)), Value.int IntKind.i64 (f (11 : Nat)),
            Value.int IntKind.i64 (f (12 : Nat)), Value.int IntKind.u64 (f (13 : Nat)),
            Value.int IntKind.i64 (f (14 : Nat)), Value.int IntKind.i64 (f (15 : Nat))])
        (unSa (saV (0 : Nat) a) (rowsN (20 : Nat) [] (ckH f a))) (rowsN (20 : Nat) [] (ckH f a))]) := by kernel_rfl
theorem c9_nof (inr : Bool) (f : Nat → Int) (a : Sa) : prjT [2] (codeZ (ckV (ck14L Try.prog)) Try.prog (runZ (ckV (ck14L Try.prog)) Try.prog 5) 18 inr 100000 (ckC Try.prog 9) (SL 134 (ckS false)) (ckH f a) 20 [false, false, false]) =
Res.ok
  ((Xt.ret, (134 : Nat), [((2 : Nat), Value.int IntKind.i64 (2 : Int))], (60 : Nat), []), [],
    [(f (0 : Nat) == (3 : Int)) = false, (f (0 : Nat) == (2 : Int)) = false, (f (0 : Nat) == (5 : Int)) = false,
      ckC Try.prog (14 : Nat) = ckC Try.prog (14 : Nat),
      [((1 : Nat), Value.pointer (some (Addr.mk (1 : Nat) (0 : Nat) none))),
          ((3 : Nat), Value.pointer (some (Addr.mk (2 : Nat) (0 : Nat) none))), ((5 : Nat), Value.bool false)] =
        ckS false,
      (3 : Nat) ≤ (20 : Nat) ∧ (20 : Nat) ≤ (30 : Nat),
      CkOk
        (intAt
          [Value.int IntKind.i64 (f (0 : Nat)), Value.int IntKind.i64 (f (1 : Nat)),
            Value.int IntKind.i64 (f (2 : Nat)), Value.int IntKind.i64 (f (3 : Nat)),
            Value.int IntKind.i64 (f (4 : Nat)), Value.int IntKind.i64 (f (5 : Nat)),
            Value.int IntKind.i64 (f (6 : Nat)), Value.int IntKind.i64 (f (7 : Nat)),
            Value.int IntKind.i64 (f (8 : Nat)), Value.int IntKind.u64 (f (9 : Nat)),
            Value.int IntKind.u64 (f (10 : Nat)), Value.int IntKind.i64 (f (11 : Nat)),
            Value.int IntKind.i64 (f (12 : Nat)), Value.int IntKind.u64 (f (13 : Nat)),
            Value.int IntKind.i64 (f (14 : Nat)), Value.int IntKind.i64 (f (15 : Nat))])
        (unSa (saV (0 : Nat) a) (ckH f a)) (ckH f a)]) := by kernel_rfl
theorem c9_not (inr : Bool) (f : Nat → Int) (a : Sa) : prjT [2] (codeZ (ckV (ck14L Try.prog)) Try.prog (runZ (ckV (ck14L Try.prog)) Try.prog 5) 18 inr 100000 (ckC Try.prog 9) (SL 134 (ckS true)) (ckH f a) 20 [false, false, false]) =
Res.ok
  ((Xt.ret, (134 : Nat),
      [((2 : Nat),
          Value.int IntKind.i64
            (bif
                k21
                  (intAt
                    [Value.int IntKind.i64 (f (0 : Nat)), Value.int IntKind.i64 (f (1 : Nat)),
                      Value.int IntKind.i64 (f (2 : Nat)), Value.int IntKind.i64 (f (3 : Nat)),
                      Value.int IntKind.i64 (f (4 : Nat)), Value.int IntKind.i64 (f (5 : Nat)),
                      Value.int IntKind.i64 (f (6 : Nat)), Value.int IntKind.i64 (f (7 : Nat)),
                      Value.int IntKind.i64 (f (8 : Nat)), Value.int IntKind.u64 (f (9 : Nat)),
                      Value.int IntKind.u64 (f (10 : Nat)), Value.int IntKind.i64 (f (11 : Nat)),
                      Value.int IntKind.i64 (f (12 : Nat)), Value.int IntKind.u64 (f (13 : Nat)),
                      Value.int IntKind.i64 (f (14 : Nat)), Value.int IntKind.i64 (f (15 : Nat))])
                  (unSa (saV (0 : Nat) a) (ckH f a))
                  (true &&
                    c14
                      (intAt
                        [Value.int IntKind.i64 (f (0 : Nat)), Value.int IntKind.i64 (f (1 : Nat)),
                          Value.int IntKind.i64 (f (2 : Nat)), Value.int IntKind.i64 (f (3 : Nat)),
                          Value.int IntKind.i64 (f (4 : Nat)), Value.int IntKind.i64 (f (5 : Nat)),
                          Value.int IntKind.i64 (f (6 : Nat)), Value.int IntKind.i64 (f (7 : Nat)),
                          Value.int IntKind.i64 (f (8 : Nat)), Value.int IntKind.u64 (f (9 : Nat)),
                          Value.int IntKind.u64 (f (10 : Nat)), Value.int IntKind.i64 (f (11 : Nat)),
                          Value.int IntKind.i64 (f (12 : Nat)), Value.int IntKind.u64 (f (13 : Nat)),
                          Value.int IntKind.i64 (f (14 : Nat)), Value.int IntKind.i64 (f (15 : Nat))])) then
              (0 : Int)
            else (2 : Int)))],
      (60 : Nat), []),
    [],
    [(f (0 : Nat) == (3 : Int)) = false, (f (0 : Nat) == (2 : Int)) = false, (f (0 : Nat) == (5 : Int)) = false,
      ckC Try.prog (14 : Nat) = ckC Try.prog (14 : Nat),
      [((1 : Nat), Value.pointer (some (Addr.mk (1 : Nat) (0 : Nat) none))),
          ((3 : Nat), Value.pointer (some (Addr.mk (2 : Nat) (0 : Nat) none))), ((5 : Nat), Value.bool true)] =
        ckS true,
      (3 : Nat) ≤ (20 : Nat) ∧ (20 : Nat) ≤ (30 : Nat),
      CkOk
        (intAt
          [Value.int IntKind.i64 (f (0 : Nat)), Value.int IntKind.i64 (f (1 : Nat)),
            Value.int IntKind.i64 (f (2 : Nat)), Value.int IntKind.i64 (f (3 : Nat)),
            Value.int IntKind.i64 (f (4 : Nat)), Value.int IntKind.i64 (f (5 : Nat)),
            Value.int IntKind.i64 (f (6 : Nat)), Value.int IntKind.i64 (f (7 : Nat)),
            Value.int IntKind.i64 (f (8 : Nat)), Value.int IntKind.u64 (f (9 : Nat)),
            Value.int IntKind.u64 (f (10 : Nat)), Value.int IntKind.i64 (f (11 : Nat)),
            Value.int IntKind.i64 (f (12 : Nat)), Value.int IntKind.u64 (f (13 : Nat)),
            Value.int IntKind.i64 (f (14 : Nat)), Value.int IntKind.i64 (f (15 : Nat))])
        (unSa (saV (0 : Nat) a) (ckH f a)) (ckH f a)]) := by kernel_rfl
def ck9L (P : Program) : LFun := mkS 18 9 134 [1, 3, 5] (ckC P 9) (tlSpecO ckP (fun a => ckS a.2.2) (fun a => ckA a.1 a.2.1) 20 60 (fun a => ckO (k21 a.1 a.2.1 ((a.2.2 && c9 a.1) && c14 a.1))))
def bf4 (f : Nat → Int) : List Bool := [wB (f 3) 0 1073741824, wB (f 4) 0 1073741824, wB (f 5) 0 1073741824, wB (f 6) 0 1073741824, wB (f 7) 0 1073741824, wB (f 8) 0 1073741824, wB (f 11) 0 1073741824, wB (f 12) 0 1073741824, wB (f 14) 0 1073741824, wB (f 15) 0 1073741824]
theorem c4_0 (inr : Bool) (f : Nat → Int) (a : Sa) : prjT [2] (codeZ (ckV (ck9L Try.prog)) Try.prog (runZ (ckV (ck9L Try.prog)) Try.prog 5) 18 inr 100000 (ckC Try.prog 4) (SL 134 (ckS false)) (ckH f a) 10 [false, false, false, false, false, false, false, false, false, false]) =
Res.ok
  ((Xt.ret, (134 : Nat), [((2 : Nat), Value.int IntKind.i64 (2 : Int))], (60 : Nat), []), [],
    [false = false, false = false, false = false, false = false, false = false, false = false, false = false,
      false = false, false = false, false = false, ckC Try.prog (9 : Nat) = ckC Try.prog (9 : Nat),
      [((1 : Nat), Value.pointer (some (Addr.mk (1 : Nat) (0 : Nat) none))),
          ((3 : Nat), Value.pointer (some (Addr.mk (2 : Nat) (0 : Nat) none))), ((5 : Nat), Value.bool false)] =
        ckS false,
      (3 : Nat) ≤ (10 : Nat) ∧ (10 : Nat) ≤ (20 : Nat),
      CkOk
        (intAt
          [Value.int IntKind.i64 (f (0 : Nat)), Value.int IntKind.i64 (f (1 : Nat)),
            Value.int IntKind.i64 (f (2 : Nat)), Value.int IntKind.i64 (f (3 : Nat)),
            Value.int IntKind.i64 (f (4 : Nat)), Value.int IntKind.i64 (f (5 : Nat)),
            Value.int IntKind.i64 (f (6 : Nat)), Value.int IntKind.i64 (f (7 : Nat)),
            Value.int IntKind.i64 (f (8 : Nat)), Value.int IntKind.u64 (f (9 : Nat)),
            Value.int IntKind.u64 (f (10 : Nat)), Value.int IntKind.i64 (f (11 : Nat)),
            Value.int IntKind.i64 (f (12 : Nat)), Value.int IntKind.u64 (f (13 : Nat)),
            Value.int IntKind.i64 (f (14 : Nat)), Value.int IntKind.i64 (f (15 : Nat))])
        (unSa (saV (0 : Nat) a) (ckH f a)) (ckH f a)]) := by kernel_rfl
theorem c4_1 (inr : Bool) (f : Nat → Int) (a : Sa) : prjT [2] (codeZ (ckV (ck9L Try.prog)) Try.prog (runZ (ckV (ck9L Try.prog)) Try.prog 5) 18 inr 100000 (ckC Try.prog 4) (SL 134 (ckS true)) (ckH f a) 10 [true, false, false, false, false, false, false, false, false, false]) =
Res.ok
  ((Xt.ret, (134 : Nat), [((2 : Nat), Value.int IntKind.i64 (2 : Int))], (60 : Nat), []), [],
    [true = true,
      (bif true then decide (f (3 : Nat) ≥ (0 : Int)) && decide (f (3 : Nat) ≤ (1073741824 : Int)) else false) = false,
      false = false, false = false, false = false, false = false, false = false, false = false, false = false,
      false = false, ckC Try.prog (9 : Nat) = ckC Try.prog (9 : Nat),
      [((1 : Nat), Value.pointer (some (Addr.mk (1 : Nat) (0 : Nat) none))),
          ((3 : Nat), Value.pointer (some (Addr.mk (2 : Nat) (0 : Nat) none))), ((5 : Nat), Value.bool false)] =
        ckS false,
      (3 : Nat) ≤ (10 : Nat) ∧ (10 : Nat) ≤ (20 : Nat),
      CkOk
        (intAt
          [Value.int IntKind.i64 (f (0 : Nat)), Value.int IntKind.i64 (f (1 : Nat)),
            Value.int IntKind.i64 (f (2 : Nat)), Value.int IntKind.i64 (f (3 : Nat)),
            Value.int IntKind.i64 (f (4 : Nat)), Value.int IntKind.i64 (f (5 : Nat)),
            Value.int IntKind.i64 (f (6 : Nat)), Value.int IntKind.i64 (f (7 : Nat)),
            Value.int IntKind.i64 (f (8 : Nat)), Value.int IntKind.u64 (f (9 : Nat)),
            Value.int IntKind.u64 (f (10 : Nat)), Value.int IntKind.i64 (f (11 : Nat)),
            Value.int IntKind.i64 (f (12 : Nat)), Value.int IntKind.u64 (f (13 : Nat)),
            Value.int IntKind.i64 (f (14 : Nat)), Value.int IntKind.i64 (f (15 : Nat))])
        (unSa (saV (0 : Nat) a) (rowsN (10 : Nat) [] (ckH f a))) (rowsN (10 : Nat) [] (ckH f a))]) := by kernel_rfl
theorem c4_2 (inr : Bool) (f : Nat → Int) (a : Sa) : prjT [2] (codeZ (ckV (ck9L Try.prog)) Try.prog (runZ (ckV (ck9L Try.prog)) Try.prog 5) 18 inr 100000 (ckC Try.prog 4) (SL 134 (ckS true)) (ckH f a) 10 [true, true, false, false, false, false, false, false, false, false]) =
Res.ok
  ((Xt.ret, (134 : Nat), [((2 : Nat), Value.int IntKind.i64 (2 : Int))], (60 : Nat), []), [],
    [true = true,
      (bif true then decide (f (3 : Nat) ≥ (0 : Int)) && decide (f (3 : Nat) ≤ (1073741824 : Int)) else false) = true,
      (bif true then decide (f (4 : Nat) ≥ (0 : Int)) && decide (f (4 : Nat) ≤ (1073741824 : Int)) else false) = false,
      false = false, false = false, false = false, false = false, false = false, false = false, false = false,
      ckC Try.prog (9 : Nat) = ckC Try.prog (9 : Nat),
      [((1 : Nat), Value.pointer (some (Addr.mk (1 : Nat) (0 : Nat) none))),
          ((3 : Nat), Value.pointer (some (Addr.mk (2 : Nat) (0 : Nat) none))), ((5 : Nat), Value.bool false)] =
        ckS false,
      (3 : Nat) ≤ (10 : Nat) ∧ (10 : Nat) ≤ (20 : Nat),
      CkOk
        (intAt
          [Value.int IntKind.i64 (f (0 : Nat)), Value.int IntKind.i64 (f (1 : Nat)),
            Value.int IntKind.i64 (f (2 : Nat)), Value.int IntKind.i64 (f (3 : Nat)),
            Value.int IntKind.i64 (f (4 : Nat)), Value.int IntKind.i64 (f (5 : Nat)),
            Value.int IntKind.i64 (f (6 : Nat)), Value.int IntKind.i64 (f (7 : Nat)),
            Value.int IntKind.i64 (f (8 : Nat)), Value.int IntKind.u64 (f (9 : Nat)),
            Value.int IntKind.u64 (f (10 : Nat)), Value.int IntKind.i64 (f (11 : Nat)),
            Value.int IntKind.i64 (f (12 : Nat)), Value.int IntKind.u64 (f (13 : Nat)),
            Value.int IntKind.i64 (f (14 : Nat)), Value.int IntKind.i64 (f (15 : Nat))])
        (unSa (saV (0 : Nat) a) (rowsN (10 : Nat) [] (rowsN (10 : Nat) [] (ckH f a))))
        (rowsN (10 : Nat) [] (rowsN (10 : Nat) [] (ckH f a)))]) := by kernel_rfl
theorem c4_3 (inr : Bool) (f : Nat → Int) (a : Sa) : prjT [2] (codeZ (ckV (ck9L Try.prog)) Try.prog (runZ (ckV (ck9L Try.prog)) Try.prog 5) 18 inr 100000 (ckC Try.prog 4) (SL 134 (ckS true)) (ckH f a) 10 [true, true, true, false, false, false, false, false, false, false]) =
Res.ok
  ((Xt.ret, (134 : Nat), [((2 : Nat), Value.int IntKind.i64 (2 : Int))], (60 : Nat), []), [],
    [true = true,
      (bif true then decide (f (3 : Nat) ≥ (0 : Int)) && decide (f (3 : Nat) ≤ (1073741824 : Int)) else false) = true,
      (bif true then decide (f (4 : Nat) ≥ (0 : Int)) && decide (f (4 : Nat) ≤ (1073741824 : Int)) else false) = true,
      (bif true then decide (f (5 : Nat) ≥ (0 : Int)) && decide (f (5 : Nat) ≤ (1073741824 : Int)) else false) = false,
      false = false, false = false, false = false, false = false, false = false, false = false,
      ckC Try.prog (9 : Nat) = ckC Try.prog (9 : Nat),
      [((1 : Nat), Value.pointer (some (Addr.mk (1 : Nat) (0 : Nat) none))),
          ((3 : Nat), Value.pointer (some (Addr.mk (2 : Nat) (0 : Nat) none))), ((5 : Nat), Value.bool false)] =
        ckS false,
      (3 : Nat) ≤ (10 : Nat) ∧ (10 : Nat) ≤ (20 : Nat),
      CkOk
        (intAt
          [Value.int IntKind.i64 (f (0 : Nat)), Value.int IntKind.i64 (f (1 : Nat)),
            Value.int IntKind.i64 (f (2 : Nat)), Value.int IntKind.i64 (f (3 : Nat)),
            Value.int IntKind.i64 (f (4 : Nat)), Value.int IntKind.i64 (f (5 : Nat)),
            Value.int IntKind.i64 (f (6 : Nat)), Value.int IntKind.i64 (f (7 : Nat)),
            Value.int IntKind.i64 (f (8 : Nat)), Value.int IntKind.u64 (f (9 : Nat)),
            Value.int IntKind.u64 (f (10 : Nat)), Value.int IntKind.i64 (f (11 : Nat)),
            Value.int IntKind.i64 (f (12 : Nat)), Value.int IntKind.u64 (f (13 : Nat)),
            Value.int IntKind.i64 (f (14 : Nat)), Value.int IntKind.i64 (f (15 : Nat))])
        (unSa (saV (0 : Nat) a) (rowsN (10 : Nat) [] (rowsN (10 : Nat) [] (rowsN (10 : Nat) [] (ckH f a)))))
        (rowsN (10 : Nat) [] (rowsN (10 : Nat) [] (rowsN (10 : Nat) [] (ckH f a))))]) := by kernel_rfl
theorem c4_4 (inr : Bool) (f : Nat → Int) (a : Sa) : prjT [2] (codeZ (ckV (ck9L Try.prog)) Try.prog (runZ (ckV (ck9L Try.prog)) Try.prog 5) 18 inr 100000 (ckC Try.prog 4) (SL 134 (ckS true)) (ckH f a) 10 [true, true, true, true, false, false, false, false, false, false]) =
Res.ok
  ((Xt.ret, (134 : Nat), [((2 : Nat), Value.int IntKind.i64 (2 : Int))], (60 : Nat), []), [],
    [true = true,
      (bif true then decide (f (3 : Nat) ≥ (0 : Int)) && decide (f (3 : Nat) ≤ (1073741824 : Int)) else false) = true,
      (bif true then decide (f (4 : Nat) ≥ (0 : Int)) && decide (f (4 : Nat) ≤ (1073741824 : Int)) else false) = true,
      (bif true then decide (f (5 : Nat) ≥ (0 : Int)) && decide (f (5 : Nat) ≤ (1073741824 : Int)) else false) = true,
      (bif true then decide (f (6 : Nat) ≥ (0 : Int)) && decide (f (6 : Nat) ≤ (1073741824 : Int)) else false) = false,
      false = false, false = false, false = false, false = false, false = false,
      ckC Try.prog (9 : Nat) = ckC Try.prog (9 : Nat),
      [((1 : Nat), Value.pointer (some (Addr.mk (1 : Nat) (0 : Nat) none))),
          ((3 : Nat), Value.pointer (some (Addr.mk (2 : Nat) (0 : Nat) none))), ((5 : Nat), Value.bool false)] =
        ckS false,
      (3 : Nat) ≤ (10 : Nat) ∧ (10 : Nat) ≤ (20 : Nat),
      CkOk
        (intAt
          [Value.int IntKind.i64 (f (0 : Nat)), Value.int IntKind.i64 (f (1 : Nat)),
            Value.int IntKind.i64 (f (2 : Nat)), Value.int IntKind.i64 (f (3 : Nat)),
            Value.int IntKind.i64 (f (4 : Nat)), Value.int IntKind.i64 (f (5 : Nat)),
            Value.int IntKind.i64 (f (6 : Nat)), Value.int IntKind.i64 (f (7 : Nat)),
            Value.int IntKind.i64 (f (8 : Nat)), Value.int IntKind.u64 (f (9 : Nat)),
            Value.int IntKind.u64 (f (10 : Nat)), Value.int IntKind.i64 (f (11 : Nat)),
            Value.int IntKind.i64 (f (12 : Nat)), Value.int IntKind.u64 (f (13 : Nat)),
            Value.int IntKind.i64 (f (14 : Nat)), Value.int IntKind.i64 (f (15 : Nat))])
        (unSa (saV (0 : Nat) a)
          (rowsN (10 : Nat) [] (rowsN (10 : Nat) [] (rowsN (10 : Nat) [] (rowsN (10 : Nat) [] (ckH f a))))))
        (rowsN (10 : Nat) [] (rowsN (10 : Nat) [] (rowsN (10 : Nat) [] (rowsN (10 : Nat) [] (ckH f a)))))]) := by kernel_rfl
theorem c4_5 (inr : Bool) (f : Nat → Int) (a : Sa) : prjT [2] (codeZ (ckV (ck9L Try.prog)) Try.prog (runZ (ckV (ck9L Try.prog)) Try.prog 5) 18 inr 100000 (ckC Try.prog 4) (SL 134 (ckS true)) (ckH f a) 10 [true, true, true, true, true, false, false, false, false, false]) =
Res.ok
  ((Xt.ret, (134 : Nat), [((2 : Nat), Value.int IntKind.i64 (2 : Int))], (60 : Nat), []), [],
    [true = true,
      (bif true then decide (f (3 : Nat) ≥ (0 : Int)) && decide (f (3 : Nat) ≤ (1073741824 : Int)) else false) = true,
      (bif true then decide (f (4 : Nat) ≥ (0 : Int)) && decide (f (4 : Nat) ≤ (1073741824 : Int)) else false) = true,
      (bif true then decide (f (5 : Nat) ≥ (0 : Int)) && decide (f (5 : Nat) ≤ (1073741824 : Int)) else false) = true,
      (bif true then decide (f (6 : Nat) ≥ (0 : Int)) && decide (f (6 : Nat) ≤ (1073741824 : Int)) else false) = true,
      (bif true then decide (f (7 : Nat) ≥ (0 : Int)) && decide (f (7 : Nat) ≤ (1073741824 : Int)) else false) = false,
      false = false, false = false, false = false, false = false, ckC Try.prog (9 : Nat) = ckC Try.prog (9 : Nat),
      [((1 : Nat), Value.pointer (some (Addr.mk (1 : Nat) (0 : Nat) none))),
          ((3 : Nat), Value.pointer (some (Addr.mk (2 : Nat) (0 : Nat) none))), ((5 : Nat), Value.bool false)] =
        ckS false,
      (3 : Nat) ≤ (10 : Nat) ∧ (10 : Nat) ≤ (20 : Nat),
      CkOk
        (intAt
          [Value.int IntKind.i64 (f (0 : Nat)), Value.int IntKind.i64 (f (1 : Nat)),
            Value.int IntKind.i64 (f (2 : Nat)), Value.int IntKind.i64 (f (3 : Nat)),
            Value.int IntKind.i64 (f (4 : Nat)), Value.int IntKind.i64 (f (5 : Nat)),
            Value.int IntKind.i64 (f (6 : Nat)), Value.int IntKind.i64 (f (7 : Nat)),
            Value.int IntKind.i64 (f (8 : Nat)), Value.int IntKind.u64 (f (9 : Nat)),
            Value.int IntKind.u64 (f (10 : Nat)), Value.int IntKind.i64 (f (11 : Nat)),
            Value.int IntKind.i64 (f (12 : Nat)), Value.int IntKind.u64 (f (13 : Nat)),
            Value.int IntKind.i64 (f (14 : Nat)), Value.int IntKind.i64 (f (15 : Nat))])
        (unSa (saV (0 : Nat) a)
          (rowsN (10 : Nat) []
            (rowsN (10 : Nat) [] (rowsN (10 : Nat) [] (rowsN (10 : Nat) [] (rowsN (10 : Nat) [] (ckH f a)))))))
        (rowsN (10 : Nat) []
          (rowsN (10 : Nat) [] (rowsN (10 : Nat) [] (rowsN (10 : Nat) [] (rowsN (10 : Nat) [] (ckH f a))))))]) := by kernel_rfl
theorem c4_6 (inr : Bool) (f : Nat → Int) (a : Sa) : prjT [2] (codeZ (ckV (ck9L Try.prog)) Try.prog (runZ (ckV (ck9L Try.prog)) Try.prog 5) 18 inr 100000 (ckC Try.prog 4) (SL 134 (ckS true)) (ckH f a) 10 [true, true, true, true, true, true, false, false, false, false]) =
Res.ok
  ((Xt.ret, (134 : Nat), [((2 : Nat), Value.int IntKind.i64 (2 : Int))], (60 : Nat), []), [],
    [true = true,
      (bif true then decide (f (3 : Nat) ≥ (0 : Int)) && decide (f (3 : Nat) ≤ (1073741824 : Int)) else false) = true,
      (bif true then decide (f (4 : Nat) ≥ (0 : Int)) && decide (f (4 : Nat) ≤ (1073741824 : Int)) else false) = true,
      (bif true then decide (f (5 : Nat) ≥ (0 : Int)) && decide (f (5 : Nat) ≤ (1073741824 : Int)) else false) = true,
      (bif true then decide (f (6 : Nat) ≥ (0 : Int)) && decide (f (6 : Nat) ≤ (1073741824 : Int)) else false) = true,
      (bif true then decide (f (7 : Nat) ≥ (0 : Int)) && decide (f (7 : Nat) ≤ (1073741824 : Int)) else false) = true,
      (bif true then decide (f (8 : Nat) ≥ (0 : Int)) && decide (f (8 : Nat) ≤ (1073741824 : Int)) else false) = false,
      false = false, false = false, false = false, ckC Try.prog (9 : Nat) = ckC Try.prog (9 : Nat),
      [((1 : Nat), Value.pointer (some (Addr.mk (1 : Nat) (0 : Nat) none))),
          ((3 : Nat), Value.pointer (some (Addr.mk (2 : Nat) (0 : Nat) none))), ((5 : Nat), Value.bool false)] =
        ckS false,
      (3 : Nat) ≤ (10 : Nat) ∧ (10 : Nat) ≤ (20 : Nat),
      CkOk
        (intAt
          [Value.int IntKind.i64 (f (0 : Nat)), Value.int IntKind.i64 (f (1 : Nat)),
            Value.int IntKind.i64 (f (2 : Nat)), Value.int IntKind.i64 (f (3 : Nat)),
            Value.int IntKind.i64 (f (4 : Nat)), Value.int IntKind.i64 (f (5 : Nat)),
            Value.int IntKind.i64 (f (6 : Nat)), Value.int IntKind.i64 (f (7 : Nat)),
            Value.int IntKind.i64 (f (8 : Nat)), Value.int IntKind.u64 (f (9 : Nat)),
            Value.int IntKind.u64 (f (10 : Nat)), Value.int IntKind.i64 (f (11 : Nat)),
            Value.int IntKind.i64 (f (12 : Nat)), Value.int IntKind.u64 (f (13 : Nat)),
            Value.int IntKind.i64 (f (14 : Nat)), Value.int IntKind.i64 (f (15 : Nat))])
        (unSa (saV (0 : Nat) a)
          (rowsN (10 : Nat) []
            (rowsN (10 : Nat) []
              (rowsN (10 : Nat) [] (rowsN (10 : Nat) [] (rowsN (10 : Nat) [] (rowsN (10 : Nat) [] (ckH f a))))))))
        (rowsN (10 : Nat) []
          (rowsN (10 : Nat) []
            (rowsN (10 : Nat) [] (rowsN (10 : Nat) [] (rowsN (10 : Nat) [] (rowsN (10 : Nat) [] (ckH f a)))))))]) := by kernel_rfl
theorem c4_7 (inr : Bool) (f : Nat → Int) (a : Sa) : prjT [2] (codeZ (ckV (ck9L Try.prog)) Try.prog (runZ (ckV (ck9L Try.prog)) Try.prog 5) 18 inr 100000 (ckC Try.prog 4) (SL 134 (ckS true)) (ckH f a) 10 [true, true, true, true, true, true, true, false, false, false]) =
Res.ok
  ((Xt.ret, (134 : Nat), [((2 : Nat), Value.int IntKind.i64 (2 : Int))], (60 : Nat), []), [],
    [true = true,
      (bif true then decide (f (3 : Nat) ≥ (0 : Int)) && decide (f (3 : Nat) ≤ (1073741824 : Int)) else false) = true,
      (bif true then decide (f (4 : Nat) ≥ (0 : Int)) && decide (f (4 : Nat) ≤ (1073741824 : Int)) else false) = true,
      (bif true then decide (f (5 : Nat) ≥ (0 : Int)) && decide (f (5 : Nat) ≤ (1073741824 : Int)) else false) = true,
      (bif true then decide (f (6 : Nat) ≥ (0 : Int)) && decide (f (6 : Nat) ≤ (1073741824 : Int)) else false) = true,
      (bif true then decide (f (7 : Nat) ≥ (0 : Int)) && decide (f (7 : Nat) ≤ (1073741824 : Int)) else false) = true,
      (bif true then decide (f (8 : Nat) ≥ (0 : Int)) && decide (f (8 : Nat) ≤ (1073741824 : Int)) else false) = true,
      (bif true then decide (f (11 : Nat) ≥ (0 : Int)) && decide (f (11 : Nat) ≤ (1073741824 : Int)) else false) =
        false,
      false = false, false = false, ckC Try.prog (9 : Nat) = ckC Try.prog (9 : Nat),
      [((1 : Nat), Value.pointer (some (Addr.mk (1 : Nat) (0 : Nat) none))),
          ((3 : Nat), Value.pointer (some (Addr.mk (2 : Nat) (0 : Nat) none))), ((5 : Nat), Value.bool false)] =
        ckS false,
      (3 : Nat) ≤ (10 : Nat) ∧ (10 : Nat) ≤ (20 : Nat),
      CkOk
        (intAt
          [Value.int IntKind.i64 (f (0 : Nat)), Value.int IntKind.i64 (f (1 : Nat)),
            Value.int IntKind.i64 (f (2 : Nat)), Value.int IntKind.i64 (f (3 : Nat)),
            Value.int IntKind.i64 (f (4 : Nat)), Value.int IntKind.i64 (f (5 : Nat)),
            Value.int IntKind.i64 (f (6 : Nat)), Value.int IntKind.i64 (f (7 : Nat)),
            Value.int IntKind.i64 (f (8 : Nat)), Value.int IntKind.u64 (f (9 : Nat)),
            Value.int IntKind.u64 (f (10 : Nat)), Value.int IntKind.i64 (f (11 : Nat)),
            Value.int IntKind.i64 (f (12 : Nat)), Value.int IntKind.u64 (f (13 : Nat)),
            Value.int IntKind.i64 (f (14 : Nat)), Value.int IntKind.i64 (f (15 : Nat))])
        (unSa (saV (0 : Nat) a)
          (rowsN (10 : Nat) []
            (rowsN (10 : Nat) []
              (rowsN (10 : Nat) []
                (rowsN (10 : Nat) [] (rowsN (10 : Nat) [] (rowsN (10 : Nat) [] (rowsN (10 : Nat) [] (ckH f a)))))))))
        (rowsN (10 : Nat) []
          (rowsN (10 : Nat) []
            (rowsN (10 : Nat) []
              (rowsN (10 : Nat) [] (rowsN (10 : Nat) [] (rowsN (10 : Nat) [] (rowsN (10 : Nat) [] (ckH f a))))))))]) := by kernel_rfl
theorem c4_8 (inr : Bool) (f : Nat → Int) (a : Sa) : prjT [2] (codeZ (ckV (ck9L Try.prog)) Try.prog (runZ (ckV (ck9L Try.prog)) Try.prog 5) 18 inr 100000 (ckC Try.prog 4) (SL 134 (ckS true)) (ckH f a) 10 [true, true, true, true, true, true, true, true, false, false]) =
Res.ok
  ((Xt.ret, (134 : Nat), [((2 : Nat), Value.int IntKind.i64 (2 : Int))], (60 : Nat), []), [],
    [true = true,
      (bif true then decide (f (3 : Nat) ≥ (0 : Int)) && decide (f (3 : Nat) ≤ (1073741824 : Int)) else false) = true,
      (bif true then decide (f (4 : Nat) ≥ (0 : Int)) && decide (f (4 : Nat) ≤ (1073741824 : Int)) else false) = true,
      (bif true then decide (f (5 : Nat) ≥ (0 : Int)) && decide (f (5 : Nat) ≤ (1073741824 : Int)) else false) = true,
      (bif true then decide (f (6 : Nat) ≥ (0 : Int)) && decide (f (6 : Nat) ≤ (1073741824 : Int)) else false) = true,
      (bif true then decide (f (7 : Nat) ≥ (0 : Int)) && decide (f (7 : Nat) ≤ (1073741824 : Int)) else false) = true,
      (bif true then decide (f (8 : Nat) ≥ (0 : Int)) && decide (f (8 : Nat) ≤ (1073741824 : Int)) else false) = true,
      (bif true then decide (f (11 : Nat) ≥ (0 : Int)) && decide (f (11 : Nat) ≤ (1073741824 : Int)) else false) = true,
      (bif true then decide (f (12 : Nat) ≥ (0 : Int)) && decide (f (12 : Nat) ≤ (1073741824 : Int)) else false) =
        false,
      false = false, ckC Try.prog (9 : Nat) = ckC Try.prog (9 : Nat),
      [((1 : Nat), Value.pointer (some (Addr.mk (1 : Nat) (0 : Nat) none))),
          ((3 : Nat), Value.pointer (some (Addr.mk (2 : Nat) (0 : Nat) none))), ((5 : Nat), Value.bool false)] =
        ckS false,
      (3 : Nat) ≤ (10 : Nat) ∧ (10 : Nat) ≤ (20 : Nat),
      CkOk
        (intAt
          [Value.int IntKind.i64 (f (0 : Nat)), Value.int IntKind.i64 (f (1 : Nat)),
            Value.int IntKind.i64 (f (2 : Nat)), Value.int IntKind.i64 (f (3 : Nat)),
            Value.int IntKind.i64 (f (4 : Nat)), Value.int IntKind.i64 (f (5 : Nat)),
            Value.int IntKind.i64 (f (6 : Nat)), Value.int IntKind.i64 (f (7 : Nat)),
            Value.int IntKind.i64 (f (8 : Nat)), Value.int IntKind.u64 (f (9 : Nat)),
            Value.int IntKind.u64 (f (10 : Nat)), Value.int IntKind.i64 (f (11 : Nat)),
            Value.int IntKind.i64 (f (12 : Nat)), Value.int IntKind.u64 (f (13 : Nat)),
            Value.int IntKind.i64 (f (14 : Nat)), Value.int IntKind.i64 (f (15 : Nat))])
        (unSa (saV (0 : Nat) a)
          (rowsN (10 : Nat) []
            (rowsN (10 : Nat) []
              (rowsN (10 : Nat) []
                (rowsN (10 : Nat) []
                  (rowsN (10 : Nat) [] (rowsN (10 : Nat) [] (rowsN (10 : Nat) [] (rowsN (10 : Nat) [] (ckH f a))))))))))
        (rowsN (10 : Nat) []
          (rowsN (10 : Nat) []
            (rowsN (10 : Nat) []
              (rowsN (10 : Nat) []
                (rowsN (10 : Nat) [] (rowsN (10 : Nat) [] (rowsN (10 : Nat) [] (rowsN (10 : Nat) [] (ckH f a)))))))))]) := by kernel_rfl
theorem c4_9 (inr : Bool) (f : Nat → Int) (a : Sa) : prjT [2] (codeZ (ckV (ck9L Try.prog)) Try.prog (runZ (ckV (ck9L Try.prog)) Try.prog 5) 18 inr 100000 (ckC Try.prog 4) (SL 134 (ckS true)) (ckH f a) 10 [true, true, true, true, true, true, true, true, true, false]) =
Res.ok
  ((Xt.ret, (134 : Nat), [((2 : Nat), Value.int IntKind.i64 (2 : Int))], (60 : Nat), []), [],
    [true = true,
      (bif true then decide (f (3 : Nat) ≥ (0 : Int)) && decide (f (3 : Nat) ≤ (1073741824 : Int)) else false) = true,
      (bif true then decide (f (4 : Nat) ≥ (0 : Int)) && decide (f (4 : Nat) ≤ (1073741824 : Int)) else false) = true,
      (bif true then decide (f (5 : Nat) ≥ (0 : Int)) && decide (f (5 : Nat) ≤ (1073741824 : Int)) else false) = true,
      (bif true then decide (f (6 : Nat) ≥ (0 : Int)) && decide (f (6 : Nat) ≤ (1073741824 : Int)) else false) = true,
      (bif true then decide (f (7 : Nat) ≥ (0 : Int)) && decide (f (7 : Nat) ≤ (1073741824 : Int)) else false) = true,
      (bif true then decide (f (8 : Nat) ≥ (0 : Int)) && decide (f (8 : Nat) ≤ (1073741824 : Int)) else false) = true,
      (bif true then decide (f (11 : Nat) ≥ (0 : Int)) && decide (f (11 : Nat) ≤ (1073741824 : Int)) else false) = true,
      (bif true then decide (f (12 : Nat) ≥ (0 : Int)) && decide (f (12 : Nat) ≤ (1073741824 : Int)) else false) = true,
      (bif true then decide (f (14 : Nat) ≥ (0 : Int)) && decide (f (14 : Nat) ≤ (1073741824 : Int)) else false) =
        false,
      ckC Try.prog (9 : Nat) = ckC Try.prog (9 : Nat),
      [((1 : Nat), Value.pointer (some (Addr.mk (1 : Nat) (0 : Nat) none))),
          ((3 : Nat), Value.pointer (some (Addr.mk (2 : Nat) (0 : Nat) none))), ((5 : Nat), Value.bool false)] =
        ckS false,
      (3 : Nat) ≤ (10 : Nat) ∧ (10 : Nat) ≤ (20 : Nat),
      CkOk
        (intAt
          [Value.int IntKind.i64 (f (0 : Nat)), Value.int IntKind.i64 (f (1 : Nat)),
            Value.int IntKind.i64 (f (2 : Nat)), Value.int IntKind.i64 (f (3 : Nat)),
            Value.int IntKind.i64 (f (4 : Nat)), Value.int IntKind.i64 (f (5 : Nat)),
            Value.int IntKind.i64 (f (6 : Nat)), Value.int IntKind.i64 (f (7 : Nat)),
            Value.int IntKind.i64 (f (8 : Nat)), Value.int IntKind.u64 (f (9 : Nat)),
            Value.int IntKind.u64 (f (10 : Nat)), Value.int IntKind.i64 (f (11 : Nat)),
            Value.int IntKind.i64 (f (12 : Nat)), Value.int IntKind.u64 (f (13 : Nat)),
            Value.int IntKind.i64 (f (14 : Nat)), Value.int IntKind.i64 (f (15 : Nat))])
        (unSa (saV (0 : Nat) a)
          (rowsN (10 : Nat) []
            (rowsN (10 : Nat) []
              (rowsN (10 : Nat) []
                (rowsN (10 : Nat) []
                  (rowsN (10 : Nat) []
                    (rowsN (10 : Nat) []
                      (rowsN (10 : Nat) [] (rowsN (10 : Nat) [] (rowsN (10 : Nat) [] (ckH f a)))))))))))
        (rowsN (10 : Nat) []
          (rowsN (10 : Nat) []
            (rowsN (10 : Nat) []
              (rowsN (10 : Nat) []
                (rowsN (10 : Nat) []
                  (rowsN (10 : Nat) []
                    (rowsN (10 : Nat) [] (rowsN (10 : Nat) [] (rowsN (10 : Nat) [] (ckH f a))))))))))]) := by kernel_rfl
theorem c4_10 (inr : Bool) (f : Nat → Int) (a : Sa) : prjT [2] (codeZ (ckV (ck9L Try.prog)) Try.prog (runZ (ckV (ck9L Try.prog)) Try.prog 5) 18 inr 100000 (ckC Try.prog 4) (SL 134 (ckS true)) (ckH f a) 10 [true, true, true, true, true, true, true, true, true, true]) =
Res.ok
  ((Xt.ret, (134 : Nat),
      [((2 : Nat),
          Value.int IntKind.i64
            (bif
                k21
                  (intAt
                    [Value.int IntKind.i64 (f (0 : Nat)), Value.int IntKind.i64 (f (1 : Nat)),
                      Value.int IntKind.i64 (f (2 : Nat)), Value.int IntKind.i64 (f (3 : Nat)),
                      Value.int IntKind.i64 (f (4 : Nat)), Value.int IntKind.i64 (f (5 : Nat)),
                      Value.int IntKind.i64 (f (6 : Nat)), Value.int IntKind.i64 (f (7 : Nat)),
                      Value.int IntKind.i64 (f (8 : Nat)), Value.int IntKind.u64 (f (9 : Nat)),
                      Value.int IntKind.u64 (f (10 : Nat)), Value.int IntKind.i64 (f (11 : Nat)),
                      Value.int IntKind.i64 (f (12 : Nat)), Value.int IntKind.u64 (f (13 : Nat)),
                      Value.int IntKind.i64 (f (14 : Nat)), Value.int IntKind.i64 (f (15 : Nat))])
                  (unSa (saV (0 : Nat) a)
                    (rowsN (10 : Nat) []
                      (rowsN (10 : Nat) []
                        (rowsN (10 : Nat) []
                          (rowsN (10 : Nat) []
                            (rowsN (10 : Nat) []
                              (rowsN (10 : Nat) []
                                (rowsN (10 : Nat) []
                                  (rowsN (10 : Nat) [] (rowsN (10 : Nat) [] (rowsN (10 : Nat) [] (ckH f a))))))))))))
                  ((bif true then decide (f (15 : Nat) ≥ (0 : Int)) && decide (f (15 : Nat) ≤ (1073741824 : Int))
                      else false) &&
                      c9
                        (intAt
                          [Value.int IntKind.i64 (f (0 : Nat)), Value.int IntKind.i64 (f (1 : Nat)),
                            Value.int IntKind.i64 (f (2 : Nat)), Value.int IntKind.i64 (f (3 : Nat)),
                            Value.int IntKind.i64 (f (4 : Nat)), Value.int IntKind.i64 (f (5 : Nat)),
                            Value.int IntKind.i64 (f (6 : Nat)), Value.int IntKind.i64 (f (7 : Nat)),
                            Value.int IntKind.i64 (f (8 : Nat)), Value.int IntKind.u64 (f (9 : Nat)),
                            Value.int IntKind.u64 (f (10 : Nat)), Value.int IntKind.i64 (f (11 : Nat)),
                            Value.int IntKind.i64 (f (12 : Nat)), Value.int IntKind.u64 (f (13 : Nat)),
                            Value.int IntKind.i64 (f (14 : Nat)), Value.int IntKind.i64 (f (15 : Nat))]) &&
                    c14
                      (intAt
                        [Value.int IntKind.i64 (f (0 : Nat)), Value.int IntKind.i64 (f (1 : Nat)),
                          Value.int IntKind.i64 (f (2 : Nat)), Value.int IntKind.i64 (f (3 : Nat)),
                          Value.int IntKind.i64 (f (4 : Nat)), Value.int IntKind.i64 (f (5 : Nat)),
                          Value.int IntKind.i64 (f (6 : Nat)), Value.int IntKind.i64 (f (7 : Nat)),
                          Value.int IntKind.i64 (f (8 : Nat)), Value.int IntKind.u64 (f (9 : Nat)),
                          Value.int IntKind.u64 (f (10 : Nat)), Value.int IntKind.i64 (f (11 : Nat)),
                          Value.int IntKind.i64 (f (12 : Nat)), Value.int IntKind.u64 (f (13 : Nat)),
                          Value.int IntKind.i64 (f (14 : Nat)), Value.int IntKind.i64 (f (15 : Nat))])) then
              (0 : Int)
            else (2 : Int)))],
      (60 : Nat), []),
    [],
    [true = true,
      (bif true then decide (f (3 : Nat) ≥ (0 : Int)) && decide (f (3 : Nat) ≤ (1073741824 : Int)) else false) = true,
      (bif true then decide (f (4 : Nat) ≥ (0 : Int)) && decide (f (4 : Nat) ≤ (1073741824 : Int)) else false) = true,
      (bif true then decide (f (5 : Nat) ≥ (0 : Int)) && decide (f (5 : Nat) ≤ (1073741824 : Int)) else false) = true,
      (bif true then decide (f (6 : Nat) ≥ (0 : Int)) && decide (f (6 : Nat) ≤ (1073741824 : Int)) else false) = true,
      (bif true then decide (f (7 : Nat) ≥ (0 : Int)) && decide (f (7 : Nat) ≤ (1073741824 : Int)) else false) = true,
      (bif true then decide (f (8 : Nat) ≥ (0 : Int)) && decide (f (8 : Nat) ≤ (1073741824 : Int)) else false) = true,
      (bif true then decide (f (11 : Nat) ≥ (0 : Int)) && decide (f (11 : Nat) ≤ (1073741824 : Int)) else false) = true,
      (bif true then decide (f (12 : Nat) ≥ (0 : Int)) && decide (f (12 : Nat) ≤ (1073741824 : Int)) else false) = true,
      (bif true then decide (f (14 : Nat) ≥ (0 : Int)) && decide (f (14 : Nat) ≤ (1073741824 : Int)) else false) = true,
      ckC Try.prog (9 : Nat) = ckC Try.prog (9 : Nat),
      [((1 : Nat), Value.pointer (some (Addr.mk (1 : Nat) (0 : Nat) none))),
          ((3 : Nat), Value.pointer (some (Addr.mk (2 : Nat) (0 : Nat) none))),
          ((5 : Nat),
            Value.bool
              (bif true then decide (f (15 : Nat) ≥ (0 : Int)) && decide (f (15 : Nat) ≤ (1073741824 : Int))
              else false))] =
        ckS (bif true then decide (f (15 : Nat) ≥ (0 : Int)) && decide (f (15 : Nat) ≤ (1073741824 : Int)) else false),
      (3 : Nat) ≤ (10 : Nat) ∧ (10 : Nat) ≤ (20 : Nat),
      CkOk
        (intAt
          [Value.int IntKind.i64 (f (0 : Nat)), Value.int IntKind.i64 (f (1 : Nat)),
            Value.int IntKind.i64 (f (2 : Nat)), Value.int IntKind.i64 (f (3 : Nat)),
            Value.int IntKind.i64 (f (4 : Nat)), Value.int IntKind.i64 (f (5 : Nat)),
            Value.int IntKind.i64 (f (6 : Nat)), Value.int IntKind.i64 (f (7 : Nat)),
            Value.int IntKind.i64 (f (8 : Nat)), Value.int IntKind.u64 (f (9 : Nat)),
            Value.int IntKind.u64 (f (10 : Nat)), Value.int IntKind.i64 (f (11 : Nat)),
            Value.int IntKind.i64 (f (12 : Nat)), Value.int IntKind.u64 (f (13 : Nat)),
            Value.int IntKind.i64 (f (14 : Nat)), Value.int IntKind.i64 (f (15 : Nat))])
        (unSa (saV (0 : Nat) a)
          (rowsN (10 : Nat) []
            (rowsN (10 : Nat) []
              (rowsN (10 : Nat) []
                (rowsN (10 : Nat) []
                  (rowsN (10 : Nat) []
                    (rowsN (10 : Nat) []
                      (rowsN (10 : Nat) []
                        (rowsN (10 : Nat) [] (rowsN (10 : Nat) [] (rowsN (10 : Nat) [] (ckH f a))))))))))))
        (rowsN (10 : Nat) []
          (rowsN (10 : Nat) []
            (rowsN (10 : Nat) []
              (rowsN (10 : Nat) []
                (rowsN (10 : Nat) []
                  (rowsN (10 : Nat) []
                    (rowsN (10 : Nat) []
                      (rowsN (10 : Nat) [] (rowsN (10 : Nat) [] (rowsN (10 : Nat) [] (ckH f a)))))))))))]) := by kernel_rfl
def ck4L (P : Program) : LFun := mkS 18 4 134 [1, 3, 5] (ckC P 4) (tlSpecO ckP (fun a => ckS a.2.2) (fun a => ckA a.1 a.2.1) 10 60 (fun a => ckO (k21 a.1 a.2.1 ((((a.2.2 && (bf4 a.1).all id)) && c9 a.1) && c14 a.1))))
end Go.Proofs.Ytcmcelilollchaa
