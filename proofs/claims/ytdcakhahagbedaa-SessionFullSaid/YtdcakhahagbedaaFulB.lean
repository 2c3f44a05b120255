/-
  Chapter 22: the statement SessionFull: from its last registration on, run (written by wip/tools/gen_fulb.py).
-/
import Derived.Test.YtdcakhahagbedaaFulA
import Derived.Test.YtdcakhahagbedaaKitT
namespace Go.Proofs.Ytdcakhahagbedaa
set_option linter.unusedSimpArgs false
set_option linter.unusedVariables false
set_option linter.unusedSectionVars false
open Go Go.RowKit

/-- A session: its client, its request, its op, and since when. -/
structure En where
  h : Int
  l : Int
  r : Int
  o : Int
  s : Int
def En.c (e : En) : List Value := se e.h e.l e.r e.o e.s
def En.nm (e : En) : Int := nm2 e.h e.l
def tbL : List En → Rw
  | [] => tb z6 z6 z6 z6 0
  | [a] => tb a.c z6 z6 z6 1
  | [a, b] => tb a.c b.c z6 z6 2
  | [a, b, c] => tb a.c b.c c.c z6 3
  | a :: b :: c :: d :: _ => tb a.c b.c c.c d.c 4
def cl (X : List Value) (k : Nat) : Int := nm2 (intAt X (k * 2)) (intAt X (k * 2 + 1))
def U6 (X : List Value) : Prop := X.length = 10 ∧ ∀ j, j < 10 → X[j]? = some (.int .u64 (intAt X j)) ∧ w6 (intAt X j)
structure Fin5 (X : List Value) (m : Nat) (L : List En) : Prop where
  hu : U6 X
  hm : m < 4
  hw : ∀ e ∈ L, w6 e.h ∧ w6 e.l
  hn : L.length = 4
  hi : ∀ i, i < 5 → (i ≠ m ↔ ∃ e ∈ L, e.nm = cl X i)
def spF (X : List Value) (L : List En) (NX : Nat) : LSpec := fun live h nx tp => match live with
  | [_, _, _, (_, .int _ m), _] => match lk h 11, lk h 12 with
    | some r1, some r2 => some ((.exit 10, [(13, .bool true)], oldsH h, 600, garH h), tp, [live = [(13, .bool true), (14, lX), (17, tP), (27, .int .i64 (m.toNat : Int)), (32, .int .i64 0)] ∧ nx = NX, r1 = ⟨.shut, X⟩, r2 = tbL L, Fin5 X m.toNat L])
    | _, _ => none
  | _ => none
def fuF_L (P : Program) (X : List Value) (L : List En) (nx : Nat) : LFun := mkL 5 41 204 [13, 14, 17, 27, 32] (fb4 P) (spF X L nx)
def fuC (P : Program) (k : Nat) : Code := tailIn P 5 k
def t4S (m : Nat) : List (Nat × Value) := [(10, eP), (13, .bool true), (14, lX), (17, tP), (27, .int .i64 (m : Int))]
def t4H (E X : List Value) (L : List En) : Hp := [(10, ⟨.shut, E⟩), (11, ⟨.shut, X⟩), (12, tbL L)]
def prjT (ks : List Nat) : Res (St5 × Tape × List Prop) → Res ((Xt × Nat × List (Nat × Value) × Nat × List Nat) × Tape × List Prop)
  | .ok ((x, ts, h, nx, d, ms), tp, ob) => match getS ks ts with
    | some l => .ok ((x, ts.n, l, nx, ms), tp, ob)
    | none => .no
  | .ask b => .ask b
  | .no => .no

end Go.Proofs.Ytdcakhahagbedaa
