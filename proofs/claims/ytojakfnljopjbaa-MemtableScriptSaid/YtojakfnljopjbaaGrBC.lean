/-
  Chapter 12: the statement MemtableScript: a pair is laid in both tables: the three contracts.
-/
import Derived.Test.YtojakfnljopjbaaGrBB
import Derived.Test.YtojakfnljopjbaaGrAX
namespace Go.Proofs.Ytojakfnljopjbaa
set_option linter.unusedSimpArgs false
set_option linter.unusedVariables false
set_option linter.unusedSectionVars false
open Go Go.RowKit
structure LyArg where
 s : Bool
 g : Bool
 m : Nat
 c1 : Nat
 q : Nat
 c2 : Nat
 n1 : Nat
 n2 : Nat
 es : List DV
 rs : List DV
 ky : List Value
 vy : List Value
def lyAa (a : LyArg) : (Nat → Nat) → List Value := lyAg a.m a.c1 a.q a.c2 a.g
theorem Ku {m c1 q c2 : Nat} {ky vy : List Value} {g : Bool} {ts : List Pr} (I : LyI m c1 q c2 ky vy) (h : chP ts (lyPr g ky vy) = false) : m < 1 ∨ (¬ m < 1 ∧ 32 < m) ∨ (¬ m < 1 ∧ ¬ 32 < m ∧ g = false ∧ 128 < q) ∨ (¬ m < 1 ∧ ¬ 32 < m ∧ (g = false → ¬ 128 < q) ∧ hitP ts (B1 ky) = false ∧ 64 ≤ ts.length) := by
 by_cases h1 : m < 1
 ·exact .inl h1
 by_cases h2 : 32 < m
 ·exact .inr (.inl ⟨h1, h2⟩)
 by_cases h3 : g = false ∧ 128 < q
 ·exact .inr (.inr (.inl ⟨h1, h2, h3.1, h3.2⟩))
 have h4 : g = false → ¬ 128 < q := fun e e2 => h3 ⟨e, e2⟩
 have hk := (ok_lyPr (g := g) I).2 ⟨h1, h2, h4⟩
 unfold chP at h
 rw [hk, Bool.true_and, Bool.or_eq_false_iff] at h
 exact .inr (.inr (.inr ⟨h1, h2, h4, h.1, by simpa using h.2⟩))
theorem Io {m c1 q c2 : Nat} {ky vy : List Value} {g : Bool} {ts : List Pr} (I : LyI m c1 q c2 ky vy) (h : chP ts (lyPr g ky vy) = true) : ¬ m < 1 ∧ ¬ 32 < m ∧ (g = false → ¬ 128 < q) := by
 unfold chP at h
 simp only [Bool.and_eq_true] at h
 exact (ok_lyPr I).1 h.1
def Ex (a : LyArg) : List (Nat × ((Nat → Nat) → Rw)) := [(0, lyR0), (1, fun _ => ⟨.shut, [.bool true, .slice none 0 0]⟩), (2, fun _ => ⟨.shut, [.slice none 0 0]⟩), (3, fun _ => ⟨kdS a.s, a.ky⟩), (4, fun _ => ⟨.old, a.vy⟩)]
def foSN (a : LyArg) : Fo := ⟨fun _ => .bool true, [(0, lyR0), (1, fun _ => ⟨.shut, [.bool true, .slice none 0 0]⟩), (2, fun _ => ⟨.shut, [.slice none 0 0]⟩)], 0⟩
theorem lyNrN (a : LyArg) (h1 : Fl a.ky) (h2 : Fl a.vy) : ∀ p ∈ Ex a, NatR 5 p.2 := by
 intro p hp
 simp only [Ex, List.mem_cons, List.not_mem_nil, or_false] at hp
 have hk : kdN (kdS a.s) = true := by cases a.s <;> rfl
 rcases hp with rfl | rfl | rfl | rfl | rfl
 ·exact natR0 (by omega)
 ·exact natSh fun _ => rfl
 ·exact natSh fun _ => rfl
 ·exact H1 h1 hk
 ·exact H1 h2 rfl
theorem lyFoN (a : LyArg) (hO : LyOk a.s a.g a.m a.c1 a.q a.c2 0 [] [] a.ky a.vy) (b : Bool) (hb : chP [] (lyPr a.g a.ky a.vy) = b) : FoOk Try.prog 41 5 (lyAa a) (Ex a) (bif b then I2 5 (layP [] (lyPr a.g a.ky a.vy)) else foSN a) := by
 have I := hO.I
 have na : NatL 5 (lyAa a) := natAg (by omega) I.c1.2 I.c2.2
 have nr := lyNrN a I.k.fl I.v.fl
 have h012 : ∀ i, i < 3 → i ∈ (Ex a).map (·.1) := fun i hi => by
  match i, hi with
  | 0, _ => exact List.mem_cons_self ..
  | 1, _ => exact List.mem_cons_of_mem _ (List.mem_cons_self ..)
  | 2, _ => exact List.mem_cons_of_mem _ (List.mem_cons_of_mem _ (List.mem_cons_self ..))
 have smem : ∀ p ∈ (foSN a).rows, p ∈ Ex a ∧ p.1 < 5 := fun p hp => by
  simp only [foSN, List.mem_cons, List.not_mem_nil, or_false] at hp
  rcases hp with rfl | rfl | rfl <;> exact ⟨by unfold Ex; simp only [List.mem_cons, true_or, or_true], by dsimp only; omega⟩
 have sc : ∀ p ∈ (foSN a).rows, p.2 (cgA 5 id) = p.2 id := fun p hp => by
  simp only [foSN, List.mem_cons, List.not_mem_nil, or_false] at hp
  rcases hp with rfl | rfl | rfl <;> rfl
 obtain ⟨s, g, m, c1, q, c2, n1, n2, es, rs, ky, vy⟩ := a
 obtain ⟨S, _, _, _, _, _⟩ := hO
 have hs := S.s
 dsimp only at *
 have fs : ∀ {nx' : Nat}, TriC Try.prog 41 (lyAa ⟨s, g, m, c1, q, c2, n1, n2, es, rs, ky, vy⟩ id) (mapR id (Ex ⟨s, g, m, c1, q, c2, n1, n2, es, rs, ky, vy⟩)) 5 (.bool true) (lySN) nx' → FoOk Try.prog 41 5 (lyAa ⟨s, g, m, c1, q, c2, n1, n2, es, rs, ky, vy⟩) (Ex ⟨s, g, m, c1, q, c2, n1, n2, es, rs, ky, vy⟩) (foSN ⟨s, g, m, c1, q, c2, n1, n2, es, rs, ky, vy⟩) := fun T => Jp na nr rfl rfl smem T (fun p hp => by
   simp only [foSN, List.mem_cons, List.not_mem_nil, or_false] at hp
   rcases hp with rfl | rfl | rfl <;> rfl) sc
 cases b with
 | false =>
  rw [cond_false]
  cases g with
  | true =>
   obtain rfl : s = false := by cases s with | false => rfl | true => exact absurd (hs rfl).1 (by intro e; cases e)
   rcases Ku I hb with h1 | ⟨h1, h2⟩ | ⟨h1, h2, h3, h4⟩ | ⟨h1, h2, h3, h4, h5⟩
   ·exact fs ((lyt I Ti.nil).gNk0 h1)
   ·exact fs ((lyt I Ti.nil).gNk32 h1 h2)
   ·cases h3
   ·exact absurd h5 (by show ¬ 64 ≤ 0; omega)
  | false =>
   cases s with
   | true =>
    rcases Ku I hb with h1 | ⟨h1, h2⟩ | ⟨h1, h2, h3, h4⟩ | ⟨h1, h2, h3, h4, h5⟩
    ·exact absurd h1 (by have := hs rfl; omega)
    ·exact absurd h2 (by have := hs rfl; omega)
    ·exact fs ((lyt I Ti.nil).sNv h1 h2 h4)
    ·exact absurd h5 (by show ¬ 64 ≤ 0; omega)
   | false =>
    rcases Ku I hb with h1 | ⟨h1, h2⟩ | ⟨h1, h2, h3, h4⟩ | ⟨h1, h2, h3, h4, h5⟩
    ·exact fs ((lyt I Ti.nil).oNk0 h1)
    ·exact fs ((lyt I Ti.nil).oNk32 h1 h2)
    ·exact fs ((lyt I Ti.nil).oNv h1 h2 h4)
    ·exact absurd h5 (by show ¬ 64 ≤ 0; omega)
 | true =>
  rw [cond_true]
  cases g with
  | true =>
   obtain rfl : s = false := by cases s with | false => rfl | true => exact absurd (hs rfl).1 (by intro e; cases e)
   obtain ⟨h1, h2, h3⟩ := Io I hb
   rw [(Eh (p := (lyPr true ky vy)) hb rfl).1]
   exact Cn (x := 18) (y := 31) (by omega) na nr h012 ((lyt I Ti.nil).gNins h1 h2) rfl rfl rfl rfl rfl (by omega) (by omega) (by omega)
  | false =>
   cases s with
   | true =>
    obtain ⟨h1, h2, h3⟩ := Io I hb
    rw [(Eh (p := (lyPr false ky vy)) hb rfl).1]
    exact Cn (x := 18) (y := 31) (by omega) na nr h012 ((lyt I Ti.nil).sNins h1 h2 (h3 rfl)) rfl rfl rfl rfl rfl (by omega) (by omega) (by omega)
   | false =>
    obtain ⟨h1, h2, h3⟩ := Io I hb
    rw [(Eh (p := (lyPr false ky vy)) hb rfl).1]
    exact Cn (x := 18) (y := 31) (by omega) na nr h012 ((lyt I Ti.nil).oNins h1 h2 (h3 rfl)) rfl rfl rfl rfl rfl (by omega) (by omega) (by omega)
def Ey (a : LyArg) : List (Nat × ((Nat → Nat) → Rw)) := [(0, lyR0), (1, fun _ => ⟨.shut, [.bool true, .slice none 0 0]⟩), (2, lyRr 5 0), (3, fun _ => ⟨kdS a.s, a.ky⟩), (4, fun _ => ⟨.old, a.vy⟩), (5, lyRd [])]
def foSE (a : LyArg) : Fo := ⟨fun _ => .bool true, [(0, lyR0), (1, fun _ => ⟨.shut, [.bool true, .slice none 0 0]⟩), (2, lyRr 5 0), (5, lyRd [])], 0⟩
theorem lyNrE (a : LyArg) (h1 : Fl a.ky) (h2 : Fl a.vy) : ∀ p ∈ Ey a, NatR 6 p.2 := by
 intro p hp
 simp only [Ey, List.mem_cons, List.not_mem_nil, or_false] at hp
 have hk : kdN (kdS a.s) = true := by cases a.s <;> rfl
 rcases hp with rfl | rfl | rfl | rfl | rfl | rfl
 ·exact natR0 (by omega)
 ·exact natSh fun _ => rfl
 ·exact natRr (by omega)
 ·exact H1 h1 hk
 ·exact H1 h2 rfl
 ·exact Ev
theorem lyFoE (a : LyArg) (hO : LyOk a.s a.g a.m a.c1 a.q a.c2 0 [] [] a.ky a.vy) (b : Bool) (hb : chP [] (lyPr a.g a.ky a.vy) = b) : FoOk Try.prog 41 6 (lyAa a) (Ey a) (bif b then I2 6 (layP [] (lyPr a.g a.ky a.vy)) else foSE a) := by
 have I := hO.I
 have na : NatL 6 (lyAa a) := natAg (by omega) I.c1.2 I.c2.2
 have nr := lyNrE a I.k.fl I.v.fl
 have h012 : ∀ i, i < 3 → i ∈ (Ey a).map (·.1) := fun i hi => by
  match i, hi with
  | 0, _ => exact List.mem_cons_self ..
  | 1, _ => exact List.mem_cons_of_mem _ (List.mem_cons_self ..)
  | 2, _ => exact List.mem_cons_of_mem _ (List.mem_cons_of_mem _ (List.mem_cons_self ..))
 have smem : ∀ p ∈ (foSE a).rows, p ∈ Ey a ∧ p.1 < 6 := fun p hp => by
  simp only [foSE, List.mem_cons, List.not_mem_nil, or_false] at hp
  rcases hp with rfl | rfl | rfl | rfl <;> exact ⟨by unfold Ey; simp only [List.mem_cons, true_or, or_true], by dsimp only; omega⟩
 have sc : ∀ p ∈ (foSE a).rows, p.2 (cgA 6 id) = p.2 id := fun p hp => by
  simp only [foSE, List.mem_cons, List.not_mem_nil, or_false] at hp
  rcases hp with rfl | rfl | rfl | rfl <;> rfl
 obtain ⟨s, g, m, c1, q, c2, n1, n2, es, rs, ky, vy⟩ := a
 obtain ⟨S, _, _, _, _, _⟩ := hO
 have hs := S.s
 dsimp only at *
 have fs : ∀ {nx' : Nat}, TriC Try.prog 41 (lyAa ⟨s, g, m, c1, q, c2, n1, n2, es, rs, ky, vy⟩ id) (mapR id (Ey ⟨s, g, m, c1, q, c2, n1, n2, es, rs, ky, vy⟩)) 6 (.bool true) (lySE) nx' → FoOk Try.prog 41 6 (lyAa ⟨s, g, m, c1, q, c2, n1, n2, es, rs, ky, vy⟩) (Ey ⟨s, g, m, c1, q, c2, n1, n2, es, rs, ky, vy⟩) (foSE ⟨s, g, m, c1, q, c2, n1, n2, es, rs, ky, vy⟩) := fun T => Jp na nr rfl rfl smem T (fun p hp => by
   simp only [foSE, List.mem_cons, List.not_mem_nil, or_false] at hp
   rcases hp with rfl | rfl | rfl | rfl <;> rfl) sc
 cases b with
 | false =>
  rw [cond_false]
  cases g with
  | true =>
   obtain rfl : s = false := by cases s with | false => rfl | true => exact absurd (hs rfl).1 (by intro e; cases e)
   rcases Ku I hb with h1 | ⟨h1, h2⟩ | ⟨h1, h2, h3, h4⟩ | ⟨h1, h2, h3, h4, h5⟩
   ·exact fs ((lyt I Ti.nil).gEk0 h1)
   ·exact fs ((lyt I Ti.nil).gEk32 h1 h2)
   ·cases h3
   ·exact absurd h5 (by show ¬ 64 ≤ 0; omega)
  | false =>
   cases s with
   | true =>
    rcases Ku I hb with h1 | ⟨h1, h2⟩ | ⟨h1, h2, h3, h4⟩ | ⟨h1, h2, h3, h4, h5⟩
    ·exact absurd h1 (by have := hs rfl; omega)
    ·exact absurd h2 (by have := hs rfl; omega)
    ·exact fs ((lyt I Ti.nil).sEv h1 h2 h4)
    ·exact absurd h5 (by show ¬ 64 ≤ 0; omega)
   | false =>
    rcases Ku I hb with h1 | ⟨h1, h2⟩ | ⟨h1, h2, h3, h4⟩ | ⟨h1, h2, h3, h4, h5⟩
    ·exact fs ((lyt I Ti.nil).oEk0 h1)
    ·exact fs ((lyt I Ti.nil).oEk32 h1 h2)
    ·exact fs ((lyt I Ti.nil).oEv h1 h2 h4)
    ·exact absurd h5 (by show ¬ 64 ≤ 0; omega)
 | true =>
  rw [cond_true]
  cases g with
  | true =>
   obtain rfl : s = false := by cases s with | false => rfl | true => exact absurd (hs rfl).1 (by intro e; cases e)
   obtain ⟨h1, h2, h3⟩ := Io I hb
   rw [(Eh (p := (lyPr true ky vy)) hb rfl).1]
   exact Cn (x := 19) (y := 38) (by omega) na nr h012 ((lyt I Ti.nil).gEins h1 h2) rfl rfl rfl rfl rfl (by omega) (by omega) (by omega)
  | false =>
   cases s with
   | true =>
    obtain ⟨h1, h2, h3⟩ := Io I hb
    rw [(Eh (p := (lyPr false ky vy)) hb rfl).1]
    exact Cn (x := 19) (y := 38) (by omega) na nr h012 ((lyt I Ti.nil).sEins h1 h2 (h3 rfl)) rfl rfl rfl rfl rfl (by omega) (by omega) (by omega)
   | false =>
    obtain ⟨h1, h2, h3⟩ := Io I hb
    rw [(Eh (p := (lyPr false ky vy)) hb rfl).1]
    exact Cn (x := 19) (y := 38) (by omega) na nr h012 ((lyt I Ti.nil).oEins h1 h2 (h3 rfl)) rfl rfl rfl rfl rfl (by omega) (by omega) (by omega)
def Ew (a : LyArg) : List (Nat × ((Nat → Nat) → Rw)) := [(0, lyR0), (1, lyRt 5 a.n1), (2, lyRr 6 a.n2), (3, fun _ => ⟨kdS a.s, a.ky⟩), (4, fun _ => ⟨.old, a.vy⟩), (5, lyRd a.es), (6, lyRd a.rs)]
def foSR (a : LyArg) : Fo := ⟨fun _ => .bool true, [(0, lyR0), (1, lyRt 5 a.n1), (2, lyRr 6 a.n2), (5, lyRd a.es), (6, lyRd a.rs)], 0⟩
theorem lyNrR (a : LyArg) (h1 : Fl a.ky) (h2 : Fl a.vy) : ∀ p ∈ Ew a, NatR 7 p.2 := by
 intro p hp
 simp only [Ew, List.mem_cons, List.not_mem_nil, or_false] at hp
 have hk : kdN (kdS a.s) = true := by cases a.s <;> rfl
 rcases hp with rfl | rfl | rfl | rfl | rfl | rfl | rfl
 ·exact natR0 (by omega)
 ·exact natRt (by omega)
 ·exact natRr (by omega)
 ·exact H1 h1 hk
 ·exact H1 h2 rfl
 ·exact Ev
 ·exact Ev
theorem lyFoR (a : LyArg) (hO : LyOk a.s a.g a.m a.c1 a.q a.c2 a.n1 a.es a.rs a.ky a.vy) (hn : a.n2 = a.n1) (b : Bool) (hb : chP (B2 a.es) (lyPr a.g a.ky a.vy) = b) : FoOk Try.prog 41 7 (lyAa a) (Ew a) (bif b then I2 7 (layP (B2 a.es) (lyPr a.g a.ky a.vy)) else foSR a) := by
 have I := hO.I
 have na : NatL 7 (lyAa a) := natAg (by omega) I.c1.2 I.c2.2
 have nr := lyNrR a I.k.fl I.v.fl
 have h012 : ∀ i, i < 3 → i ∈ (Ew a).map (·.1) := fun i hi => by
  match i, hi with
  | 0, _ => exact List.mem_cons_self ..
  | 1, _ => exact List.mem_cons_of_mem _ (List.mem_cons_self ..)
  | 2, _ => exact List.mem_cons_of_mem _ (List.mem_cons_of_mem _ (List.mem_cons_self ..))
 have smem : ∀ p ∈ (foSR a).rows, p ∈ Ew a ∧ p.1 < 7 := fun p hp => by
  simp only [foSR, List.mem_cons, List.not_mem_nil, or_false] at hp
  rcases hp with rfl | rfl | rfl | rfl | rfl <;> exact ⟨by unfold Ew; simp only [List.mem_cons, true_or, or_true], by dsimp only; omega⟩
 have sc : ∀ p ∈ (foSR a).rows, p.2 (cgA 7 id) = p.2 id := fun p hp => by
  simp only [foSR, List.mem_cons, List.not_mem_nil, or_false] at hp
  rcases hp with rfl | rfl | rfl | rfl | rfl <;> rfl
 obtain ⟨s, g, m, c1, q, c2, n1, n2, es, rs, ky, vy⟩ := a
 obtain ⟨S, _, T0, e0, r0, n0⟩ := hO
 have hs := S.s
 dsimp only at *
 generalize hts : B2 es = ts at *
 subst e0
 subst r0
 subst n0
 subst hn
 have fs : ∀ {nx' : Nat}, TriC Try.prog 41 (lyAa ⟨s, g, m, c1, q, c2, ts.length, ts.length, cpD ts, cpD ts, ky, vy⟩ id) (mapR id (Ew ⟨s, g, m, c1, q, c2, ts.length, ts.length, cpD ts, cpD ts, ky, vy⟩)) 7 (.bool true) (lySR ts.length (cpD ts) (cpD ts)) nx' → FoOk Try.prog 41 7 (lyAa ⟨s, g, m, c1, q, c2, ts.length, ts.length, cpD ts, cpD ts, ky, vy⟩) (Ew ⟨s, g, m, c1, q, c2, ts.length, ts.length, cpD ts, cpD ts, ky, vy⟩) (foSR ⟨s, g, m, c1, q, c2, ts.length, ts.length, cpD ts, cpD ts, ky, vy⟩) := fun T => Jp na nr rfl rfl smem T (fun p hp => by
   simp only [foSR, List.mem_cons, List.not_mem_nil, or_false] at hp
   rcases hp with rfl | rfl | rfl | rfl | rfl <;> rfl) sc
 cases b with
 | false =>
  rw [cond_false]
  cases g with
  | true =>
   obtain rfl : s = false := by cases s with | false => rfl | true => exact absurd (hs rfl).1 (by intro e; cases e)
   rcases Ku I hb with h1 | ⟨h1, h2⟩ | ⟨h1, h2, h3, h4⟩ | ⟨h1, h2, h3, h4, h5⟩
   ·exact fs ((lyt I T0).gRk0 h1)
   ·exact fs ((lyt I T0).gRk32 h1 h2)
   ·cases h3
   ·exact fs ((lyt I T0).gRful h1 h2 h4 h5)
  | false =>
   cases s with
   | true =>
    rcases Ku I hb with h1 | ⟨h1, h2⟩ | ⟨h1, h2, h3, h4⟩ | ⟨h1, h2, h3, h4, h5⟩
    ·exact absurd h1 (by have := hs rfl; omega)
    ·exact absurd h2 (by have := hs rfl; omega)
    ·exact fs ((lyt I T0).sRv h1 h2 h4)
    ·exact fs ((lyt I T0).sRful h1 h2 (h3 rfl) h4 h5)
   | false =>
    rcases Ku I hb with h1 | ⟨h1, h2⟩ | ⟨h1, h2, h3, h4⟩ | ⟨h1, h2, h3, h4, h5⟩
    ·exact fs ((lyt I T0).oRk0 h1)
    ·exact fs ((lyt I T0).oRk32 h1 h2)
    ·exact fs ((lyt I T0).oRv h1 h2 h4)
    ·exact fs ((lyt I T0).oRful h1 h2 (h3 rfl) h4 h5)
 | true =>
  rw [cond_true]
  cases g with
  | true =>
   obtain rfl : s = false := by cases s with | false => rfl | true => exact absurd (hs rfl).1 (by intro e; cases e)
   obtain ⟨h1, h2, h3⟩ := Io I hb
   cases hh : hitP ts (B1 ky) with
   | true =>
    rw [M5 (p := (lyPr true ky vy)) hb hh]
    exact Cn (x := 18) (y := 37) (by omega) na nr h012 ((lyt I T0).gRup h1 h2 hh) rfl rfl rfl rfl rfl (by omega) (by omega) (by omega)
   | false =>
    obtain ⟨e5, h5⟩ := Eh (p := (lyPr true ky vy)) hb hh
    rw [e5]
    exact Cn (x := 19) (y := 38) (by omega) na nr h012 ((lyt I T0).gRins h1 h2 hh h5) rfl rfl rfl rfl rfl (by omega) (by omega) (by omega)
  | false =>
   cases s with
   | true =>
    obtain ⟨h1, h2, h3⟩ := Io I hb
    cases hh : hitP ts (B1 ky) with
    | true =>
     rw [M5 (p := (lyPr false ky vy)) hb hh]
     exact Cn (x := 18) (y := 37) (by omega) na nr h012 ((lyt I T0).sRup h1 h2 (h3 rfl) hh) rfl rfl rfl rfl rfl (by omega) (by omega) (by omega)
    | false =>
     obtain ⟨e5, h5⟩ := Eh (p := (lyPr false ky vy)) hb hh
     rw [e5]
     exact Cn (x := 19) (y := 38) (by omega) na nr h012 ((lyt I T0).sRins h1 h2 (h3 rfl) hh h5) rfl rfl rfl rfl rfl (by omega) (by omega) (by omega)
   | false =>
    obtain ⟨h1, h2, h3⟩ := Io I hb
    cases hh : hitP ts (B1 ky) with
    | true =>
     rw [M5 (p := (lyPr false ky vy)) hb hh]
     exact Cn (x := 18) (y := 37) (by omega) na nr h012 ((lyt I T0).oRup h1 h2 (h3 rfl) hh) rfl rfl rfl rfl rfl (by omega) (by omega) (by omega)
    | false =>
     obtain ⟨e5, h5⟩ := Eh (p := (lyPr false ky vy)) hb hh
     rw [e5]
     exact Cn (x := 19) (y := 38) (by omega) na nr h012 ((lyt I T0).oRins h1 h2 (h3 rfl) hh h5) rfl rfl rfl rfl rfl (by omega) (by omega) (by omega)
def lyPkN : List Value → Hp → Option (List Nat × LyArg)
 | [.pointer (some ⟨p, 0, none⟩), .slice (some ⟨k, 0, none⟩) m c1, .slice (some ⟨v, 0, none⟩) q c2, .bool g], h => match lrP h p with
  | some (t, r) => (match lrTn h t, lrRn h r, lrK h k, lrO h v with
   | true, true, some (s, ky), some vy => some ([p, t, r, k, v], ⟨s, g, m, c1, q, c2, 0, 0, [], [], ky, vy⟩)
   | _, _, _, _ => none)
  | none => none
 | _, _ => none
def lyOutN (a : LyArg) : Tape → Option (Fo × Tape × List Prop)
 | b :: tp => some (bif b then I2 5 (layP [] (lyPr a.g a.ky a.vy)) else foSN a, tp, [LyOk a.s a.g a.m a.c1 a.q a.c2 0 [] [] a.ky a.vy ∧ chP [] (lyPr a.g a.ky a.vy) = b])
 | [] => none
theorem lyPkN_ok (xs : List Value) (h0 : Hp) (ns : List Nat) (a : LyArg) (h : lyPkN xs h0 = some (ns, a)) : ns.length = 5 ∧ ∀ nx, xs = lyAa a (nmA ns 5 nx) ∧ ∀ p ∈ Ex a, lk h0 (nmA ns 5 nx p.1) = some (p.2 (nmA ns 5 nx)) := by
 unfold lyPkN at h
 split at h
 case h_2 => cases h
 rename_i p k m c1 v q c2 g
 split at h
 case h_2 => cases h
 rename_i t r h0
 split at h
 case h_2 => cases h
 rename_i s ky vy h1 h2 h3 h4
 cases h
 refine ⟨rfl, fun nx => ⟨rfl, fun p hp => ?_⟩⟩
 simp only [Ex, List.mem_cons, List.not_mem_nil, or_false] at hp
 rcases hp with rfl | rfl | rfl | rfl | rfl
 ·exact lrP_ok h0
 ·exact lrTn_ok h1
 ·exact lrRn_ok h2
 ·exact lrK_ok h3
 ·exact lrO_ok h4
theorem lyOutN_ok (a : LyArg) (tp : Tape) (o : Fo) (tp' : Tape) (ob : List Prop) (h : lyOutN a tp = some (o, tp', ob)) (ho : Alls ob) : FoOk Try.prog 41 5 (lyAa a) (Ex a) o := by
 unfold lyOutN at h
 split at h
 case h_2 => cases h
 rename_i b tp2
 simp only [oI, pI] at h
 obtain ⟨rfl, rfl, rfl⟩ := h
 obtain ⟨⟨h1, h2⟩, _⟩ := ho
 exact lyFoN a h1 b h2
def lyCN : Fc Try.prog 41 5 := ⟨LyArg, lyPkN, lyAa, Ex, lyOutN, lyPkN_ok, (fun a p hp => by
 simp only [Ex, List.mem_cons, List.not_mem_nil, or_false] at hp
 rcases hp with rfl | rfl | rfl | rfl | rfl <;> (dsimp only; omega)), lyOutN_ok⟩
def lyPkE : List Value → Hp → Option (List Nat × LyArg)
 | [.pointer (some ⟨p, 0, none⟩), .slice (some ⟨k, 0, none⟩) m c1, .slice (some ⟨v, 0, none⟩) q c2, .bool g], h => match lrP h p with
  | some (t, r) => (match lrTn h t, lrR h r, lrK h k, lrO h v with
   | true, some (b, 0), some (s, ky), some vy => (match lrD h b with
    | some [] => some ([p, t, r, k, v, b], ⟨s, g, m, c1, q, c2, 0, 0, [], [], ky, vy⟩)
    | _ => none)
   | _, _, _, _ => none)
  | none => none
 | _, _ => none
def lyOutE (a : LyArg) : Tape → Option (Fo × Tape × List Prop)
 | b :: tp => some (bif b then I2 6 (layP [] (lyPr a.g a.ky a.vy)) else foSE a, tp, [LyOk a.s a.g a.m a.c1 a.q a.c2 0 [] [] a.ky a.vy ∧ chP [] (lyPr a.g a.ky a.vy) = b])
 | [] => none
theorem lyPkE_ok (xs : List Value) (h0 : Hp) (ns : List Nat) (a : LyArg) (h : lyPkE xs h0 = some (ns, a)) : ns.length = 6 ∧ ∀ nx, xs = lyAa a (nmA ns 6 nx) ∧ ∀ p ∈ Ey a, lk h0 (nmA ns 6 nx p.1) = some (p.2 (nmA ns 6 nx)) := by
 unfold lyPkE at h
 split at h
 case h_2 => cases h
 rename_i p k m c1 v q c2 g
 split at h
 case h_2 => cases h
 rename_i t r h0
 split at h
 case h_2 => cases h
 rename_i b s ky vy h1 h2 h3 h4
 split at h
 case h_2 => cases h
 rename_i h5
 cases h
 refine ⟨rfl, fun nx => ⟨rfl, fun p hp => ?_⟩⟩
 simp only [Ey, List.mem_cons, List.not_mem_nil, or_false] at hp
 rcases hp with rfl | rfl | rfl | rfl | rfl | rfl
 ·exact lrP_ok h0
 ·exact lrTn_ok h1
 ·exact lrR_ok h2
 ·exact lrK_ok h3
 ·exact lrO_ok h4
 ·exact lrD_ok h5
theorem lyOutE_ok (a : LyArg) (tp : Tape) (o : Fo) (tp' : Tape) (ob : List Prop) (h : lyOutE a tp = some (o, tp', ob)) (ho : Alls ob) : FoOk Try.prog 41 6 (lyAa a) (Ey a) o := by
 unfold lyOutE at h
 split at h
 case h_2 => cases h
 rename_i b tp2
 simp only [oI, pI] at h
 obtain ⟨rfl, rfl, rfl⟩ := h
 obtain ⟨⟨h1, h2⟩, _⟩ := ho
 exact lyFoE a h1 b h2
def lyCE : Fc Try.prog 41 6 := ⟨LyArg, lyPkE, lyAa, Ey, lyOutE, lyPkE_ok, (fun a p hp => by
 simp only [Ey, List.mem_cons, List.not_mem_nil, or_false] at hp
 rcases hp with rfl | rfl | rfl | rfl | rfl | rfl <;> (dsimp only; omega)), lyOutE_ok⟩
def lyPkR : List Value → Hp → Option (List Nat × LyArg)
 | [.pointer (some ⟨p, 0, none⟩), .slice (some ⟨k, 0, none⟩) m c1, .slice (some ⟨v, 0, none⟩) q c2, .bool g], h => match lrP h p with
  | some (t, r) => (match lrT h t, lrR h r, lrK h k, lrO h v with
   | some (a, n1), some (b, n2), some (s, ky), some vy => (match lrD h a, lrD h b with
    | some es, some rs => some ([p, t, r, k, v, a, b], ⟨s, g, m, c1, q, c2, n1, n2, es, rs, ky, vy⟩)
    | _, _ => none)
   | _, _, _, _ => none)
  | none => none
 | _, _ => none
def lyOutR (a : LyArg) : Tape → Option (Fo × Tape × List Prop)
 | b :: tp => some (bif b then I2 7 (layP (B2 a.es) (lyPr a.g a.ky a.vy)) else foSR a, tp, [LyOk a.s a.g a.m a.c1 a.q a.c2 a.n1 a.es a.rs a.ky a.vy ∧ a.n2 = a.n1 ∧ chP (B2 a.es) (lyPr a.g a.ky a.vy) = b])
 | [] => none
theorem lyPkR_ok (xs : List Value) (h0 : Hp) (ns : List Nat) (a : LyArg) (h : lyPkR xs h0 = some (ns, a)) : ns.length = 7 ∧ ∀ nx, xs = lyAa a (nmA ns 7 nx) ∧ ∀ p ∈ Ew a, lk h0 (nmA ns 7 nx p.1) = some (p.2 (nmA ns 7 nx)) := by
 unfold lyPkR at h
 split at h
 case h_2 => cases h
 rename_i p k m c1 v q c2 g
 split at h
 case h_2 => cases h
 rename_i t r h0
 split at h
 case h_2 => cases h
 rename_i a n1 b n2 s ky vy h1 h2 h3 h4
 split at h
 case h_2 => cases h
 rename_i es rs h5 h6
 cases h
 refine ⟨rfl, fun nx => ⟨rfl, fun p hp => ?_⟩⟩
 simp only [Ew, List.mem_cons, List.not_mem_nil, or_false] at hp
 rcases hp with rfl | rfl | rfl | rfl | rfl | rfl | rfl
 ·exact lrP_ok h0
 ·exact lrT_ok h1
 ·exact lrR_ok h2
 ·exact lrK_ok h3
 ·exact lrO_ok h4
 ·exact lrD_ok h5
 ·exact lrD_ok h6
theorem lyOutR_ok (a : LyArg) (tp : Tape) (o : Fo) (tp' : Tape) (ob : List Prop) (h : lyOutR a tp = some (o, tp', ob)) (ho : Alls ob) : FoOk Try.prog 41 7 (lyAa a) (Ew a) o := by
 unfold lyOutR at h
 split at h
 case h_2 => cases h
 rename_i b tp2
 simp only [oI, pI] at h
 obtain ⟨rfl, rfl, rfl⟩ := h
 obtain ⟨⟨h1, h2, h3⟩, _⟩ := ho
 exact lyFoR a h1 h2 b h3
def lyCR : Fc Try.prog 41 7 := ⟨LyArg, lyPkR, lyAa, Ew, lyOutR, lyPkR_ok, (fun a p hp => by
 simp only [Ew, List.mem_cons, List.not_mem_nil, or_false] at hp
 rcases hp with rfl | rfl | rfl | rfl | rfl | rfl | rfl <;> (dsimp only; omega)), lyOutR_ok⟩
noncomputable def layT : TFun := orTz (mkG lyCR) (orTz (mkG lyCE) (mkG lyCN))
theorem layT_one : Cv Try.prog layT := C4 (J5 _) (C4 (J5 _) (J5 _))
def inP (a b : List Int) (p : Pr) : Bool := !ltK p.1 a && upP b p
def fiP (a b : List Int) (ps : List Pr) : List Pr := ps.filter (inP a b)
theorem Kq (a b : List Int) (p : Pr) (ps : List Pr) : fiP a b (p :: ps) = bif inP a b p then p :: fiP a b ps else fiP a b ps := by
 unfold fiP
 cases h : inP a b p <;> simp [h]
theorem rbX {L : LFun} {T : TFun} : XOkZ (rbV L T) Try.prog := XOneZ.ok Ei rfl
theorem rbT0 {L : LFun} : TOkZ (rbV L noTz) Try.prog := D4 rfl
theorem rbL0 {T : TFun} : LOkZ (rbV noL T) Try.prog := C9 rfl
structure RbOk (ds : List DV) (n m1 c1 m2 c2 : Nat) (k1 k2 : List Value) : Prop where
 A : AtOk ds k1 n m1
 K2 : BytI m2 k2
 c1 : c1 ≤ 9223372036854775807
 c2 : c2 ≤ 9223372036854775807
theorem E5 {N : Nat} (hN : N = 81 ∨ N = 120) {ρ : Nat → Nat} {h0 : Hp} {n m1 c1 m2 c2 : Nat} {ds : List DV} {k1 k2 : List Value} (hB : RbOk ds n m1 c1 m2 c2 k1 k2) {h1 : Hp} (e0 : lk h1 0 = some ⟨.dp 3 zPr ds, []⟩) (e1 : lk h1 1 = some ⟨.old, k1⟩) (e2 : lk h1 2 = some ⟨.old, k2⟩) : RbL 3 N ρ h0 h1 (rbH ds k1 k2) := by
 rcases hN with rfl | rfl
 ·exact ⟨Ch (m := 0) rfl e0, rb_old (by omega) e1 hB.A.K.fl, rb_old (by omega) e2 hB.K2.fl, trivial⟩
 ·exact ⟨Ch (m := 0) rfl e0, rb_old (by omega) e1 hB.A.K.fl, rb_old (by omega) e2 hB.K2.fl, trivial⟩
theorem rb_more {inr : Bool} {h0 : Hp} {ds : List DV} {n m1 c1 m2 c2 : Nat} {k1 k2 : List Value} (hB : RbOk ds n m1 c1 m2 c2 k1 k2) : ∀ (r i x : Nat) (ws : List Pr), i + r = n → ws.length = x → x ≤ i →
  LRuns inr Try.prog (B6 Try.prog 43 3) 3 120 h0 45 (rbS n m1 c1 m2 c2 i (dpV x)) ((80, ⟨.dp 3 zPr (cpD ws), []⟩) :: rbH ds k1 k2) 81
   (.exit 0, rbS n m1 c1 m2 c2 n (dpV (x + (fiP (B1 k1) (B1 k2) ((B2 ds).drop i)).length)), (80, ⟨.dp 3 zPr (cpD (ws ++ fiP (B1 k1) (B1 k2) ((B2 ds).drop i))), []⟩) :: rbH ds k1 k2)
 | 0, i, x, ws, hr, hx, hxi => by
   have hc1 : c1 < B0 := by have := hB.c1; unfold B0; omega
   have hc2 : c2 < B0 := by have := hB.c2; unfold B0; omega
   have e0 : (B2 ds).drop i = [] := List.drop_of_length_le (by rw [hB.A.l]; omega)
   rw [e0]
   show LRuns _ _ _ _ _ _ _ _ _ _ (.exit 0, rbS n m1 c1 m2 c2 n (dpV (x + 0)), (80, ⟨.dp 3 zPr (cpD (ws ++ [])), []⟩) :: _)
   rw [List.append_nil, Nat.add_zero]
   obtain rfl : i = n := by omega
   refine LRuns.exit (Bb rbX rbL0 (Bh rbX rbT0 rbL0 mixed 9) mixed (rb_mx inr i m1 c1 m2 c2 i ds k1 k2 x (cpD ws)) ?_) (by intro e; cases e) rfl (by omega) (by omega) (fun n => n) ?_ ?_ rfl
   ·simp only [Alls, decide_eq_false_iff_not]
    exact ⟨by omega, trivial⟩
   ·exact ⟨rfl, Bj rfl rfl, rfl, Bt rfl hc1, rfl, Bt rfl hc2, rfl, Bj rfl rfl, rfl, rfl, trivial⟩
   ·exact ⟨Ch (m := 80) rfl rfl, E5 (.inr rfl) hB rfl rfl rfl⟩
 | r + 1, i, x, ws, hr, hx, hxi => by
   have hc1 : c1 < B0 := by have := hB.c1; unfold B0; omega
   have hc2 : c2 < B0 := by have := hB.c2; unfold B0; omega
   have hm := hB.A.b9
   have hi : i < (B2 ds).length := by rw [hB.A.l]; omega
   have F := hB.A.P.facts (List.getElem?_eq_getElem hi)
   have hd := List.drop_eq_getElem_cons hi
   obtain ⟨p, hp⟩ : ∃ p, (B2 ds)[i] = p := ⟨_, rfl⟩
   have hmem : p ∈ B2 ds := by rw [← hp]; exact List.getElem_mem hi
   rw [hp] at F hd
   have F : PrAt ds i p := F
   have bp := (hB.A.O p hmem).1
   have ex : ixO 0 (Int.toNat (i : Int)) 3 = i * 3 := by rw [J7]; simp
   have f0 := F.l0
   have f1 := F.l1
   have v0 := F.v0
   have v1 := F.v1
   have gb := F.g
   have o1 := F.o27 81
   have o2 := F.o27 82
   have o3 := F.o29 82
   have o4 := F.o29 83
   have hl0 := Bz p.1
   have hl1 := Bz p.2.1
   have z0 : p.1.length = 0 → byV p.1 = [] := fun e => List.eq_nil_of_length_eq_zero (by omega)
   have z1 : p.2.1.length = 0 → byV p.2.1 = [] := fun e => List.eq_nil_of_length_eq_zero (by omega)
   have cl1 := I7 p.1 (B1 k1) bp hB.A.K.2.1
   have cl2 := I7 p.1 (B1 k2) bp hB.K2.2.1
   have y1 := hB.A.K.1
   have y2 := hB.K2.1
   have tk1 := hB.A.K.tk
   have tk2 := hB.K2.tk
   have kl1 := hB.A.K.2.2
   have kl2 := hB.K2.2.2
   have hlt1 : ltK p.1 (B1 k1) = !decide (cmpI p.1 (B1 k1) ≥ 0) := rfl
   have hlt2 : ltK p.1 (B1 k2) = !decide (cmpI p.1 (B1 k2) ≥ 0) := rfl
   rw [← hlt1] at cl1
   rw [← hlt2] at cl2
   have hem : (B1 k2).isEmpty = true ↔ m2 = 0 := by
    have e := hB.K2.len
    rw [← e, List.isEmpty_iff, List.length_eq_zero_iff]
   have hcl : (cpD ws).length = x * 3 := by rw [(H2 ws).len, hx]
   have row : ∀ X : List DV, X = cpD (ws ++ [p]) → some (Rw.mk (.dp 3 zPr X) []) = some (Rw.mk (.dp 3 zPr (cpD (ws ++ [p]))) []) := fun X hX => by rw [hX]
   rw [hd, Kq]
   have skip := rb_more (inr := inr) (h0 := h0) hB r (i + 1) x ws (by omega) hx (by omega)
   have take := rb_more (inr := inr) (h0 := h0) hB r (i + 1) (x + 1) (ws ++ [p]) (by omega) (by rw [List.length_append, hx]; rfl) (by omega)
   cases q1 : ltK p.1 (B1 k1) with
   | true =>
    rw [q1] at cl1
    rw [show inP (B1 k1) (B1 k2) p = false by unfold inP; rw [q1]; rfl, cond_false]
    refine LRuns.step (Bb rbX rbL0 (Bh rbX rbT0 rbL0 mixed 9) mixed (rb_ms1 inr n m1 c1 m2 c2 i ds k1 k2 x (cpD ws)) ?_) rfl (by omega) (by omega) (fun n => n) ?_ ?_ rfl skip
    ·
     simp only [Alls, rg, decide_eq_true_eq, decide_eq_false_iff_not, beq_iff_eq, beq_eq_false_iff_ne, ne_eq, Nat.add_zero, ex, f0, f1, v0, v1, Hv, C1, Bz, tk1, tk2]
     repeat' (with_reducible apply And.intro)
     all_goals first | omega | (with_reducible assumption) | (with_reducible exact trivial) | (with_reducible rfl) | exact rfl | exact cl1 | exact cl2 | exact Cm _ | exact fun e => z0 e | exact fun e => z1 e | exact fun e => z0 (f0.symm.trans (ex ▸ e)) | exact fun e => z1 (f1.symm.trans (ex ▸ e)) | skip
    ·exact ⟨rfl, Bj rfl rfl, rfl, Bt rfl hc1, rfl, Bt rfl hc2, rfl, Bj rfl rfl, rfl, rfl, trivial⟩
    ·exact ⟨Ch (m := 80) rfl rfl, E5 (.inl rfl) hB rfl rfl rfl⟩
   | false =>
    rw [q1] at cl1
    have tk : inP (B1 k1) (B1 k2) p = true → LRuns inr Try.prog (B6 Try.prog 43 3) 3 120 h0 45 (rbS n m1 c1 m2 c2 (i + 1) (dpV (x + 1))) ((80, ⟨.dp 3 zPr (cpD (ws ++ [p])), []⟩) :: rbH ds k1 k2) 81 (.exit 0, rbS n m1 c1 m2 c2 n (dpV (x + (p :: fiP (B1 k1) (B1 k2) ((B2 ds).drop (i + 1))).length)), (80, ⟨.dp 3 zPr (cpD (ws ++ p :: fiP (B1 k1) (B1 k2) ((B2 ds).drop (i + 1)))), []⟩) :: rbH ds k1 k2) := fun _ => by
     have e1 : ws ++ p :: fiP (B1 k1) (B1 k2) ((B2 ds).drop (i + 1)) = ws ++ [p] ++ fiP (B1 k1) (B1 k2) ((B2 ds).drop (i + 1)) := by simp
     rw [e1, List.length_cons, show x + ((fiP (B1 k1) (B1 k2) ((B2 ds).drop (i + 1))).length + 1) = x + 1 + (fiP (B1 k1) (B1 k2) ((B2 ds).drop (i + 1))).length by omega]
     exact take
    by_cases hz : m2 = 0
    ·have hin : inP (B1 k1) (B1 k2) p = true := by unfold inP upP; rw [q1, hem.2 hz]; rfl
     rw [hin, cond_true]
     refine LRuns.step (Bb rbX rbL0 (Bh rbX rbT0 rbL0 mixed 9) mixed (rb_mt1 inr n m1 c1 m2 c2 i ds k1 k2 x (cpD ws)) ?_) rfl (by omega) (by omega) (fun _ => 86) ?_ ?_ rfl (tk hin)
     ·
      simp only [Alls, rg, decide_eq_true_eq, decide_eq_false_iff_not, beq_iff_eq, beq_eq_false_iff_ne, ne_eq, Nat.add_zero, ex, f0, f1, v0, v1, Hv, C1, Bz, tk1, tk2]
      repeat' (with_reducible apply And.intro)
      all_goals first | omega | (with_reducible assumption) | (with_reducible exact trivial) | (with_reducible rfl) | exact rfl | exact cl1 | exact cl2 | exact Cm _ | exact fun e => z0 e | exact fun e => z1 e | exact fun e => z0 (f0.symm.trans (ex ▸ e)) | exact fun e => z1 (f1.symm.trans (ex ▸ e)) | skip
     ·exact ⟨rfl, Bj rfl rfl, rfl, Bt rfl hc1, rfl, Bt rfl hc2, rfl, Bj rfl rfl, rfl, rfl, trivial⟩
     ·refine ⟨Ch (m := 86) rfl (row _ ?_), E5 (.inl rfl) hB rfl rfl rfl⟩
      simp only [Nat.add_zero, ex, f0, f1, v0, v1, gb, Hr]
      rw [Hk]
      rfl
    ·have hne : (B1 k2).isEmpty = false := by
      cases e : (B1 k2).isEmpty with
      | false => rfl
      | true => exact absurd (hem.1 e) hz
     cases q2 : ltK p.1 (B1 k2) with
     | true =>
      rw [q2] at cl2
      have hin : inP (B1 k1) (B1 k2) p = true := by unfold inP upP; rw [q1, q2, hne]; rfl
      rw [hin, cond_true]
      refine LRuns.step (Bb rbX rbL0 (Bh rbX rbT0 rbL0 mixed 9) mixed (rb_mt2 inr n m1 c1 m2 c2 i ds k1 k2 x (cpD ws)) ?_) rfl (by omega) (by omega) (fun _ => 87) ?_ ?_ rfl (tk hin)
      ·
       simp only [Alls, rg, decide_eq_true_eq, decide_eq_false_iff_not, beq_iff_eq, beq_eq_false_iff_ne, ne_eq, Nat.add_zero, ex, f0, f1, v0, v1, Hv, C1, Bz, tk1, tk2]
       repeat' (with_reducible apply And.intro)
       all_goals first | omega | (with_reducible assumption) | (with_reducible exact trivial) | (with_reducible rfl) | exact rfl | exact cl1 | exact cl2 | exact Cm _ | exact fun e => z0 e | exact fun e => z1 e | exact fun e => z0 (f0.symm.trans (ex ▸ e)) | exact fun e => z1 (f1.symm.trans (ex ▸ e)) | skip
      ·exact ⟨rfl, Bj rfl rfl, rfl, Bt rfl hc1, rfl, Bt rfl hc2, rfl, Bj rfl rfl, rfl, rfl, trivial⟩
      ·refine ⟨Ch (m := 87) rfl (row _ ?_), E5 (.inl rfl) hB rfl rfl rfl⟩
       simp only [Nat.add_zero, ex, f0, f1, v0, v1, gb, Hr]
       rw [Hk]
       rfl
     | false =>
      rw [q2] at cl2
      rw [show inP (B1 k1) (B1 k2) p = false by unfold inP upP; rw [q1, q2, hne]; rfl, cond_false]
      refine LRuns.step (Bb rbX rbL0 (Bh rbX rbT0 rbL0 mixed 9) mixed (rb_ms2 inr n m1 c1 m2 c2 i ds k1 k2 x (cpD ws)) ?_) rfl (by omega) (by omega) (fun n => n) ?_ ?_ rfl skip
      ·
       simp only [Alls, rg, decide_eq_true_eq, decide_eq_false_iff_not, beq_iff_eq, beq_eq_false_iff_ne, ne_eq, Nat.add_zero, ex, f0, f1, v0, v1, Hv, C1, Bz, tk1, tk2]
       repeat' (with_reducible apply And.intro)
       all_goals first | omega | (with_reducible assumption) | (with_reducible exact trivial) | (with_reducible rfl) | exact rfl | exact cl1 | exact cl2 | exact Cm _ | exact fun e => z0 e | exact fun e => z1 e | exact fun e => z0 (f0.symm.trans (ex ▸ e)) | exact fun e => z1 (f1.symm.trans (ex ▸ e)) | skip
      ·exact ⟨rfl, Bj rfl rfl, rfl, Bt rfl hc1, rfl, Bt rfl hc2, rfl, Bj rfl rfl, rfl, rfl, trivial⟩
      ·exact ⟨Ch (m := 80) rfl rfl, E5 (.inl rfl) hB rfl rfl rfl⟩
def rbOut (ds : List DV) (k1 k2 : List Value) (R : List Pr) (b : Bool) : Hp := bif b then rbH ds k1 k2 else (80, ⟨.dp 3 zPr (cpD R), []⟩) :: rbH ds k1 k2
def rbVo (R : List Pr) (b : Bool) : Value := bif b then btN else dpV R.length
theorem rb_first {inr : Bool} {h0 : Hp} {ds : List DV} {n m1 c1 m2 c2 : Nat} {k1 k2 : List Value} (hB : RbOk ds n m1 c1 m2 c2 k1 k2) : ∀ (r i : Nat) (R : List Pr), i + r = n → fiP (B1 k1) (B1 k2) ((B2 ds).drop i) = R →
  LRuns inr Try.prog (B6 Try.prog 43 3) 3 120 h0 45 (rbS n m1 c1 m2 c2 i btN) (rbH ds k1 k2) 81
   (.exit 0, rbS n m1 c1 m2 c2 n (rbVo R R.isEmpty), rbOut ds k1 k2 R R.isEmpty)
 | 0, i, R, hr, hR => by
   have hc1 : c1 < B0 := by have := hB.c1; unfold B0; omega
   have hc2 : c2 < B0 := by have := hB.c2; unfold B0; omega
   have e0 : (B2 ds).drop i = [] := List.drop_of_length_le (by rw [hB.A.l]; omega)
   rw [e0] at hR
   subst hR
   obtain rfl : i = n := by omega
   refine LRuns.exit (Bb rbX rbL0 (Bh rbX rbT0 rbL0 mixed 9) mixed (rb_x inr i m1 c1 m2 c2 i ds k1 k2) ?_) (by intro e; cases e) rfl (by omega) (by omega) (fun n => n) ?_ ?_ rfl
   ·simp only [Alls, decide_eq_false_iff_not]
    exact ⟨by omega, trivial⟩
   ·exact ⟨rfl, Bj rfl rfl, rfl, Bt rfl hc1, rfl, Bt rfl hc2, rfl, rfl, rfl, rfl, trivial⟩
   ·exact E5 (.inr rfl) hB rfl rfl rfl
 | r + 1, i, R, hr, hR => by
   have hc1 : c1 < B0 := by have := hB.c1; unfold B0; omega
   have hc2 : c2 < B0 := by have := hB.c2; unfold B0; omega
   have hm := hB.A.b9
   have hi : i < (B2 ds).length := by rw [hB.A.l]; omega
   have F := hB.A.P.facts (List.getElem?_eq_getElem hi)
   have hd := List.drop_eq_getElem_cons hi
   obtain ⟨p, hp⟩ : ∃ p, (B2 ds)[i] = p := ⟨_, rfl⟩
   have hmem : p ∈ B2 ds := by rw [← hp]; exact List.getElem_mem hi
   rw [hp] at F hd
   have F : PrAt ds i p := F
   have bp := (hB.A.O p hmem).1
   have ex : ixO 0 (Int.toNat (i : Int)) 3 = i * 3 := by rw [J7]; simp
   have f0 := F.l0
   have f1 := F.l1
   have v0 := F.v0
   have v1 := F.v1
   have gb := F.g
   have o1 := F.o27 81
   have o2 := F.o27 82
   have o3 := F.o29 82
   have o4 := F.o29 83
   have hl0 := Bz p.1
   have hl1 := Bz p.2.1
   have z0 : p.1.length = 0 → byV p.1 = [] := fun e => List.eq_nil_of_length_eq_zero (by omega)
   have z1 : p.2.1.length = 0 → byV p.2.1 = [] := fun e => List.eq_nil_of_length_eq_zero (by omega)
   have cl1 := I7 p.1 (B1 k1) bp hB.A.K.2.1
   have cl2 := I7 p.1 (B1 k2) bp hB.K2.2.1
   have y1 := hB.A.K.1
   have y2 := hB.K2.1
   have tk1 := hB.A.K.tk
   have tk2 := hB.K2.tk
   have kl1 := hB.A.K.2.2
   have kl2 := hB.K2.2.2
   have hlt1 : ltK p.1 (B1 k1) = !decide (cmpI p.1 (B1 k1) ≥ 0) := rfl
   have hlt2 : ltK p.1 (B1 k2) = !decide (cmpI p.1 (B1 k2) ≥ 0) := rfl
   rw [← hlt1] at cl1
   rw [← hlt2] at cl2
   have hem : (B1 k2).isEmpty = true ↔ m2 = 0 := by
    have e := hB.K2.len
    rw [← e, List.isEmpty_iff, List.length_eq_zero_iff]
   have row : ∀ X : List DV, X = cpD [p] → some (Rw.mk (.dp 3 zPr X) []) = some (Rw.mk (.dp 3 zPr (cpD [p])) []) := fun X hX => by rw [hX]
   rw [hd, Kq] at hR
   have take := rb_more (inr := inr) (h0 := h0) hB r (i + 1) 1 [p] (by omega) rfl (by omega)
   have skip := rb_first (inr := inr) (h0 := h0) hB r (i + 1) _ (by omega) rfl
   cases q1 : ltK p.1 (B1 k1) with
   | true =>
    rw [q1] at cl1
    rw [show inP (B1 k1) (B1 k2) p = false by unfold inP; rw [q1]; rfl, cond_false] at hR
    subst hR
    refine LRuns.step (Bb rbX rbL0 (Bh rbX rbT0 rbL0 mixed 9) mixed (rb_s1 inr n m1 c1 m2 c2 i ds k1 k2) ?_) rfl (by omega) (by omega) (fun n => n) ?_ ?_ rfl skip
    ·
     simp only [Alls, rg, decide_eq_true_eq, decide_eq_false_iff_not, beq_iff_eq, beq_eq_false_iff_ne, ne_eq, Nat.add_zero, ex, f0, f1, v0, v1, Hv, C1, Bz, tk1, tk2]
     repeat' (with_reducible apply And.intro)
     all_goals first | omega | (with_reducible assumption) | (with_reducible exact trivial) | (with_reducible rfl) | exact rfl | exact cl1 | exact cl2 | exact Cm _ | exact fun e => z0 e | exact fun e => z1 e | exact fun e => z0 (f0.symm.trans (ex ▸ e)) | exact fun e => z1 (f1.symm.trans (ex ▸ e)) | skip
    ·exact ⟨rfl, Bj rfl rfl, rfl, Bt rfl hc1, rfl, Bt rfl hc2, rfl, rfl, rfl, rfl, trivial⟩
    ·exact E5 (.inl rfl) hB rfl rfl rfl
   | false =>
    rw [q1] at cl1
    have tk : inP (B1 k1) (B1 k2) p = true → LRuns inr Try.prog (B6 Try.prog 43 3) 3 120 h0 45 (rbS n m1 c1 m2 c2 (i + 1) (dpV 1)) ((80, ⟨.dp 3 zPr (cpD [p]), []⟩) :: rbH ds k1 k2) 81 (.exit 0, rbS n m1 c1 m2 c2 n (rbVo R R.isEmpty), rbOut ds k1 k2 R R.isEmpty) := fun hin => by
     rw [hin, cond_true] at hR
     subst hR
     show LRuns _ _ _ _ _ _ _ _ _ _ (.exit 0, rbS n m1 c1 m2 c2 n (dpV ((fiP (B1 k1) (B1 k2) ((B2 ds).drop (i + 1))).length + 1)), (80, _) :: _)
     rw [Nat.add_comm (List.length _) 1]
     exact take
    by_cases hz : m2 = 0
    ·have hin : inP (B1 k1) (B1 k2) p = true := by unfold inP upP; rw [q1, hem.2 hz]; rfl
     refine LRuns.step (Bb rbX rbL0 (Bh rbX rbT0 rbL0 mixed 9) mixed (rb_t1 inr n m1 c1 m2 c2 i ds k1 k2) ?_) rfl (by omega) (by omega) (fun _ => 86) ?_ ?_ rfl (tk hin)
     ·
      simp only [Alls, rg, decide_eq_true_eq, decide_eq_false_iff_not, beq_iff_eq, beq_eq_false_iff_ne, ne_eq, Nat.add_zero, ex, f0, f1, v0, v1, Hv, C1, Bz, tk1, tk2]
      repeat' (with_reducible apply And.intro)
      all_goals first | omega | (with_reducible assumption) | (with_reducible exact trivial) | (with_reducible rfl) | exact rfl | exact cl1 | exact cl2 | exact Cm _ | exact fun e => z0 e | exact fun e => z1 e | exact fun e => z0 (f0.symm.trans (ex ▸ e)) | exact fun e => z1 (f1.symm.trans (ex ▸ e)) | skip
     ·exact ⟨rfl, Bj rfl rfl, rfl, Bt rfl hc1, rfl, Bt rfl hc2, rfl, Bj rfl rfl, rfl, rfl, trivial⟩
     ·refine ⟨Ch (m := 86) rfl (row _ ?_), E5 (.inl rfl) hB rfl rfl rfl⟩
      simp only [Nat.add_zero, ex, f0, f1, v0, v1, gb, Hr]
      rfl
    ·have hne : (B1 k2).isEmpty = false := by
      cases e : (B1 k2).isEmpty with
      | false => rfl
      | true => exact absurd (hem.1 e) hz
     cases q2 : ltK p.1 (B1 k2) with
     | true =>
      rw [q2] at cl2
      have hin : inP (B1 k1) (B1 k2) p = true := by unfold inP upP; rw [q1, q2, hne]; rfl
      refine LRuns.step (Bb rbX rbL0 (Bh rbX rbT0 rbL0 mixed 9) mixed (rb_t2 inr n m1 c1 m2 c2 i ds k1 k2) ?_) rfl (by omega) (by omega) (fun _ => 87) ?_ ?_ rfl (tk hin)
      ·
       simp only [Alls, rg, decide_eq_true_eq, decide_eq_false_iff_not, beq_iff_eq, beq_eq_false_iff_ne, ne_eq, Nat.add_zero, ex, f0, f1, v0, v1, Hv, C1, Bz, tk1, tk2]
       repeat' (with_reducible apply And.intro)
       all_goals first | omega | (with_reducible assumption) | (with_reducible exact trivial) | (with_reducible rfl) | exact rfl | exact cl1 | exact cl2 | exact Cm _ | exact fun e => z0 e | exact fun e => z1 e | exact fun e => z0 (f0.symm.trans (ex ▸ e)) | exact fun e => z1 (f1.symm.trans (ex ▸ e)) | skip
      ·exact ⟨rfl, Bj rfl rfl, rfl, Bt rfl hc1, rfl, Bt rfl hc2, rfl, Bj rfl rfl, rfl, rfl, trivial⟩
      ·refine ⟨Ch (m := 87) rfl (row _ ?_), E5 (.inl rfl) hB rfl rfl rfl⟩
       simp only [Nat.add_zero, ex, f0, f1, v0, v1, gb, Hr]
       rfl
     | false =>
      rw [q2] at cl2
      rw [show inP (B1 k1) (B1 k2) p = false by unfold inP upP; rw [q1, q2, hne]; rfl, cond_false] at hR
      subst hR
      refine LRuns.step (Bb rbX rbL0 (Bh rbX rbT0 rbL0 mixed 9) mixed (rb_s2 inr n m1 c1 m2 c2 i ds k1 k2) ?_) rfl (by omega) (by omega) (fun n => n) ?_ ?_ rfl skip
      ·
       simp only [Alls, rg, decide_eq_true_eq, decide_eq_false_iff_not, beq_iff_eq, beq_eq_false_iff_ne, ne_eq, Nat.add_zero, ex, f0, f1, v0, v1, Hv, C1, Bz, tk1, tk2]
       repeat' (with_reducible apply And.intro)
       all_goals first | omega | (with_reducible assumption) | (with_reducible exact trivial) | (with_reducible rfl) | exact rfl | exact cl1 | exact cl2 | exact Cm _ | exact fun e => z0 e | exact fun e => z1 e | exact fun e => z0 (f0.symm.trans (ex ▸ e)) | exact fun e => z1 (f1.symm.trans (ex ▸ e)) | skip
      ·exact ⟨rfl, Bj rfl rfl, rfl, Bt rfl hc1, rfl, Bt rfl hc2, rfl, rfl, rfl, rfl, trivial⟩
      ·exact E5 (.inl rfl) hB rfl rfl rfl
structure RbA where
 n : Nat
 m1 : Nat
 c1 : Nat
 m2 : Nat
 c2 : Nat
 ds : List DV
 k1 : List Value
 k2 : List Value
def rbPk (live : List (Nat × Value)) (h : Hp) : Option RbA := match live, lk h 0, lk h 1, lk h 2 with
 | (_, .slice _ n _) :: (_, .slice _ m1 c1) :: (_, .slice _ m2 c2) :: _, some ⟨.dp _ _ ds, _⟩, some ⟨_, k1⟩, some ⟨_, k2⟩ => some ⟨n, m1, c1, m2, c2, ds, k1, k2⟩
 | _, _, _, _ => none
def rbR (a : RbA) : List Pr := fiP (B1 a.k1) (B1 a.k2) (B2 a.ds)
def rbSp : I9 := Jw rbPk (fun a => (rbS a.n a.m1 a.c1 a.m2 a.c2 0 btN, rbH a.ds a.k1 a.k2, 3)) (fun a tp => match tp with
 | b :: tp' => some ((.exit 0, rbS a.n a.m1 a.c1 a.m2 a.c2 a.n (rbVo (rbR a) b), rbOut a.ds a.k1 a.k2 (rbR a) b, 120, []), tp', [RbOk a.ds a.n a.m1 a.c1 a.m2 a.c2 a.k1 a.k2 ∧ (rbR a).isEmpty = b])
 | _ => none)
theorem rbSp_ok : LSOk Try.prog 45 [0, 1, 2, 7, 8] (B6 Try.prog 43 3) rbSp := by
 refine Eo fun a tp xt l2 h2 nx2 d tp' ob hs ho inr ts hn hg => ?_
 obtain ⟨n, m1, c1, m2, c2, ds, k1, k2⟩ := a
 simp only at hs hg
 split at hs
 case h_2 => cases hs
 rename_i b tp2
 simp only [oI, pI] at hs
 obtain ⟨⟨rfl, rfl, rfl, rfl, rfl⟩, rfl, rfl⟩ := hs
 obtain ⟨⟨hB, hb⟩, _⟩ := ho
 (try simp only at hB hb)
 have hc1 : c1 < B0 := by have := hB.c1; unfold B0; omega
 have hc2 : c2 < B0 := by have := hB.c2; unfold B0; omega
 have key := rb_first (inr := inr) (h0 := rbH ds k1 k2) hB n 0 _ (by omega) rfl
 rw [List.drop_zero] at key
 rw [show (fiP (B1 k1) (B1 k2) (B2 ds)).isEmpty = b from hb] at key
 refine LRuns.enter (N := 81) (l2 := rbS n m1 c1 m2 c2 0 btN) hn hg (by omega) (by omega) (fun n => n) ?_ (E5 (.inl rfl) hB rfl rfl rfl) rfl key ?_
 ·exact ⟨rfl, Bj rfl rfl, rfl, Bt rfl hc1, rfl, Bt rfl hc2, rfl, rfl, rfl, rfl, trivial⟩
 ·exact H0 (by omega) (fun m hm hd => by cases b <;> (show lk _ m = _; first | rfl | (show lk ((80, _) :: _) m = _; rw [B3, if_neg (by omega)]))) (by cases b <;> rfl)
def rbLo (P : Program) : LFun := mkL 43 3 45 [0, 1, 2, 7, 8] (B6 P 43 3) rbSp
theorem rbLo_one : LOne Try.prog (rbLo Try.prog) := Hm rbSp_ok
theorem rb_ft (n m1 c1 m2 c2 : Nat) (ds : List DV) (k1 k2 : List Value) : prjK [0] (runZ (rbV (rbLo Try.prog) noTz) Try.prog 9 43 [.slice (some ⟨0, 0, none⟩) n (B0 + 0), rbK 1 m1 c1, rbK 2 m2 c2] (rbH ds k1 k2) 3 [true]) =
 Res.ok ((Value.slice none 0 0, [(0, Rw.mk (Kd.dp 3 [Value.slice none 0 0, Value.slice none 0 0, Value.bool false] ds) [])], 120), [], [B6 Try.prog (43 : FuncId) 3 = B6 Try.prog (43 : FuncId) 3, [(0, Value.slice (some (Addr.mk 0 0 none)) n 18446744073709551616), (1, Value.slice (some (Addr.mk 1 0 none)) m1 c1), (2, Value.slice (some (Addr.mk 2 0 none)) m2 c2), (7, Value.slice none 0 0), (8, Value.int IntKind.i64 (0 : Int))] = rbS n m1 c1 m2 c2 0 (Value.slice none 0 0), rbH ds k1 k2 = rbH ds k1 k2, 3 = 3, RbOk ds n m1 c1 m2 c2 k1 k2 ∧ List.isEmpty (rbR (RbA.mk n m1 c1 m2 c2 ds k1 k2)) = true]) := by kernel_rfl
theorem rb_ff (n m1 c1 m2 c2 : Nat) (ds : List DV) (k1 k2 : List Value) : prjK [0, 80] (runZ (rbV (rbLo Try.prog) noTz) Try.prog 9 43 [.slice (some ⟨0, 0, none⟩) n (B0 + 0), rbK 1 m1 c1, rbK 2 m2 c2] (rbH ds k1 k2) 3 [false]) =
 (let a2 := [Value.slice none 0 0, Value.slice none 0 0, Value.bool false]; let a1 := (rbR (RbA.mk n m1 c1 m2 c2 ds k1 k2)); Res.ok ((Value.slice (some (Addr.mk 80 0 none)) (List.length a1) (B0 + 80), [(80, Rw.mk (Kd.dp 3 a2 (cpD a1)) []), (0, Rw.mk (Kd.dp 3 a2 ds) [])], 120), [], [B6 Try.prog (43 : FuncId) 3 = B6 Try.prog (43 : FuncId) 3, [(0, Value.slice (some (Addr.mk 0 0 none)) n 18446744073709551616), (1, Value.slice (some (Addr.mk 1 0 none)) m1 c1), (2, Value.slice (some (Addr.mk 2 0 none)) m2 c2), (7, Value.slice none 0 0), (8, Value.int IntKind.i64 (0 : Int))] = rbS n m1 c1 m2 c2 0 (Value.slice none 0 0), rbH ds k1 k2 = rbH ds k1 k2, 3 = 3, RbOk ds n m1 c1 m2 c2 k1 k2 ∧ List.isEmpty a1 = false])) := by kernel_rfl
def rbAg (a : RbA) : (Nat → Nat) → List Value := fun μ => [.slice (some ⟨μ 0, 0, none⟩) a.n (B0 + μ 0), .slice (some ⟨μ 1, 0, none⟩) a.m1 a.c1, .slice (some ⟨μ 2, 0, none⟩) a.m2 a.c2]
def rbRs (a : RbA) : List (Nat × ((Nat → Nat) → Rw)) := [(0, lyRd a.ds), (1, fun _ => ⟨.old, a.k1⟩), (2, fun _ => ⟨.old, a.k2⟩)]
def rbFo (a : RbA) : Bool → Fo
 | true => ⟨fun _ => .slice none 0 0, [(0, lyRd a.ds)], 0⟩
 | false => ⟨fun μ => .slice (some ⟨μ 3, 0, none⟩) (rbR a).length (B0 + μ 3), [(0, lyRd a.ds), (3, lyRd (cpD (rbR a)))], 1⟩
theorem rbFo_ok (a : RbA) (b : Bool) (hB : RbOk a.ds a.n a.m1 a.c1 a.m2 a.c2 a.k1 a.k2) (hb : (rbR a).isEmpty = b) : FoOk Try.prog 43 3 (rbAg a) (rbRs a) (rbFo a b) := by
 have hX : XOkZ (rbV (rbLo Try.prog) noTz) Try.prog := rbX
 have hT : TOkZ (rbV (rbLo Try.prog) noTz) Try.prog := rbT0
 have hL : LOkZ (rbV (rbLo Try.prog) noTz) Try.prog := Lz rfl rbLo_one
 have hc1 : a.c1 < B0 := by have := hB.c1; unfold B0; omega
 have hc2 : a.c2 < B0 := by have := hB.c2; unfold B0; omega
 have na : NatL 3 (rbAg a) := Bv (nat_sl (by omega)) (Bv (Jm (by omega) hc1) (Bv (Jm (by omega) hc2) Dn))
 have nr : ∀ p ∈ rbRs a, NatR 3 p.2 := by
  intro p hp
  simp only [rbRs, List.mem_cons, List.not_mem_nil, or_false] at hp
  rcases hp with rfl | rfl | rfl
  ·exact Ev
  ·exact H1 hB.A.K.fl rfl
  ·exact H1 hB.K2.fl rfl
 cases b with
 | true =>
  have T := B8 hX hT hL (rb_ft a.n a.m1 a.c1 a.m2 a.c2 a.ds a.k1 a.k2) ⟨rfl, rfl, rfl, rfl, ⟨hB, hb⟩, trivial⟩ rfl
  refine ⟨na, nr, nat_fl fun _ => rfl, ?_, _, _, _, id, T, rfl, ?_, fun i j hi => (by cases hi), fun i hi => (by cases hi)⟩
  ·intro p hp
   simp only [rbFo, List.mem_cons, List.not_mem_nil, or_false] at hp
   subst hp
   exact ⟨by show 0 < 3 + 0; omega, Ev, fun _ => List.mem_cons_self ..⟩
  ·intro p hp
   simp only [rbFo, List.mem_cons, List.not_mem_nil, or_false] at hp
   subst hp
   rfl
 | false =>
  have T := B8 hX hT hL (rb_ff a.n a.m1 a.c1 a.m2 a.c2 a.ds a.k1 a.k2) ⟨rfl, rfl, rfl, rfl, ⟨hB, hb⟩, trivial⟩ rfl
  refine ⟨na, nr, nat_sl (by show 3 < 3 + 1; omega), ?_, _, _, _, fun _ => 80, T, rfl, ?_, fun i j hi hj _ => ?_, fun i hi => ⟨by show 3 ≤ 80; omega, by show 80 < 120; omega⟩⟩
  ·intro p hp
   simp only [rbFo, List.mem_cons, List.not_mem_nil, or_false] at hp
   rcases hp with rfl | rfl
   ·exact ⟨by show 0 < 3 + 1; omega, Ev, fun _ => List.mem_cons_self ..⟩
   ·exact ⟨by show 3 < 3 + 1; omega, Ev, fun h => absurd h (by show ¬ 3 < 3; omega)⟩
  ·intro p hp
   simp only [rbFo, List.mem_cons, List.not_mem_nil, or_false] at hp
   rcases hp with rfl | rfl <;> rfl
  ·have hi : i < 1 := hi
   have hj : j < 1 := hj
   omega
def rbPick : List Value → Hp → Option (List Nat × RbA)
 | [.slice (some ⟨a, 0, none⟩) n c, .slice (some ⟨k, 0, none⟩) m1 c1, .slice (some ⟨v, 0, none⟩) m2 c2], h => bif Nat.beq c (B0 + a) then (match lrD h a, lrO h k, lrO h v with
  | some ds, some k1, some k2 => some ([a, k, v], ⟨n, m1, c1, m2, c2, ds, k1, k2⟩)
  | _, _, _ => none) else none
 | _, _ => none
theorem rbPick_ok (xs : List Value) (h0 : Hp) (ns : List Nat) (a : RbA) (h : rbPick xs h0 = some (ns, a)) : ns.length = 3 ∧ ∀ nx, xs = rbAg a (nmA ns 3 nx) ∧ ∀ p ∈ rbRs a, lk h0 (nmA ns 3 nx p.1) = some (p.2 (nmA ns 3 nx)) := by
 unfold rbPick at h
 split at h
 case h_2 => cases h
 rename_i a n c k m1 c1 v m2 c2
 obtain ⟨hc, h'⟩ := Ba h
 clear h
 have h := h'
 clear h'
 obtain rfl := Nat.eq_of_beq_eq_true hc
 split at h
 case h_2 => cases h
 rename_i ds k1 k2 e1 e2 e3
 cases h
 refine ⟨rfl, fun nx => ⟨rfl, fun p hp => ?_⟩⟩
 simp only [rbRs, List.mem_cons, List.not_mem_nil, or_false] at hp
 rcases hp with rfl | rfl | rfl
 ·exact lrD_ok e1
 ·exact lrO_ok e2
 ·exact lrO_ok e3
def rbOutT (a : RbA) : Tape → Option (Fo × Tape × List Prop)
 | b :: tp => some (rbFo a b, tp, [RbOk a.ds a.n a.m1 a.c1 a.m2 a.c2 a.k1 a.k2 ∧ (rbR a).isEmpty = b])
 | [] => none
theorem rbOutT_ok (a : RbA) (tp : Tape) (o : Fo) (tp' : Tape) (ob : List Prop) (h : rbOutT a tp = some (o, tp', ob)) (ho : Alls ob) : FoOk Try.prog 43 3 (rbAg a) (rbRs a) o := by
 unfold rbOutT at h
 split at h
 case h_2 => cases h
 rename_i b tp2
 simp only [oI, pI] at h
 obtain ⟨rfl, rfl, rfl⟩ := h
 obtain ⟨⟨h1, h2⟩, _⟩ := ho
 exact rbFo_ok a b h1 h2
def rbC : Fc Try.prog 43 3 := ⟨RbA, rbPick, rbAg, rbRs, rbOutT, rbPick_ok, (fun a p hp => by
 simp only [rbRs, List.mem_cons, List.not_mem_nil, or_false] at hp
 rcases hp with rfl | rfl | rfl <;> (dsimp only; omega)), rbOutT_ok⟩
noncomputable def rbT : TFun := mkG rbC
theorem rbT_one : Cv Try.prog rbT := J5 _
theorem ltK_lt {a b c : List Int} (h1 : ltK a b = true) (h2 : ltK a c = false) : ltK b c = false := by
 cases h : ltK b c with
 | false => rfl
 | true => rw [Jn h1 h] at h2; cases h2
theorem fi_tk {a b : List Int} : ∀ {ps : List Pr}, asc ps = true → (∀ p ∈ ps, ltK p.1 a = false) → fiP a b ps = tkP ps b
 | [], _, _ => rfl
 | p :: ps, ha, h => by
   have hp := h p (List.mem_cons_self ..)
   rw [Kq]
   unfold tkP
   rw [List.takeWhile_cons]
   have hin : inP a b p = upP b p := by unfold inP; rw [hp]; rfl
   rw [hin]
   cases hu : upP b p with
   | true =>
    have := fi_tk (a := a) (b := b) (Hc ha) fun q hq => h q (List.mem_cons_of_mem _ hq)
    unfold tkP at this
    rw [cond_true, this]
    rfl
   | false =>
    rw [cond_false]
    refine List.filter_eq_nil_iff.2 fun q hq => ?_
    have hpq := Js ha q hq
    have hu' : upP b q = false := by
     unfold upP at hu ⊢
     rw [Bool.or_eq_false_iff] at hu ⊢
     exact ⟨hu.1, ltK_lt hpq hu.2⟩
    unfold inP
    rw [hu', Bool.and_false]
    intro e
    cases e
theorem fi_btw {a b : List Int} : ∀ {ps : List Pr}, asc ps = true → fiP a b ps = btw ps a b
 | [], _ => rfl
 | p :: ps, ha => by
   unfold btw
   cases h : ltK p.1 a with
   | true =>
    have e : lbP (p :: ps) a = lbP ps a + 1 := by show (bif ltK p.1 a then lbP ps a + 1 else 0) = _; rw [h]; rfl
    rw [e, List.drop_succ_cons, Kq, show inP a b p = false by unfold inP; rw [h]; rfl, cond_false]
    exact fi_btw (Hc ha)
   | false =>
    have e : lbP (p :: ps) a = 0 := by show (bif ltK p.1 a then lbP ps a + 1 else 0) = _; rw [h]; rfl
    rw [e, List.drop_zero]
    refine fi_tk ha fun q hq => ?_
    rcases List.mem_cons.1 hq with rfl | hq
    ·exact h
    ·exact ltK_lt (Js ha q hq) h
end Go.Proofs.Ytojakfnljopjbaa
