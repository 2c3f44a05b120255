/-
  Chapter 12: Between as a contract; what is handed out is the caller's alone.
-/
import Derived.Test.YtojakfnljopjbaaGrAV
namespace Go.Proofs.Ytojakfnljopjbaa
set_option linter.unusedSimpArgs false
set_option linter.unusedVariables false
set_option linter.unusedSectionVars false
open Go Go.RowKit
def alOut (P : Program) (n c m1 m2 : Nat) (ds : List DV) (k1 k2 : List Value) (R : List Pr) (b : Bool) : Hp := bif b then btG P n c m1 m2 ds k1 k2 btN else (80, ⟨.dx 1 3 zPr (cpD R), []⟩) :: btG P n c m1 m2 ds k1 k2 (dpV R.length)
theorem al_first {inr : Bool} {h0 : Hp} {ds : List DV} {n c m1 m2 k q d o : Nat} {k1 k2 : List Value} (hB : BtOk ds n c m1 m2 k q d k1 k2) (ho : q = 0 ∨ o = k * 3) {R : List Pr} (hR : tkP ((B2 ds).drop k) (B1 k2) = R) :
  LRuns inr Try.prog (B6 Try.prog 50 2) 12 120 h0 44 (btS o q d 0) (btG Try.prog n c m1 m2 ds k1 k2 btN) 81
   (xtB (decide (R.length = q)), [], alOut Try.prog n c m1 m2 ds k1 k2 R R.isEmpty) := by
 have hkn := hB.kn
 have hm := hB.T.T.m
 by_cases hq0 : q = 0
 ·have e0 : (B2 ds).drop k = [] := List.drop_of_length_le (by rw [hB.T.T.l]; omega)
  rw [e0] at hR
  obtain rfl : R = [] := hR.symm
  rw [List.length_nil, decide_eq_true hq0.symm]
  refine LRuns.exit (Bb alX alL0 (Bh alX alT alL0 mixed 12) mixed (al_end inr n c m1 m2 o q d 0 ds k1 k2) ?_) (by intro e; cases e) rfl (by omega) (by omega) (fun n => n) ?_ ?_ rfl
  ·simp only [Alls, decide_eq_false_iff_not]
   exact ⟨by omega, trivial⟩
  ·trivial
  ·refine H3 (.inr rfl) hB.c hB.K1 hB.K2 ?_ rfl rfl
   refine fun j r hj h6 => Ij (C := fun j => j ≠ 6 → lk _ j = some r → lk _ j = some r) hj ?_ ?_ ?_ ?_ ?_ ?_ ?_ ?_ ?_ ?_ ?_ ?_ h6
   all_goals first | exact fun h => absurd rfl h | exact fun _ e => e
 obtain rfl : o = k * 3 := ho.resolve_left hq0
 have hdd : d < B0 := by have := hB.d; unfold B0; omega
 have hi : k + 0 < (B2 ds).length := by rw [hB.T.T.l]; omega
 have F := hB.T.T.P.facts (List.getElem?_eq_getElem hi)
 obtain ⟨p, hp⟩ : ∃ p, (B2 ds)[k + 0] = p := ⟨_, rfl⟩
 have hmem : p ∈ B2 ds := by rw [← hp]; exact List.getElem_mem hi
 rw [hp] at F
 have F : PrAt ds k p := F
 have bp := (hB.T.T.O p hmem).1
 have b0 := u8_by bp
 have b1 := u8_by (hB.T.T.O p hmem).2
 obtain ⟨u1, u2, u3⟩ := hB.T.K p hmem
 have hd : (B2 ds).drop k = p :: (B2 ds).drop (k + 1) := by
  have := List.drop_eq_getElem_cons hi
  rw [hp] at this
  exact this
 have ex : ixO (k * 3) 0 3 = k * 3 := by rw [J7]; omega
 have f0 := F.l0
 have f1 := F.l1
 have v0 := F.v0
 have v1 := F.v1
 have gb := F.g
 have o1 := F.o29 81
 have y1 := Ep bp
 have i0 := C1 p.1
 have hl0 := Bz p.1
 have hl1 := Bz p.2.1
 have t0 : List.take p.1.length (byV p.1) = byV p.1 := List.take_of_length_le (by omega)
 have t1 : List.take p.2.1.length (byV p.2.1) = byV p.2.1 := List.take_of_length_le (by omega)
 have r0 := Cm p.1
 have r1 := Cm p.2.1
 have a0 : all1 (byV p.1) = true := Hd p.1
 have a1 : all1 (byV p.2.1) = true := Hd p.2.1
 have z0 : p.1.length = 0 → byV p.1 = [] := fun e => List.eq_nil_of_length_eq_zero (by omega)
 have z1 : p.2.1.length = 0 → byV p.2.1 = [] := fun e => List.eq_nil_of_length_eq_zero (by omega)
 have hK2 := hB.K2
 have hup := bt_up (p := p) hB.K2
 have row : ∀ X : List DV, X = cpD [p] → some (Rw.mk (.dx 1 3 zPr X) []) = some (Rw.mk (.dx 1 3 zPr (cpD [p])) []) := fun X hX => by rw [hX]
 cases hq : upP (B1 k2) p with
 | true =>
  have nx := al_more (inr := inr) (h0 := h0) hB (q - 1) 1 1 [p] (by omega) rfl (Nat.le_refl _)
  have eR : R = p :: tkP ((B2 ds).drop (k + 1)) (B1 k2) := by rw [← hR, hd]; unfold tkP; rw [List.takeWhile_cons, hq]; rfl
  generalize tkP ((B2 ds).drop (k + 1)) (B1 k2) = Q at nx eR
  have eO : alOut Try.prog n c m1 m2 ds k1 k2 R R.isEmpty = (80, ⟨.dx 1 3 zPr (cpD ([p] ++ Q)), []⟩) :: btG Try.prog n c m1 m2 ds k1 k2 (dpV (1 + Q.length)) := by
   rw [eR]
   show (80, _) :: _ = _
   rw [List.length_cons, Nat.add_comm Q.length 1]
   rfl
  have eX : decide (R.length = q) = decide (1 + Q.length = q) := by rw [eR, List.length_cons, Nat.add_comm Q.length 1]
  rw [eO, eX]
  by_cases hz : m2 = 0
  ·refine LRuns.step (Bb alX alL0 (Bh alX alT alL0 mixed 12) mixed (al_go1 inr n c m1 m2 (k * 3) q d 0 ds k1 k2) ?_) rfl (by omega) (by omega) (fun _ => 94) ?_ ?_ rfl nx
   ·simp only [Alls, rg, decide_eq_true_eq, decide_eq_false_iff_not, Nat.add_zero, ex, f0, f1, v0, v1, t0, t1, Nat.mul_one, Int.toNat_natCast]
    repeat' (with_reducible apply And.intro)
    all_goals first | omega | (with_reducible assumption) | (with_reducible exact trivial) | (with_reducible rfl) | exact fun e => z0 (f0.symm.trans (ex ▸ e)) | exact fun e => z1 (f1.symm.trans (ex ▸ e)) | skip
   ·exact ⟨rfl, rfl, rfl, Bp rfl, rfl, Bp rfl, rfl, Bp rfl, rfl, Bt rfl hdd, rfl, rfl, rfl, rfl, trivial⟩
   ·refine ⟨Lg (m := 94) rfl (row _ ?_), H3 (.inl rfl) hB.c hB.K1 hB.K2 ?_ rfl (Bj rfl rfl)⟩
    ·simp only [Nat.add_zero, ex, f0, f1, v0, v1, t0, t1, gb, Hr]
     rfl
    ·
     refine fun j r hj h6 => Ij (C := fun j => j ≠ 6 → lk _ j = some r → lk _ j = some r) hj ?_ ?_ ?_ ?_ ?_ ?_ ?_ ?_ ?_ ?_ ?_ ?_ h6
     all_goals first | exact fun h => absurd rfl h | exact fun _ e => e
  ·have hc1 : cmpI p.1 (B1 k2) < 0 := (hup.1 hq).resolve_left hz
   refine LRuns.step (Bb alX alL0 (Bh alX alT alL0 mixed 12) mixed (al_go2 inr n c m1 m2 (k * 3) q d 0 ds k1 k2) ?_) rfl (by omega) (by omega) (fun _ => 94) ?_ ?_ rfl nx
   ·simp only [Alls, rg, decide_eq_true_eq, decide_eq_false_iff_not, Nat.add_zero, ex, f0, f1, v0, v1, t0, t1, i0, Nat.mul_one, Int.toNat_natCast]
    repeat' (with_reducible apply And.intro)
    all_goals first | omega | (with_reducible assumption) | (with_reducible exact trivial) | (with_reducible rfl) | exact fun e => z0 (f0.symm.trans (ex ▸ e)) | exact fun e => z1 (f1.symm.trans (ex ▸ e)) | skip
   ·exact ⟨rfl, rfl, rfl, Bp rfl, rfl, Bp rfl, rfl, Bp rfl, rfl, Bt rfl hdd, rfl, rfl, rfl, rfl, trivial⟩
   ·refine ⟨Lg (m := 94) rfl (row _ ?_), H3 (.inl rfl) hB.c hB.K1 hB.K2 ?_ rfl (Bj rfl rfl)⟩
    ·simp only [Nat.add_zero, ex, f0, f1, v0, v1, t0, t1, gb, Hr]
     rfl
    ·
     refine fun j r hj h6 => Ij (C := fun j => j ≠ 6 → lk _ j = some r → lk _ j = some r) hj ?_ ?_ ?_ ?_ ?_ ?_ ?_ ?_ ?_ ?_ ?_ ?_ h6
     all_goals first | exact fun h => absurd rfl h | exact fun _ e => e
 | false =>
  have eR : R = [] := by rw [← hR, hd]; unfold tkP; rw [List.takeWhile_cons, hq]; rfl
  subst eR
  rw [List.length_nil, decide_eq_false (by omega)]
  have hnup : ¬ (m2 = 0 ∨ cmpI p.1 (B1 k2) < 0) := fun e => by have := hup.2 e; rw [hq] at this; cases this
  refine LRuns.exit (Bb alX alL0 (Bh alX alT alL0 mixed 12) mixed (al_stop inr n c m1 m2 (k * 3) q d 0 ds k1 k2) ?_) (by intro e; cases e) rfl (by omega) (by omega) (fun n => n) ?_ ?_ rfl
  ·simp only [Alls, rg, decide_eq_true_eq, decide_eq_false_iff_not, Nat.add_zero, ex, f0, f1, v0, v1, t0, t1, i0, Nat.mul_one, Int.toNat_natCast]
   repeat' (with_reducible apply And.intro)
   all_goals first | omega | (with_reducible assumption) | (with_reducible exact trivial) | (with_reducible rfl) | skip
  ·trivial
  ·refine H3 (.inr rfl) hB.c hB.K1 hB.K2 ?_ rfl rfl
   refine fun j r hj h6 => Ij (C := fun j => j ≠ 6 → lk _ j = some r → lk _ j = some r) hj ?_ ?_ ?_ ?_ ?_ ?_ ?_ ?_ ?_ ?_ ?_ ?_ h6
   all_goals first | exact fun h => absurd rfl h | exact fun _ e => e
def alSp (P : Program) : I9 := Jw btPk (fun a => (btS a.o a.q a.d 0, btG P a.n a.c a.m1 a.m2 a.ds a.k1 a.k2 btN, 12)) (fun a tp => match tp with
 | b1 :: b2 :: tp' => some ((xtB b2, [], alOut P a.n a.c a.m1 a.m2 a.ds a.k1 a.k2 (btw (B2 a.ds) (B1 a.k1) (B1 a.k2)) b1, 120, [6]), tp', [BtSt a.ds a.n a.c a.m1 a.m2 a.o a.q a.d a.k1 a.k2 b1 b2])
 | _ => none)
def alLo (P : Program) : LFun := mkL 50 2 44 [0, 1, 2, 3, 20, 21, 22] (B6 P 50 2) (alSp P)
theorem alSp_ok : LSOk Try.prog 44 [0, 1, 2, 3, 20, 21, 22] (B6 Try.prog 50 2) (alSp Try.prog) := by
 refine Eo fun a tp xt l2 h2 nx2 d tp' ob hs ho inr ts hn hg => ?_
 obtain ⟨n, c, m1, m2, o, q, d, ds, k1, k2⟩ := a
 simp only at hs hg
 split at hs
 case h_2 => cases hs
 rename_i b1 b2 _
 simp only [oI, pI] at hs
 obtain ⟨⟨rfl, rfl, rfl, rfl, rfl⟩, rfl, rfl⟩ := hs
 obtain ⟨⟨hB, ho1, he, hx⟩, _⟩ := ho
 (try simp only at hB ho1 he hx)
 have hdd : d < B0 := by have := hB.d; unfold B0; omega
 have key := al_first (inr := inr) (h0 := btG Try.prog n c m1 m2 ds k1 k2 btN) (R := btw (B2 ds) (B1 k1) (B1 k2)) hB ho1 rfl
 rw [he, hx] at key
 refine LRuns.enter (N := 81) (l2 := btS o q d 0) hn hg (by omega) (by omega) (fun n => n) ?_ ?_ rfl key ?_
 ·exact ⟨rfl, rfl, rfl, Bp rfl, rfl, Bp rfl, rfl, Bp rfl, rfl, Bt rfl hdd, rfl, rfl, rfl, rfl, trivial⟩
 ·refine H3 (.inl rfl) hB.c hB.K1 hB.K2 ?_ rfl rfl
  refine fun j r hj h6 => Ij (C := fun j => j ≠ 6 → lk _ j = some r → lk _ j = some r) hj ?_ ?_ ?_ ?_ ?_ ?_ ?_ ?_ ?_ ?_ ?_ ?_ h6
  all_goals first | exact fun h => absurd rfl h | exact fun _ e => e
 ·refine H0 (by omega) (fun m hm hd => ?_) (by cases b1 <;> rfl)
  have h6 : m ≠ 6 := fun e => hd (by simp [e])
  cases b1 with
  | true => rfl
  | false =>
   have hm2 : m < 12 := hm
   show lk ((80, _) :: _) m = _
   rw [B3, if_neg (by omega)]
   simp only [btG, B3, if_neg (Ne.symm h6)]
theorem ax_tt (n c m1 m2 : Nat) (ds : List DV) (k1 k2 : List Value) : prjV (runZ (alV (alLo Try.prog) bsT) Try.prog 12 23 [ptA, kyA m1, kyB m2] (btH n c ds k1 k2) 6 [true, true, true]) =
 (let a6 := (Array.mk []); let a5 := (some (Addr.mk 4 0 none)); let a4 := (some (Addr.mk 2 0 none)); let a3 := (some (Addr.mk 0 0 none)); let a1 := (lbP (B2 ds) (B1 k1)); let a2 := (loO (some (Value.int IntKind.i64 (↑a1 :
 Int))) 0 a1 c 3); Res.ok (Value.slice none 0 0, [], [n = 0 → ds = [], (∀ (τ : Sg), renL τ k1 = some k1) ∧ (m1 = 0 → k1 = []), BsOk ds k1 n m1 ∧ hitP (B2 ds) (B1 k1) = true ∧ Value.func (Fn.func 47) a6 a6 = Value.func
 (Fn.func 47) #[] #[], c < 18446744073709551616, (0 : Int) ≤ (↑a1 : Int) ∧ (↑a1 : Int) ≤ (↑n : Int), B6 Try.prog (50 : FuncId) 2 = B6 Try.prog (50 : FuncId) 2, [(0, Value.func (Fn.yield 11) a6 a6), (1, Value.pointer (some
 (Addr.mk 7 0 none))), (2, Value.pointer (some (Addr.mk 8 0 none))), (3, Value.pointer (some (Addr.mk 9 0 none))), (20, Value.slice (some (Addr.mk 1 a2 none)) (sbN n a1) (sbN c a1)), (21, Value.int IntKind.i64 (↑(sbN n a1) : Int)),
 (22, Value.int IntKind.i64 (0 : Int))] = btS a2 (sbN n a1) (sbN c a1) 0, (11, Rw.mk (Kd.round LoopState.ready none [Value.pointer a3, Value.slice a4 m1 (B0 + 2), Value.slice a5 m2 (B0 + 4), Value.tuple #[], Value.tuple
 #[], Value.tuple #[], Value.slice none 0 0, Value.pointer (some (Addr.mk 6 0 none)), Value.tuple #[], Value.pointer a3, Value.bool false, Value.pointer a3, Value.slice a4 m1 (B0 + 2), Value.slice a5 m2 (B0 + 4), Value.func
 (Fn.func 50) a6 (Array.mk [Value.pointer (some (Addr.mk 7 0 none)), Value.pointer (some (Addr.mk 8 0 none)), Value.pointer (some (Addr.mk 9 0 none))]), Value.tuple #[], Value.tuple #[], Value.tuple #[], Value.tuple #[],
 Value.tuple #[], Value.tuple #[]] #[15] (rfAs Try.prog 23) (rfBd Try.prog 23)) []) :: (10, Rw.mk Kd.marks []) :: (9, Rw.mk Kd.shut [Value.slice a5 m2 (B0 + 4)]) :: (8, Rw.mk Kd.shut [Value.slice a4 m1 (B0 + 2)]) :: (7,
 Rw.mk Kd.shut [Value.pointer a3]) :: (6, Rw.mk Kd.shut [Value.slice none 0 0]) :: btH n c ds k1 k2 = btG Try.prog n c m1 m2 ds k1 k2 (Value.slice none 0 0), 12 = 12, BtSt ds n c m1 m2 a2 (sbN n a1) (sbN c a1) k1 k2 true true])) :=
 by
 kernel_rfl
theorem ax_tf (n c m1 m2 : Nat) (ds : List DV) (k1 k2 : List Value) : prjV (runZ (alV (alLo Try.prog) bsT) Try.prog 12 23 [ptA, kyA m1, kyB m2] (btH n c ds k1 k2) 6 [true, true, false]) =
 (let a6 := (Array.mk []); let a5 := (some (Addr.mk 4 0 none)); let a4 := (some (Addr.mk 2 0 none)); let a3 := (some (Addr.mk 0 0 none)); let a1 := (lbP (B2 ds) (B1 k1)); let a2 := (loO (some (Value.int IntKind.i64 (↑a1 : Int))) 0 a1 c 3); Res.ok (Value.slice none 0 0, [], [n = 0 → ds = [], (∀ (τ : Sg), renL τ k1 = some k1) ∧ (m1 = 0 → k1 = []), BsOk ds k1 n m1 ∧ hitP (B2 ds) (B1 k1) = true ∧ Value.func (Fn.func 47) a6 a6 = Value.func (Fn.func 47) #[] #[], c < 18446744073709551616, (0 : Int) ≤ (↑a1 : Int) ∧ (↑a1 : Int) ≤ (↑n : Int), B6 Try.prog (50 : FuncId) 2 = B6 Try.prog (50 : FuncId) 2, [(0, Value.func (Fn.yield 11) a6 a6), (1, Value.pointer (some (Addr.mk 7 0 none))), (2, Value.pointer (some (Addr.mk 8 0 none))), (3, Value.pointer (some (Addr.mk 9 0 none))), (20, Value.slice (some (Addr.mk 1 a2 none)) (sbN n a1) (sbN c a1)), (21, Value.int IntKind.i64 (↑(sbN n
 a1) : Int)), (22, Value.int IntKind.i64 (0 : Int))] = btS a2 (sbN n a1) (sbN c a1) 0, (11, Rw.mk (Kd.round LoopState.ready none [Value.pointer a3, Value.slice a4 m1 (B0 + 2), Value.slice a5 m2 (B0 + 4), Value.tuple #[], Value.tuple #[], Value.tuple #[], Value.slice none 0 0, Value.pointer (some (Addr.mk 6 0 none)), Value.tuple #[], Value.pointer a3, Value.bool false, Value.pointer a3, Value.slice a4 m1 (B0 + 2), Value.slice a5 m2 (B0 + 4), Value.func (Fn.func 50) a6 (Array.mk [Value.pointer (some (Addr.mk 7 0 none)), Value.pointer (some (Addr.mk 8 0 none)), Value.pointer (some (Addr.mk 9 0 none))]), Value.tuple #[], Value.tuple #[], Value.tuple #[], Value.tuple #[], Value.tuple #[], Value.tuple #[]] #[15] (rfAs Try.prog 23) (rfBd Try.prog 23)) []) :: (10, Rw.mk Kd.marks []) :: (9, Rw.mk Kd.shut [Value.slice a5 m2 (B0 + 4)]) :: (8, Rw.mk Kd.shut [Value.slice a4 m1
 (B0 + 2)]) :: (7, Rw.mk Kd.shut [Value.pointer a3]) :: (6, Rw.mk Kd.shut [Value.slice none 0 0]) :: btH n c ds k1 k2 = btG Try.prog n c m1 m2 ds k1 k2 (Value.slice none 0 0), 12 = 12, BtSt ds n c m1 m2 a2 (sbN n a1) (sbN c a1) k1 k2 true
 false])) := by kernel_rfl
theorem ax_ft (n c m1 m2 : Nat) (ds : List DV) (k1 k2 : List Value) : prjV (runZ (alV (alLo Try.prog) bsT) Try.prog 12 23 [ptA, kyA m1, kyB m2] (btH n c ds k1 k2) 6 [false, true, true]) =
 (let a6 := (Array.mk []); let a5 := (some (Addr.mk 4 0 none)); let a4 := (some (Addr.mk 2 0 none)); let a3 := (some (Addr.mk 0 0 none)); let a1 := (lbP (B2 ds) (B1 k1)); let a2 := (loO (some (Value.int IntKind.i64 (↑a1 :
 Int))) 0 a1 c 3); Res.ok (Value.slice none 0 0, [], [n = 0 → ds = [], (∀ (τ : Sg), renL τ k1 = some k1) ∧ (m1 = 0 → k1 = []), BsOk ds k1 n m1 ∧ hitP (B2 ds) (B1 k1) = false ∧ Value.func (Fn.func 47) a6 a6 = Value.func
 (Fn.func 47) #[] #[], c < 18446744073709551616, (0 : Int) ≤ (↑a1 : Int) ∧ (↑a1 : Int) ≤ (↑n : Int), B6 Try.prog (50 : FuncId) 2 = B6 Try.prog (50 : FuncId) 2, [(0, Value.func (Fn.yield 11) a6 a6), (1, Value.pointer (some
 (Addr.mk 7 0 none))), (2, Value.pointer (some (Addr.mk 8 0 none))), (3, Value.pointer (some (Addr.mk 9 0 none))), (20, Value.slice (some (Addr.mk 1 a2 none)) (sbN n a1) (sbN c a1)), (21, Value.int IntKind.i64 (↑(sbN n a1) : Int)),
 (22, Value.int IntKind.i64 (0 : Int))] = btS a2 (sbN n a1) (sbN c a1) 0, (11, Rw.mk (Kd.round LoopState.ready none [Value.pointer a3, Value.slice a4 m1 (B0 + 2), Value.slice a5 m2 (B0 + 4), Value.tuple #[], Value.tuple
 #[], Value.tuple #[], Value.slice none 0 0, Value.pointer (some (Addr.mk 6 0 none)), Value.tuple #[], Value.pointer a3, Value.bool false, Value.pointer a3, Value.slice a4 m1 (B0 + 2), Value.slice a5 m2 (B0 + 4), Value.func
 (Fn.func 50) a6 (Array.mk [Value.pointer (some (Addr.mk 7 0 none)), Value.pointer (some (Addr.mk 8 0 none)), Value.pointer (some (Addr.mk 9 0 none))]), Value.tuple #[], Value.tuple #[], Value.tuple #[], Value.tuple #[],
 Value.tuple #[], Value.tuple #[]] #[15] (rfAs Try.prog 23) (rfBd Try.prog 23)) []) :: (10, Rw.mk Kd.marks []) :: (9, Rw.mk Kd.shut [Value.slice a5 m2 (B0 + 4)]) :: (8, Rw.mk Kd.shut [Value.slice a4 m1 (B0 + 2)]) :: (7,
 Rw.mk Kd.shut [Value.pointer a3]) :: (6, Rw.mk Kd.shut [Value.slice none 0 0]) :: btH n c ds k1 k2 = btG Try.prog n c m1 m2 ds k1 k2 (Value.slice none 0 0), 12 = 12, BtSt ds n c m1 m2 a2 (sbN n a1) (sbN c a1) k1 k2 true true])) :=
 by
 kernel_rfl
theorem ax_ff (n c m1 m2 : Nat) (ds : List DV) (k1 k2 : List Value) : prjV (runZ (alV (alLo Try.prog) bsT) Try.prog 12 23 [ptA, kyA m1, kyB m2] (btH n c ds k1 k2) 6 [false, true, false]) =
 (let a6 := (Array.mk []); let a5 := (some (Addr.mk 4 0 none)); let a4 := (some (Addr.mk 2 0 none)); let a3 := (some (Addr.mk 0 0 none)); let a1 := (lbP (B2 ds) (B1 k1)); let a2 := (loO (some (Value.int IntKind.i64 (↑a1 : Int))) 0 a1 c 3); Res.ok (Value.slice none 0 0, [], [n = 0 → ds = [], (∀ (τ : Sg), renL τ k1 = some k1) ∧ (m1 = 0 → k1 = []), BsOk ds k1 n m1 ∧ hitP (B2 ds) (B1 k1) = false ∧ Value.func (Fn.func 47) a6 a6 = Value.func (Fn.func 47) #[] #[], c < 18446744073709551616, (0 : Int) ≤ (↑a1 : Int) ∧ (↑a1 : Int) ≤ (↑n : Int), B6 Try.prog (50 : FuncId) 2 = B6 Try.prog (50 : FuncId) 2, [(0, Value.func (Fn.yield 11) a6 a6), (1, Value.pointer (some (Addr.mk 7 0 none))), (2, Value.pointer (some (Addr.mk 8 0 none))), (3, Value.pointer (some (Addr.mk 9 0 none))), (20, Value.slice (some (Addr.mk 1 a2 none)) (sbN n a1) (sbN c a1)), (21, Value.int IntKind.i64 (↑(sbN n
 a1) : Int)), (22, Value.int IntKind.i64 (0 : Int))] = btS a2 (sbN n a1) (sbN c a1) 0, (11, Rw.mk (Kd.round LoopState.ready none [Value.pointer a3, Value.slice a4 m1 (B0 + 2), Value.slice a5 m2 (B0 + 4), Value.tuple #[], Value.tuple #[], Value.tuple #[], Value.slice none 0 0, Value.pointer (some (Addr.mk 6 0 none)), Value.tuple #[], Value.pointer a3, Value.bool false, Value.pointer a3, Value.slice a4 m1 (B0 + 2), Value.slice a5 m2 (B0 + 4), Value.func (Fn.func 50) a6 (Array.mk [Value.pointer (some (Addr.mk 7 0 none)), Value.pointer (some (Addr.mk 8 0 none)), Value.pointer (some (Addr.mk 9 0 none))]), Value.tuple #[], Value.tuple #[], Value.tuple #[], Value.tuple #[], Value.tuple #[], Value.tuple #[]] #[15] (rfAs Try.prog 23) (rfBd Try.prog 23)) []) :: (10, Rw.mk Kd.marks []) :: (9, Rw.mk Kd.shut [Value.slice a5 m2 (B0 + 4)]) :: (8, Rw.mk Kd.shut [Value.slice a4 m1
 (B0 + 2)]) :: (7, Rw.mk Kd.shut [Value.pointer a3]) :: (6, Rw.mk Kd.shut [Value.slice none 0 0]) :: btH n c ds k1 k2 = btG Try.prog n c m1 m2 ds k1 k2 (Value.slice none 0 0), 12 = 12, BtSt ds n c m1 m2 a2 (sbN n a1) (sbN c a1) k1 k2 true
 false])) := by kernel_rfl
theorem ax_rtt (n c m1 m2 : Nat) (ds : List DV) (k1 k2 : List Value) : (runZ (alV (alLo Try.prog) bsT) Try.prog 12 23 [ptA, kyA m1, kyB m2] (btH n c ds k1 k2) 6 [true, false, true]) =
 (let a9 := (Array.mk []); let a8 := (some (Addr.mk 4 0 none)); let a7 := (some (Addr.mk 2 0 none)); let a6 := (8, Rw.mk Kd.shut [Value.slice a7 m1 (B0 + 2)]); let a5 := (9, Rw.mk Kd.shut [Value.slice a8 m2 (B0 + 4)]); let a4 := (btw (B2 ds) (B1 k1) (B1 k2)); let a3 := (some (Addr.mk 0 0 none)); let a10 := (7, Rw.mk Kd.shut [Value.pointer a3]); let a1 := (lbP (B2 ds) (B1 k1)); let a2 := (loO (some (Value.int IntKind.i64 (↑a1 : Int))) 0 a1 c 3); Res.ok ((Value.slice (some (Addr.mk 80 0 none)) (List.length a4) (B0 + 80), [(80, Rw.mk (Kd.dx 1 3 [Value.slice none 0 0, Value.slice none 0 0, Value.bool false] (cpD a4)) []), a5, a6, a10, (6, Rw.mk Kd.shut [Value.slice (some (Addr.mk 80 0 none)) (List.length a4) (B0 + 80)]), (0, Rw.mk Kd.ow [Value.bool true, Value.slice (some (Addr.mk 1 0 none)) n c]), (1, Rw.mk (Kd.sw ds) []), (2, Rw.mk Kd.ow k1), (4, Rw.mk
 Kd.ow k2)], 120, []), [], [n = 0 → ds = [], (∀ (τ : Sg), renL τ k1 = some k1) ∧ (m1 = 0 → k1 = []), BsOk ds k1 n m1 ∧ hitP (B2 ds) (B1 k1) = true ∧ Value.func (Fn.func 47) a9 a9 = Value.func (Fn.func 47) #[] #[], c < 18446744073709551616, (0 : Int) ≤ (↑a1 : Int) ∧ (↑a1 : Int) ≤ (↑n : Int), B6 Try.prog (50 : FuncId) 2 = B6 Try.prog (50 : FuncId) 2, [(0, Value.func (Fn.yield 11) a9 a9), (1, Value.pointer (some (Addr.mk 7 0 none))), (2, Value.pointer (some (Addr.mk 8 0 none))), (3, Value.pointer (some (Addr.mk 9 0 none))), (20, Value.slice (some (Addr.mk 1 a2 none)) (sbN n a1) (sbN c a1)), (21, Value.int IntKind.i64 (↑(sbN n a1) : Int)), (22, Value.int IntKind.i64 (0 : Int))] = btS a2 (sbN n a1) (sbN c a1) 0, (11, Rw.mk (Kd.round LoopState.ready none [Value.pointer a3, Value.slice a7 m1 (B0 + 2), Value.slice a8 m2 (B0 + 4), Value.tuple #[], Value.tuple #[],
 Value.tuple #[], Value.slice none 0 0, Value.pointer (some (Addr.mk 6 0 none)), Value.tuple #[], Value.pointer a3, Value.bool false, Value.pointer a3, Value.slice a7 m1 (B0 + 2), Value.slice a8 m2 (B0 + 4), Value.func (Fn.func 50) a9 (Array.mk [Value.pointer (some (Addr.mk 7 0 none)), Value.pointer (some (Addr.mk 8 0 none)), Value.pointer (some (Addr.mk 9 0 none))]), Value.tuple #[], Value.tuple #[], Value.tuple #[], Value.tuple #[], Value.tuple #[], Value.tuple #[]] #[15] (rfAs Try.prog 23) (rfBd Try.prog 23)) []) :: (10, Rw.mk Kd.marks []) :: a5 :: a6 :: a10 :: (6, Rw.mk Kd.shut [Value.slice none 0 0]) :: btH n c ds k1 k2 = btG Try.prog n c m1 m2 ds k1 k2 (Value.slice none 0 0), 12 = 12, BtSt ds n c m1 m2 a2 (sbN n a1) (sbN c a1) k1 k2 false
 true])) := by kernel_rfl
theorem ax_rtf (n c m1 m2 : Nat) (ds : List DV) (k1 k2 : List Value) : (runZ (alV (alLo Try.prog) bsT) Try.prog 12 23 [ptA, kyA m1, kyB m2] (btH n c ds k1 k2) 6 [true, false, false]) =
 (let a9 := (Array.mk []); let a8 := (some (Addr.mk 4 0 none)); let a7 := (some (Addr.mk 2 0 none)); let a6 := (8, Rw.mk Kd.shut [Value.slice a7 m1 (B0 + 2)]); let a5 := (9, Rw.mk Kd.shut [Value.slice a8 m2 (B0 + 4)]); let a4 := (btw (B2 ds) (B1 k1) (B1 k2)); let a3 := (some (Addr.mk 0 0 none)); let a10 := (7, Rw.mk Kd.shut [Value.pointer a3]); let a1 := (lbP (B2 ds) (B1 k1)); let a2 := (loO (some (Value.int IntKind.i64 (↑a1 : Int))) 0 a1 c 3); Res.ok ((Value.slice (some (Addr.mk 80 0 none)) (List.length a4) (B0 + 80), [(80, Rw.mk (Kd.dx 1 3 [Value.slice none 0 0, Value.slice none 0 0, Value.bool false] (cpD a4)) []), a5, a6, a10, (6, Rw.mk Kd.shut [Value.slice (some (Addr.mk 80 0 none)) (List.length a4) (B0 + 80)]), (0, Rw.mk Kd.ow [Value.bool true, Value.slice (some (Addr.mk 1 0 none)) n c]), (1, Rw.mk (Kd.sw ds) []), (2, Rw.mk Kd.ow k1), (4, Rw.mk
 Kd.ow k2)], 120, []), [], [n = 0 → ds = [], (∀ (τ : Sg), renL τ k1 = some k1) ∧ (m1 = 0 → k1 = []), BsOk ds k1 n m1 ∧ hitP (B2 ds) (B1 k1) = true ∧ Value.func (Fn.func 47) a9 a9 = Value.func (Fn.func 47) #[] #[], c < 18446744073709551616, (0 : Int) ≤ (↑a1 : Int) ∧ (↑a1 : Int) ≤ (↑n : Int), B6 Try.prog (50 : FuncId) 2 = B6 Try.prog (50 : FuncId) 2, [(0, Value.func (Fn.yield 11) a9 a9), (1, Value.pointer (some (Addr.mk 7 0 none))), (2, Value.pointer (some (Addr.mk 8 0 none))), (3, Value.pointer (some (Addr.mk 9 0 none))), (20, Value.slice (some (Addr.mk 1 a2 none)) (sbN n a1) (sbN c a1)), (21, Value.int IntKind.i64 (↑(sbN n a1) : Int)), (22, Value.int IntKind.i64 (0 : Int))] = btS a2 (sbN n a1) (sbN c a1) 0, (11, Rw.mk (Kd.round LoopState.ready none [Value.pointer a3, Value.slice a7 m1 (B0 + 2), Value.slice a8 m2 (B0 + 4), Value.tuple #[], Value.tuple #[],
 Value.tuple #[], Value.slice none 0 0, Value.pointer (some (Addr.mk 6 0 none)), Value.tuple #[], Value.pointer a3, Value.bool false, Value.pointer a3, Value.slice a7 m1 (B0 + 2), Value.slice a8 m2 (B0 + 4), Value.func (Fn.func 50) a9 (Array.mk [Value.pointer (some (Addr.mk 7 0 none)), Value.pointer (some (Addr.mk 8 0 none)), Value.pointer (some (Addr.mk 9 0 none))]), Value.tuple #[], Value.tuple #[], Value.tuple #[], Value.tuple #[], Value.tuple #[], Value.tuple #[]] #[15] (rfAs Try.prog 23) (rfBd Try.prog 23)) []) :: (10, Rw.mk Kd.marks []) :: a5 :: a6 :: a10 :: (6, Rw.mk Kd.shut [Value.slice none 0 0]) :: btH n c ds k1 k2 = btG Try.prog n c m1 m2 ds k1 k2 (Value.slice none 0 0), 12 = 12, BtSt ds n c m1 m2 a2 (sbN n a1) (sbN c a1) k1 k2 false
 false])) := by kernel_rfl
theorem ax_rft (n c m1 m2 : Nat) (ds : List DV) (k1 k2 : List Value) : (runZ (alV (alLo Try.prog) bsT) Try.prog 12 23 [ptA, kyA m1, kyB m2] (btH n c ds k1 k2) 6 [false, false, true]) =
 (let a9 := (Array.mk []); let a8 := (some (Addr.mk 4 0 none)); let a7 := (some (Addr.mk 2 0 none)); let a6 := (8, Rw.mk Kd.shut [Value.slice a7 m1 (B0 + 2)]); let a5 := (9, Rw.mk Kd.shut [Value.slice a8 m2 (B0 + 4)]); let a4 := (btw (B2 ds) (B1 k1) (B1 k2)); let a3 := (some (Addr.mk 0 0 none)); let a10 := (7, Rw.mk Kd.shut [Value.pointer a3]); let a1 := (lbP (B2 ds) (B1 k1)); let a2 := (loO (some (Value.int IntKind.i64 (↑a1 : Int))) 0 a1 c 3); Res.ok ((Value.slice (some (Addr.mk 80 0 none)) (List.length a4) (B0 + 80), [(80, Rw.mk (Kd.dx 1 3 [Value.slice none 0 0, Value.slice none 0 0, Value.bool false] (cpD a4)) []), a5, a6, a10, (6, Rw.mk Kd.shut [Value.slice (some (Addr.mk 80 0 none)) (List.length a4) (B0 + 80)]), (0, Rw.mk Kd.ow [Value.bool true, Value.slice (some (Addr.mk 1 0 none)) n c]), (1, Rw.mk (Kd.sw ds) []), (2, Rw.mk Kd.ow k1), (4, Rw.mk
 Kd.ow k2)], 120, []), [], [n = 0 → ds = [], (∀ (τ : Sg), renL τ k1 = some k1) ∧ (m1 = 0 → k1 = []), BsOk ds k1 n m1 ∧ hitP (B2 ds) (B1 k1) = false ∧ Value.func (Fn.func 47) a9 a9 = Value.func (Fn.func 47) #[] #[], c < 18446744073709551616, (0 : Int) ≤ (↑a1 : Int) ∧ (↑a1 : Int) ≤ (↑n : Int), B6 Try.prog (50 : FuncId) 2 = B6 Try.prog (50 : FuncId) 2, [(0, Value.func (Fn.yield 11) a9 a9), (1, Value.pointer (some (Addr.mk 7 0 none))), (2, Value.pointer (some (Addr.mk 8 0 none))), (3, Value.pointer (some (Addr.mk 9 0 none))), (20, Value.slice (some (Addr.mk 1 a2 none)) (sbN n a1) (sbN c a1)), (21, Value.int IntKind.i64 (↑(sbN n a1) : Int)), (22, Value.int IntKind.i64 (0 : Int))] = btS a2 (sbN n a1) (sbN c a1) 0, (11, Rw.mk (Kd.round LoopState.ready none [Value.pointer a3, Value.slice a7 m1 (B0 + 2), Value.slice a8 m2 (B0 + 4), Value.tuple #[], Value.tuple #[],
 Value.tuple #[], Value.slice none 0 0, Value.pointer (some (Addr.mk 6 0 none)), Value.tuple #[], Value.pointer a3, Value.bool false, Value.pointer a3, Value.slice a7 m1 (B0 + 2), Value.slice a8 m2 (B0 + 4), Value.func (Fn.func 50) a9 (Array.mk [Value.pointer (some (Addr.mk 7 0 none)), Value.pointer (some (Addr.mk 8 0 none)), Value.pointer (some (Addr.mk 9 0 none))]), Value.tuple #[], Value.tuple #[], Value.tuple #[], Value.tuple #[], Value.tuple #[], Value.tuple #[]] #[15] (rfAs Try.prog 23) (rfBd Try.prog 23)) []) :: (10, Rw.mk Kd.marks []) :: a5 :: a6 :: a10 :: (6, Rw.mk Kd.shut [Value.slice none 0 0]) :: btH n c ds k1 k2 = btG Try.prog n c m1 m2 ds k1 k2 (Value.slice none 0 0), 12 = 12, BtSt ds n c m1 m2 a2 (sbN n a1) (sbN c a1) k1 k2 false
 true])) := by kernel_rfl
theorem ax_rff (n c m1 m2 : Nat) (ds : List DV) (k1 k2 : List Value) : (runZ (alV (alLo Try.prog) bsT) Try.prog 12 23 [ptA, kyA m1, kyB m2] (btH n c ds k1 k2) 6 [false, false, false]) =
 (let a9 := (Array.mk []); let a8 := (some (Addr.mk 4 0 none)); let a7 := (some (Addr.mk 2 0 none)); let a6 := (8, Rw.mk Kd.shut [Value.slice a7 m1 (B0 + 2)]); let a5 := (9, Rw.mk Kd.shut [Value.slice a8 m2 (B0 + 4)]); let a4 := (btw (B2 ds) (B1 k1) (B1 k2)); let a3 := (some (Addr.mk 0 0 none)); let a10 := (7, Rw.mk Kd.shut [Value.pointer a3]); let a1 := (lbP (B2 ds) (B1 k1)); let a2 := (loO (some (Value.int IntKind.i64 (↑a1 : Int))) 0 a1 c 3); Res.ok ((Value.slice (some (Addr.mk 80 0 none)) (List.length a4) (B0 + 80), [(80, Rw.mk (Kd.dx 1 3 [Value.slice none 0 0, Value.slice none 0 0, Value.bool false] (cpD a4)) []), a5, a6, a10, (6, Rw.mk Kd.shut [Value.slice (some (Addr.mk 80 0 none)) (List.length a4) (B0 + 80)]), (0, Rw.mk Kd.ow [Value.bool true, Value.slice (some (Addr.mk 1 0 none)) n c]), (1, Rw.mk (Kd.sw ds) []), (2, Rw.mk Kd.ow k1), (4, Rw.mk
 Kd.ow k2)], 120, []), [], [n = 0 → ds = [], (∀ (τ : Sg), renL τ k1 = some k1) ∧ (m1 = 0 → k1 = []), BsOk ds k1 n m1 ∧ hitP (B2 ds) (B1 k1) = false ∧ Value.func (Fn.func 47) a9 a9 = Value.func (Fn.func 47) #[] #[], c < 18446744073709551616, (0 : Int) ≤ (↑a1 : Int) ∧ (↑a1 : Int) ≤ (↑n : Int), B6 Try.prog (50 : FuncId) 2 = B6 Try.prog (50 : FuncId) 2, [(0, Value.func (Fn.yield 11) a9 a9), (1, Value.pointer (some (Addr.mk 7 0 none))), (2, Value.pointer (some (Addr.mk 8 0 none))), (3, Value.pointer (some (Addr.mk 9 0 none))), (20, Value.slice (some (Addr.mk 1 a2 none)) (sbN n a1) (sbN c a1)), (21, Value.int IntKind.i64 (↑(sbN n a1) : Int)), (22, Value.int IntKind.i64 (0 : Int))] = btS a2 (sbN n a1) (sbN c a1) 0, (11, Rw.mk (Kd.round LoopState.ready none [Value.pointer a3, Value.slice a7 m1 (B0 + 2), Value.slice a8 m2 (B0 + 4), Value.tuple #[], Value.tuple #[],
 Value.tuple #[], Value.slice none 0 0, Value.pointer (some (Addr.mk 6 0 none)), Value.tuple #[], Value.pointer a3, Value.bool false, Value.pointer a3, Value.slice a7 m1 (B0 + 2), Value.slice a8 m2 (B0 + 4), Value.func (Fn.func 50) a9 (Array.mk [Value.pointer (some (Addr.mk 7 0 none)), Value.pointer (some (Addr.mk 8 0 none)), Value.pointer (some (Addr.mk 9 0 none))]), Value.tuple #[], Value.tuple #[], Value.tuple #[], Value.tuple #[], Value.tuple #[], Value.tuple #[]] #[15] (rfAs Try.prog 23) (rfBd Try.prog 23)) []) :: (10, Rw.mk Kd.marks []) :: a5 :: a6 :: a10 :: (6, Rw.mk Kd.shut [Value.slice none 0 0]) :: btH n c ds k1 k2 = btG Try.prog n c m1 m2 ds k1 k2 (Value.slice none 0 0), 12 = 12, BtSt ds n c m1 m2 a2 (sbN n a1) (sbN c a1) k1 k2 false
 false])) := by kernel_rfl
def gAll : Hs := fun aL tp => match aL, tp with
 | [.tb [.bool true] ds n, .sl k1 m1, .sl k2 m2], true :: tp' => some (⟨fun _ => .slice none 0 0, []⟩, tp', [TbK ds n ∧ BytI m1 k1 ∧ BytI m2 k2 ∧ (btw (B2 ds) (B1 k1) (B1 k2)).isEmpty = true])
 | [.tb [.bool true] ds n, .sl k1 m1, .sl k2 m2], false :: tp' => some (⟨fun nx => .slice (some ⟨nx, 0, none⟩) (btw (B2 ds) (B1 k1) (B1 k2)).length (B0 + nx), [⟨.dx 1 3 zPr (cpD (btw (B2 ds) (B1 k1) (B1 k2))), []⟩]⟩, tp', [TbK ds n ∧ BytI m1 k1 ∧ BytI m2 k2 ∧ (btw (B2 ds) (B1 k1) (B1 k2)).isEmpty = false])
 | _, _ => none
theorem all_gok : GOkD Try.prog 23 gAll := by
 intro aL tp gr tp' ob hG ho cs hcs
 have hX : XOkZ (alV (alLo Try.prog) bsT) Try.prog := alX
 have hT : TOkZ (alV (alLo Try.prog) bsT) Try.prog := alT
 have hL : LOkZ (alV (alLo Try.prog) bsT) Try.prog := Lz rfl (Hm alSp_ok)
 unfold gAll at hG
 split at hG
 ·rename_i ds n k1 m1 k2 m2 tp2
  simp only [oI, pI] at hG
  obtain ⟨rfl, rfl, rfl⟩ := hG
  obtain ⟨⟨h1, h2, h3, h4⟩, _⟩ := ho
  obtain ⟨c, x, y, rfl, hc⟩ : ∃ c x y, cs = [c, x, y] ∧ n ≤ c ∧ c ≤ 9223372036854775807 := by
   match cs, hcs with
   | [c, x, y], hcs => exact ⟨c, x, y, rfl, hcs.1⟩
  have fin : ∀ {tp3 : Tape} {ob : List Prop} {tp4 : Tape}, prjV (runZ (alV (alLo Try.prog) bsT) Try.prog 12 23 [ptA, kyA m1, kyB m2] (btH n c ds k1 k2) 6 tp3) = .ok (.slice none 0 0, tp4, ob) → Alls ob → ∃ v0 h0' nx0' d0 g, Tri Try.prog 23 (dvV [.tb [.bool true] ds n, .sl k1 m1, .sl k2 m2] [c, x, y] 0) (dvH [.tb [.bool true] ds n, .sl k1 m1, .sl k2 m2] [c, x, y] 0) (2 * 3) (v0, h0', nx0', d0) ∧ GrD ⟨fun _ => .slice none 0 0, []⟩ v0 h0' g := fun e ho => by
   obtain ⟨h', nx', dd, T⟩ := Ia hX hT hL e ho rfl
   exact ⟨_, h', nx', dd, fun n => n, T, GrD.flat fun σ => rfl⟩
  cases e0 : hitP (B2 ds) (B1 k1) <;> cases e2 : decide ((btw (B2 ds) (B1 k1) (B1 k2)).length = sbN n (lbP (B2 ds) (B1 k1)))
  all_goals obtain ⟨q1, q2, ⟨q3, q4⟩, q5, q6, q7⟩ := bw_ob (v := Value.int IntKind.i64 (lbP (B2 ds) (B1 k1) : Int)) h1 h2 h3 hc e0 h4 e2
  ·exact fin (ax_ff n c m1 m2 ds k1 k2) ⟨q1, q2, ⟨q3, q4, rfl⟩, q5, q6, rfl, rfl, rfl, rfl, q7, trivial⟩
  ·exact fin (ax_ft n c m1 m2 ds k1 k2) ⟨q1, q2, ⟨q3, q4, rfl⟩, q5, q6, rfl, rfl, rfl, rfl, q7, trivial⟩
  ·exact fin (ax_tf n c m1 m2 ds k1 k2) ⟨q1, q2, ⟨q3, q4, rfl⟩, q5, q6, rfl, rfl, rfl, rfl, q7, trivial⟩
  ·exact fin (ax_tt n c m1 m2 ds k1 k2) ⟨q1, q2, ⟨q3, q4, rfl⟩, q5, q6, rfl, rfl, rfl, rfl, q7, trivial⟩
 ·rename_i ds n k1 m1 k2 m2 tp2
  simp only [oI, pI] at hG
  obtain ⟨rfl, rfl, rfl⟩ := hG
  obtain ⟨⟨h1, h2, h3, h4⟩, _⟩ := ho
  obtain ⟨c, x, y, rfl, hc⟩ : ∃ c x y, cs = [c, x, y] ∧ n ≤ c ∧ c ≤ 9223372036854775807 := by
   match cs, hcs with
   | [c, x, y], hcs => exact ⟨c, x, y, rfl, hcs.1⟩
  have fin : ∀ {tp3 : Tape} {h' : Hp} {nx' : Nat} {d : List Nat} {ob : List Prop} {tp4 : Tape}, runZ (alV (alLo Try.prog) bsT) Try.prog 12 23 [ptA, kyA m1, kyB m2] (btH n c ds k1 k2) 6 tp3 = .ok ((.slice (some ⟨80, 0, none⟩) (btw (B2 ds) (B1 k1) (B1 k2)).length (B0 + 80), h', nx', d), tp4, ob) → Alls ob → lk h' 80 = some ⟨.dx 1 3 zPr (cpD (btw (B2 ds) (B1 k1) (B1 k2))), []⟩ → ∃ v0 h0' nx0' d0 g, Tri Try.prog 23 (dvV [.tb [.bool true] ds n, .sl k1 m1, .sl k2 m2] [c, x, y] 0) (dvH [.tb [.bool true] ds n, .sl k1 m1, .sl k2 m2] [c, x, y] 0) (2 * 3) (v0, h0', nx0', d0) ∧ GrD ⟨fun nx => .slice (some ⟨nx, 0, none⟩) (btw (B2 ds) (B1 k1) (B1 k2)).length (B0 + nx), [⟨.dx 1 3 zPr (cpD (btw (B2 ds) (B1 k1) (B1 k2))), []⟩]⟩ v0 h0' g := fun e ho hl => by
   have T := C6 hX hT hL e ho rfl
   refine ⟨_, _, _, _, fun _ => 80, T, ⟨fun nx => f2s_slice0 (g := fun _ => 80) (by simp) _, fun j r hj => ?_, fun i j hi hj _ => by simp at hi hj; omega⟩⟩
   match j, hj with
   | 0, hj => cases hj; exact ⟨fun τ => rfl, rfl, hl⟩
  cases e0 : hitP (B2 ds) (B1 k1) <;> cases e2 : decide ((btw (B2 ds) (B1 k1) (B1 k2)).length = sbN n (lbP (B2 ds) (B1 k1)))
  all_goals obtain ⟨q1, q2, ⟨q3, q4⟩, q5, q6, q7⟩ := bw_ob (v := Value.int IntKind.i64 (lbP (B2 ds) (B1 k1) : Int)) h1 h2 h3 hc e0 h4 e2
  ·exact fin (ax_rff n c m1 m2 ds k1 k2) ⟨q1, q2, ⟨q3, q4, rfl⟩, q5, q6, rfl, rfl, rfl, rfl, q7, trivial⟩ rfl
  ·exact fin (ax_rft n c m1 m2 ds k1 k2) ⟨q1, q2, ⟨q3, q4, rfl⟩, q5, q6, rfl, rfl, rfl, rfl, q7, trivial⟩ rfl
  ·exact fin (ax_rtf n c m1 m2 ds k1 k2) ⟨q1, q2, ⟨q3, q4, rfl⟩, q5, q6, rfl, rfl, rfl, rfl, q7, trivial⟩ rfl
  ·exact fin (ax_rtt n c m1 m2 ds k1 k2) ⟨q1, q2, ⟨q3, q4, rfl⟩, q5, q6, rfl, rfl, rfl, rfl, q7, trivial⟩ rfl
 ·cases hG
def allT : TFun := mkD 23 [.t 3, .s, .s] gAll
theorem allT_one : Cv Try.prog allT := J6 all_gok
def gxSy : FuncId → Nat → Option Nat := orSy (lsSy 18 [(25, 0), (26, 32)]) (orSy (lsSy 37 [(8, 56)]) (lsSy 48 [(4, 0), (7, 56)]))
def gxV (L : LFun) (T : TFun) : Tv := ⟨T, cmpY, L, tbTab, gxSy, fun _ => [], fun _ => 0⟩
theorem gx_no (n c m : Nat) (ds : List DV) (ky : List Value) : prjV (runZ (gxV noL bsT) Try.prog 12 18 [ptA, kyA m] (gtH n c ds ky) 4 [false]) =
 Res.ok (Value.tuple (Array.mk [Value.agg (Array.mk [Value.slice none 0 0, Value.slice none 0 0, Value.bool false]), Value.int IntKind.i64 (6 : Int)]), [], [n = 0 → ds = [], (∀ (τ : Sg), renL τ ky = some ky) ∧ (m = 0 → ky = []), BsOk ds ky n m ∧ hitP (B2 ds) (B1 ky) = false ∧ Value.func (Fn.func 47) (Array.mk []) (Array.mk []) = Value.func (Fn.func 47) #[] #[]]) := by kernel_rfl
theorem gx_yes (n c m : Nat) (ds : List DV) (ky : List Value) : runZ (gxV noL bsT) Try.prog 12 18 [ptA, kyA m] (gtH n c ds ky) 4 [true] =
 (let a7 := (B2 ds); let a6 := (B1 ky); let a8 := (Dx ds (lbP a7 a6 * 3 + 2)); let a2 := (lbP a7 a6 * 3 + 1); let a5 := (List.take (dLen ds a2) (B4 ds a2)); let a1 := (lbP a7 a6 * 3 + 0); let a4 := (List.take (dLen ds a1) (B4 ds a1)); let a3 := [Value.slice (some (Addr.mk 11 0 none)) (dLen ds a1) (B0 + 11), Value.slice (some (Addr.mk 13 0 none)) (dLen ds a2) (B0 + 13), Value.bool a8]; Res.ok ((Value.tuple (Array.mk [Value.agg (Array.mk a3), Value.int IntKind.i64 (0 : Int)]), [(8, Rw.mk Kd.shut a3), (7, Rw.mk Kd.shut [Value.slice (some (Addr.mk 5 0 none)) (dLen ds a1) (B0 + 5), Value.slice (some (Addr.mk 6 0 none)) (dLen ds a2) (B0 + 6), Value.bool a8]), (6, Rw.mk Kd.old (B4 ds a2)), (5, Rw.mk Kd.old (B4 ds a1)), (4, Rw.mk Kd.shut a3), (0, Rw.mk Kd.ow [Value.bool true, Value.slice (some (Addr.mk 1 0 none)) n c]), (1, Rw.mk (Kd.sw ds) []), (2, Rw.mk
 Kd.ow ky), (9, Rw.mk Kd.shut []), (11, Rw.mk Kd.ox a4), (13, Rw.mk Kd.ox a5)], 14, []), [], [n = 0 → ds = [], (∀ (τ : Sg), renL τ ky = some ky) ∧ (m = 0 → ky = []), BsOk ds ky n m ∧ hitP a7 a6 = true ∧ Value.func (Fn.func 47) (Array.mk []) (Array.mk []) = Value.func (Fn.func 47) #[] #[], (0 : Int) ≤ (↑(lbP a7 a6) : Int) ∧ (↑(lbP a7 a6) : Int) < (↑n : Int), ShOb Try.prog 29 false true ds (lbP a7 a6 * 3) 5, 0 < dLen ds a1, dLen ds a1 * 1 ≤ 140737488355328 ∧ dLen ds a1 ≤ 9223372036854775807, List.length a4 = dLen ds a1 * 1, ∀ (τ : Sg), renL τ a4 = some a4, U8s a4, dLen ds a1 ≤ List.length (B4 ds a1), all1 a4 = true, dLen ds a2 * 1 ≤ 140737488355328 ∧ dLen ds a2 ≤ 9223372036854775807, List.length a5 = dLen ds a2 * 1, ∀ (τ : Sg), renL τ a5 = some a5, U8s a5, dLen ds a2 ≤ List.length (B4 ds a2), all1 a5 =
 true])) := by kernel_rfl
def gGx : Hs := fun aL tp => match aL, tp with
 | [.tb [.bool true] ds n, .sl ky m], false :: tp' => some (⟨fun _ => .tuple ⟨[.agg ⟨zPr⟩, .int .i64 6]⟩, []⟩, tp', [TbK ds n ∧ BytI m ky ∧ hitP (B2 ds) (B1 ky) = false])
 | [.tb [.bool true] ds n, .sl ky m], true :: tp' => some (⟨fun nx => .tuple ⟨[prV (atP (B2 ds) (B1 ky)) nx, .int .i64 0]⟩, [⟨.ox, byV (atP (B2 ds) (B1 ky)).1⟩, ⟨.ox, byV (atP (B2 ds) (B1 ky)).2.1⟩]⟩, tp', [TbK ds n ∧ BytI m ky ∧ hitP (B2 ds) (B1 ky) = true])
 | _, _ => none
theorem gxX {L : LFun} {T : TFun} : XOkZ (gxV L T) Try.prog := XOneZ.ok Ei rfl
theorem gxT {L : LFun} : TOkZ (gxV L bsT) Try.prog := Ly rfl bsT_one
theorem gxL0 {T : TFun} : LOkZ (gxV noL T) Try.prog := C9 rfl
theorem gx_gok : GOkD Try.prog 18 gGx := by
 intro aL tp gr tp' ob hG ho cs hc
 unfold gGx at hG
 split at hG
 ·rename_i ds n ky m tp2
  simp only [oI, pI] at hG
  obtain ⟨rfl, rfl, rfl⟩ := hG
  obtain ⟨⟨h1, h2, h3⟩, _⟩ := ho
  obtain ⟨c, d, rfl⟩ : ∃ c d, cs = [c, d] := by
   match cs, hc with
   | [c, d], _ => exact ⟨c, d, rfl⟩
  have he : (B2 ds).length = 0 → ds = [] := fun e => by
   have := h1.T.P
   rw [List.eq_nil_of_length_eq_zero e] at this
   exact this
  obtain ⟨h', nx', dd, T⟩ := Ia (V := gxV noL bsT) gxX gxT gxL0 (gx_no n c m ds ky) ⟨fun e => he (by rw [h1.T.l, e]), ⟨h2.fl, fun e => List.eq_nil_of_length_eq_zero (by rw [h2.2.2, e])⟩, ⟨⟨h1.T, h2⟩, h3, rfl⟩, trivial⟩ rfl
  exact ⟨_, h', nx', dd, fun n => n, T, GrD.flat fun σ => rfl⟩
 ·rename_i ds n ky m tp2
  simp only [oI, pI] at hG
  obtain ⟨rfl, rfl, rfl⟩ := hG
  obtain ⟨⟨h1, h2, h3⟩, _⟩ := ho
  obtain ⟨c, d, rfl⟩ : ∃ c d, cs = [c, d] := by
   match cs, hc with
   | [c, d], _ => exact ⟨c, d, rfl⟩
  have he : (B2 ds).length = 0 → ds = [] := fun e => by
   have := h1.T.P
   rw [List.eq_nil_of_length_eq_zero e] at this
   exact this
  obtain ⟨g1, g2, g3⟩ := Hl h3
  have F := h1.T.P.facts g1
  have hm := List.mem_of_getElem? g1
  have hK := h1.K _ hm
  have hlt : lbP (B2 ds) (B1 ky) < n := by rw [← h1.T.l]; exact g3
  have T := gx_yes n c m ds ky
  have f0 := F.l0
  have f1 := F.l1
  have v0 := F.v0
  have v1 := F.v1
  have gb := F.g
  have o1 := F.o29 5
  generalize atP (B2 ds) (B1 ky) = p at *
  have hl0 := Bz p.1
  have hl1 := Bz p.2.1
  have t0 : List.take p.1.length (byV p.1) = byV p.1 := List.take_of_length_le (by omega)
  have t1 : List.take p.2.1.length (byV p.2.1) = byV p.2.1 := List.take_of_length_le (by omega)
  have a0 : all1 (byV p.1) = true := Hd p.1
  have a1 : all1 (byV p.2.1) = true := Hd p.2.1
  have r0 := Cm p.1
  have b0 := u8_by (h1.T.O p hm).1
  have b1 := u8_by (h1.T.O p hm).2
  have z0 : p.1.length = 0 → byV p.1 = [] := fun e => List.eq_nil_of_length_eq_zero (by omega)
  have z1 : p.2.1.length = 0 → byV p.2.1 = [] := fun e => List.eq_nil_of_length_eq_zero (by omega)
  have r1 := Cm p.2.1
  obtain ⟨k1, k2, k3⟩ := hK
  simp only [Nat.add_zero, f0, f1, v0, v1, gb, t0, t1] at T
  have T2 := C6 gxX gxT gxL0 T ?_ rfl
  ·refine ⟨_, _, _, _, fun i => 11 + 2 * i, T2, ⟨fun nx => ?_, fun j r hj => ?_, fun i j hi hj e => by omega⟩⟩
   ·have e1 := Lf (nx := nx) (k := 2) (g := fun i => 11 + 2 * i) (j := 0) (by omega) p.1.length
    have e2 := Lf (nx := nx) (k := 2) (g := fun i => 11 + 2 * i) (j := 1) (by omega) p.2.1.length
    exact Jv (Bi (Ct (Bi e1 (Bi e2 (Bi rfl rfl)))) (Bi rfl rfl))
   ·match j, hj with
    | 0, hj => cases hj; exact ⟨r0, rfl, rfl⟩
    | 1, hj => cases hj; exact ⟨r1, rfl, rfl⟩
  ·have hb2 : BsOk ds ky n m := ⟨h1.T, h2⟩
   have hds : n = 0 → ds = [] := fun e => he (by rw [h1.T.l, e])
   have hky : m = 0 → ky = [] := fun e => List.eq_nil_of_length_eq_zero (by rw [h2.2.2, e])
   have hfl := h2.fl
   simp only [Alls, rg, decide_eq_true_eq, decide_eq_false_iff_not, Nat.mul_one, hl0, hl1]
   repeat' (with_reducible apply And.intro)
   all_goals first | omega | (with_reducible assumption) | (with_reducible exact trivial) | (with_reducible rfl) | exact h3 | skip
 ·cases hG
def gxtT : TFun := mkD 18 [.t 3, .s] gGx
theorem gxtT_one : Cv Try.prog gxtT := J6 gx_gok
def atTab : FuncId → List Nat := fun f => bif Nat.beq f 54 then [13, 35, 48] else bif Nat.beq f 34 then [9] else []
def atSy : FuncId → Nat → Option Nat := orSy (lsSy 54 [(13, 0), (20, 0), (22, 32), (27, 0), (35, 0), (42, 0), (44, 32), (45, 0), (47, 0), (48, 0)]) (lsSy 34 [(6, 0), (8, 0), (9, 0)])
def atV (L : LFun) (T : TFun) : Tv := ⟨T, cmpY, L, atTab, atSy, fun _ => [], fun _ => 0⟩
def rtC (n c : Nat) : List Value := [.slice (some ⟨1, 0, none⟩) n c]
def atH (n c : Nat) (ds : List DV) (ky : List Value) : Hp := [(0, ⟨.ow, rtC n c⟩), (1, ⟨.sw ds, []⟩), (2, ⟨.ow, ky⟩)]
def atS (m i : Nat) : List (Nat × Value) := [(0, ptA), (1, kyA m), (6, iV i)]
theorem at_go (inr : Bool) (n c m i : Nat) (ds : List DV) (ky : List Value) : prjP [0, 1, 6] 10 (Bk (atV noL noTz) Try.prog (runZ (atV noL noTz) Try.prog 9) 54 inr 100000 (B6 Try.prog 54 2) (SL 50 (atS m i)) (atH n c ds ky) 10 [true, true]) =
 (let a1 := (i * 3 + 0 + 0); let a2 := (B1 (List.take (dLen ds a1) (B4 ds a1))); Res.ok ((Xt.normal, 50, [(0, Value.pointer (some (Addr.mk 0 0 none))), (1, Value.slice (some (Addr.mk 2 0 none)) m (B0 + 2)), (6, Value.int IntKind.i64 (↑(i + 1) : Int))], [(0, Rw.mk Kd.ow [Value.slice (some (Addr.mk 1 0 none)) n c]), (1, Rw.mk (Kd.sw ds) []), (2, Rw.mk Kd.ow ky)], 11, [], []), [], [decide ((↑i : Int) < (↑n : Int)) = true, (0 : Int) ≤ (↑i : Int) ∧ (↑i : Int) < (↑n : Int), ShOb Try.prog 27 false true ds (i * 3 + 0) 10, dLen ds a1 ≤ List.length (B4 ds a1), List.take (dLen ds a1) (B4 ds a1) = List.map (Value.int IntKind.u8) a2, m ≤ List.length ky, List.take m ky = List.map (Value.int IntKind.u8) (B1 (List.take m ky)), Op.bytesLess (List.map (fun n => UInt8.ofNat (Int.toNat n)) a2) (List.map (fun n => UInt8.ofNat (Int.toNat n)) (B1 (List.take m ky))) = true, rg IntKind.i64 (↑(i + 1) : Int)])) := by kernel_rfl
theorem at_x (inr : Bool) (n c m i : Nat) (ds : List DV) (ky : List Value) : prjP [0, 1, 6] 10 (Bk (atV noL noTz) Try.prog (runZ (atV noL noTz) Try.prog 9) 54 inr 100000 (B6 Try.prog 54 2) (SL 50 (atS m i)) (atH n c ds ky) 10 [false]) =
 Res.ok ((Xt.exit 0, 50, [(0, Value.pointer (some (Addr.mk 0 0 none))), (1, Value.slice (some (Addr.mk 2 0 none)) m (B0 + 2)), (6, Value.int IntKind.i64 (↑i : Int))], [(0, Rw.mk Kd.ow [Value.slice (some (Addr.mk 1 0 none)) n c]), (1, Rw.mk (Kd.sw ds) []), (2, Rw.mk Kd.ow ky)], 10, [], []), [], [decide ((↑i : Int) < (↑n : Int)) = false]) := by kernel_rfl
theorem at_y (inr : Bool) (n c m i : Nat) (ds : List DV) (ky : List Value) : prjP [0, 1, 6] 10 (Bk (atV noL noTz) Try.prog (runZ (atV noL noTz) Try.prog 9) 54 inr 100000 (B6 Try.prog 54 2) (SL 50 (atS m i)) (atH n c ds ky) 10 [true, false]) =
 (let a1 := (i * 3 + 0 + 0); let a2 := (B1 (List.take (dLen ds a1) (B4 ds a1))); Res.ok ((Xt.exit 0, 50, [(0, Value.pointer (some (Addr.mk 0 0 none))), (1, Value.slice (some (Addr.mk 2 0 none)) m (B0 + 2)), (6, Value.int IntKind.i64 (↑i : Int))], [(0, Rw.mk Kd.ow [Value.slice (some (Addr.mk 1 0 none)) n c]), (1, Rw.mk (Kd.sw ds) []), (2, Rw.mk Kd.ow ky)], 11, [], []), [], [decide ((↑i : Int) < (↑n : Int)) = true, (0 : Int) ≤ (↑i : Int) ∧ (↑i : Int) < (↑n : Int), ShOb Try.prog 27 false true ds (i * 3 + 0) 10, dLen ds a1 ≤ List.length (B4 ds a1), List.take (dLen ds a1) (B4 ds a1) = List.map (Value.int IntKind.u8) a2, m ≤ List.length ky, List.take m ky = List.map (Value.int IntKind.u8) (B1 (List.take m ky)), Op.bytesLess (List.map (fun n => UInt8.ofNat (Int.toNat n)) a2) (List.map (fun n => UInt8.ofNat (Int.toNat n)) (B1 (List.take m ky))) = false])) := by kernel_rfl
theorem atX {L : LFun} {T : TFun} : XOkZ (atV L T) Try.prog := XOneZ.ok Ei rfl
theorem atT0 {L : LFun} : TOkZ (atV L noTz) Try.prog := D4 rfl
theorem atL0 {T : TFun} : LOkZ (atV noL T) Try.prog := C9 rfl
structure AtOk (ds : List DV) (ky : List Value) (n m : Nat) : Prop where
 P : Prs ds (B2 ds)
 O : ∀ p ∈ B2 ds, PrOk p
 l : (B2 ds).length = n
 b9 : n ≤ 1000
 K : BytI m ky
theorem Hv (l : List Int) : List.take l.length (byV l) = byV l := List.take_of_length_le (by rw [Bz]; exact Nat.le_refl _)
theorem BytI.tk {m : Nat} {ky : List Value} (h : BytI m ky) : List.take m ky = ky := List.take_of_length_le (by rw [h.2.2]; exact Nat.le_refl _)
theorem rt1_row {lo N : Nat} {ρ : Nat → Nat} {h0 h1 : Hp} {n m q c : Nat} (hn : fnN lo N ρ n = some m) (hl : lk h1 m = some ⟨.ow, rtC q c⟩) (h : renV (sgf lo N ρ) (.slice (some ⟨1, 0, none⟩) q c) = some (.slice (some ⟨1, 0, none⟩) q c)) : He lo N ρ h0 h1 n ⟨.ow, rtC q c⟩ := ⟨m, _, hn, hl, rfl, trivial, .inl (Bi h rfl)⟩
theorem M9 {N : Nat} (hN : N = 10 ∨ N = 40) {ρ : Nat → Nat} {h0 : Hp} {n c m : Nat} {ds : List DV} {ky : List Value} (hK : BytI m ky) (hc : c ≤ 9223372036854775807) : RbL 4 N ρ h0 (atH n c ds ky) (atH n c ds ky) := by
 have hcc : c < B0 := by unfold B0; omega
 rcases hN with rfl | rfl
 ·exact ⟨rt1_row (m := 0) rfl rfl (Bt rfl hcc), Cg (m := 1) rfl rfl, Ie (m := 2) rfl rfl hK.fl, trivial⟩
 ·exact ⟨rt1_row (m := 0) rfl rfl (Bt rfl hcc), Cg (m := 1) rfl rfl, Ie (m := 2) rfl rfl hK.fl, trivial⟩
theorem lb_drop_step {ps : List Pr} {k : List Int} {i : Nat} (hi : i < ps.length) : lbP (ps.drop i) k = bif ltK ps[i].1 k then lbP (ps.drop (i + 1)) k + 1 else 0 := by
 rw [List.drop_eq_getElem_cons hi]
 rfl
theorem at_loop {inr : Bool} {h0 : Hp} {n c m : Nat} {ds : List DV} {ky : List Value} (hA : AtOk ds ky n m) (hc : c ≤ 9223372036854775807) : ∀ (r i : Nat), i + r = n → lbP (B2 ds) (B1 ky) = i + lbP ((B2 ds).drop i) (B1 ky) →
  LRuns inr Try.prog (B6 Try.prog 54 2) 4 40 h0 50 (atS m i) (atH n c ds ky) 10 (.exit 0, atS m (lbP (B2 ds) (B1 ky)), atH n c ds ky)
 | 0, i, hr, hl => by
   have hm := hA.b9
   have e : i = lbP (B2 ds) (B1 ky) := by
    rw [hl, List.drop_of_length_le (by rw [hA.l]; omega)]
    rfl
   rw [← e]
   refine LRuns.exit (Bb atX atL0 (Bh atX atT0 atL0 mixed 9) mixed (at_x inr n c m i ds ky) ?_) (by intro e; cases e) rfl (by omega) (by omega) (fun n => n) ?_ (M9 (.inr rfl) hA.K hc) rfl
   ·simp only [Alls, decide_eq_false_iff_not]
    exact ⟨by omega, trivial⟩
   ·exact ⟨rfl, Bp rfl, rfl, Bj rfl rfl, rfl, rfl, trivial⟩
 | r + 1, i, hr, hl => by
   have hm := hA.b9
   have hi : i < (B2 ds).length := by rw [hA.l]; omega
   have F := hA.P.facts (List.getElem?_eq_getElem hi)
   have hst := lb_drop_step (k := B1 ky) hi
   obtain ⟨p, hp⟩ : ∃ p, (B2 ds)[i] = p := ⟨_, rfl⟩
   have bp := (hA.O p (by rw [← hp]; exact List.getElem_mem hi)).1
   rw [hp] at F hst
   have f0 := F.l0
   have v0 := F.v0
   have o1 := F.o27 10
   have cl := I7 p.1 (B1 ky) bp hA.K.2.1
   have y1 := hA.K.1
   have tk := hA.K.tk
   have kl := hA.K.2.2
   have hlt : ltK p.1 (B1 ky) = !decide (cmpI p.1 (B1 ky) ≥ 0) := rfl
   rw [← hlt] at cl
   cases hq : ltK p.1 (B1 ky) with
   | true =>
    rw [hq] at hst cl
    simp only [cond_true] at hst
    refine LRuns.step (Bb atX atL0 (Bh atX atT0 atL0 mixed 9) mixed (at_go inr n c m i ds ky) ?_) rfl (by omega) (by omega) (fun n => n) ?_ (M9 (.inl rfl) hA.K hc) rfl (at_loop hA hc r (i + 1) (by omega) (by omega))
    ·simp only [Alls, rg, decide_eq_true_eq, decide_eq_false_iff_not, Nat.add_zero, f0, v0, Hv, C1, Bz, tk]
     repeat' (with_reducible apply And.intro)
     all_goals first | omega | (with_reducible assumption) | (with_reducible exact trivial) | exact rfl | exact cl | skip
    ·exact ⟨rfl, Bp rfl, rfl, Bj rfl rfl, rfl, rfl, trivial⟩
   | false =>
    rw [hq] at hst cl
    simp only [cond_false] at hst
    have e : i = lbP (B2 ds) (B1 ky) := by omega
    rw [← e]
    refine LRuns.exit (Bb atX atL0 (Bh atX atT0 atL0 mixed 9) mixed (at_y inr n c m i ds ky) ?_) (by intro e; cases e) rfl (by omega) (by omega) (fun n => n) ?_ (M9 (.inr rfl) hA.K hc) rfl
    ·simp only [Alls, rg, decide_eq_true_eq, decide_eq_false_iff_not, Nat.add_zero, f0, v0, Hv, C1, Bz, tk]
     repeat' (with_reducible apply And.intro)
     all_goals first | omega | (with_reducible assumption) | (with_reducible exact trivial) | exact rfl | exact cl | skip
    ·exact ⟨rfl, Bp rfl, rfl, Bj rfl rfl, rfl, rfl, trivial⟩
def atPk (live : List (Nat × Value)) (h : Hp) : Option (Nat × Nat × Nat × List DV × List Value) := match live, lk h 0, lk h 1, lk h 2 with
 | _ :: (_, .slice _ m _) :: _, some ⟨_, [.slice _ n c]⟩, some ⟨.sw ds, _⟩, some ⟨_, ky⟩ => some (n, c, m, ds, ky)
 | _, _, _, _ => none
def atSp : I9 := Jw atPk (fun a => (atS a.2.2.1 0, atH a.1 a.2.1 a.2.2.2.1 a.2.2.2.2, 4)) (fun a tp => some ((.exit 0, atS a.2.2.1 (lbP (B2 a.2.2.2.1) (B1 a.2.2.2.2)), atH a.1 a.2.1 a.2.2.2.1 a.2.2.2.2, 40, []), tp, [AtOk a.2.2.2.1 a.2.2.2.2 a.1 a.2.2.1 ∧ a.2.1 ≤ 9223372036854775807]))
theorem atSp_ok : LSOk Try.prog 50 [0, 1, 6] (B6 Try.prog 54 2) atSp := by
 refine Eo fun a tp xt l2 h2 nx2 d tp' ob hs ho inr ts hn hg => ?_
 obtain ⟨n, c, m, ds, ky⟩ := a
 simp only at hs hg
 simp only [oI, pI] at hs
 obtain ⟨⟨rfl, rfl, rfl, rfl, rfl⟩, rfl, rfl⟩ := hs
 obtain ⟨⟨hA, hc⟩, _⟩ := ho
 have key := at_loop (inr := inr) (h0 := atH n c ds ky) hA hc n 0 (by omega) (by rw [List.drop_zero, Nat.zero_add])
 refine LRuns.enter (N := 10) (l2 := atS m 0) hn hg (by omega) (by omega) (fun n => n) ?_ (M9 (.inl rfl) hA.K hc) rfl key ?_
 ·exact ⟨rfl, Bp rfl, rfl, Bj rfl rfl, rfl, rfl, trivial⟩
 ·exact H0 (by omega) (fun m hm hd => rfl) rfl
def atLo (P : Program) : LFun := mkL 54 2 50 [0, 1, 6] (B6 P 54 2) atSp
theorem atLo_one : LOne Try.prog (atLo Try.prog) := Hm atSp_ok
theorem at_f0 (n c m : Nat) (ds : List DV) (ky : List Value) : prjV (runZ (atV (atLo Try.prog) noTz) Try.prog 9 54 [ptA, kyA m] (atH n c ds ky) 4 [false]) =
 (let a1 := (↑(lbP (B2 ds) (B1 ky)) : Int); Res.ok (Value.tuple (Array.mk [Value.int IntKind.i64 a1, Value.bool false]), [], [B6 Try.prog (54 : FuncId) 2 = B6 Try.prog (54 : FuncId) 2, [(0, Value.pointer (some (Addr.mk 0 0 none))), (1, Value.slice (some (Addr.mk 2 0 none)) m (B0 + 2)), (6, Value.int IntKind.i64 (0 : Int))] = atS m 0, atH n c ds ky = atH n c ds ky, 4 = 4, AtOk ds ky n m ∧ c ≤ 9223372036854775807, decide (a1 < (↑n : Int)) = false])) := by kernel_rfl
theorem at_f1 (n c m : Nat) (ds : List DV) (ky : List Value) : prjV (runZ (atV (atLo Try.prog) noTz) Try.prog 9 54 [ptA, kyA m] (atH n c ds ky) 4 [true, false]) =
 (let a2 := (↑(lbP (B2 ds) (B1 ky)) : Int); let a1 := (lbP (B2 ds) (B1 ky) * 3 + 0 + 0); let a3 := (B1 (List.take (dLen ds a1) (B4 ds a1))); Res.ok (Value.tuple (Array.mk [Value.int IntKind.i64 a2, Value.bool false]), [], [B6 Try.prog (54 : FuncId) 2 = B6 Try.prog (54 : FuncId) 2, [(0, Value.pointer (some (Addr.mk 0 0 none))), (1, Value.slice (some (Addr.mk 2 0 none)) m (B0 + 2)), (6, Value.int IntKind.i64 (0 : Int))] = atS m 0, atH n c ds ky = atH n c ds ky, 4 = 4, AtOk ds ky n m ∧ c ≤ 9223372036854775807, decide (a2 < (↑n : Int)) = true, (0 : Int) ≤ a2 ∧ a2 < (↑n : Int), ShOb Try.prog 27 false true ds (lbP (B2 ds) (B1 ky) * 3 + 0) 40, dLen ds a1 ≤ List.length (B4 ds a1), List.take (dLen ds a1) (B4 ds a1) = List.map (Value.int IntKind.u8) a3, m ≤ List.length ky, List.take m ky = List.map (Value.int IntKind.u8) (B1 (List.take m ky)), Cp (C5 a3) (C5 (B1 (List.take m ky))) = false])) := by kernel_rfl
theorem at_f2 (n c m : Nat) (ds : List DV) (ky : List Value) : prjV (runZ (atV (atLo Try.prog) noTz) Try.prog 9 54 [ptA, kyA m] (atH n c ds ky) 4 [true, true]) =
 (let a2 := (↑(lbP (B2 ds) (B1 ky)) : Int); let a1 := (lbP (B2 ds) (B1 ky) * 3 + 0 + 0); let a3 := (B1 (List.take (dLen ds a1) (B4 ds a1))); Res.ok (Value.tuple (Array.mk [Value.int IntKind.i64 a2, Value.bool true]), [], [B6 Try.prog (54 : FuncId) 2 = B6 Try.prog (54 : FuncId) 2, [(0, Value.pointer (some (Addr.mk 0 0 none))), (1, Value.slice (some (Addr.mk 2 0 none)) m (B0 + 2)), (6, Value.int IntKind.i64 (0 : Int))] = atS m 0, atH n c ds ky = atH n c ds ky, 4 = 4, AtOk ds ky n m ∧ c ≤ 9223372036854775807, decide (a2 < (↑n : Int)) = true, (0 : Int) ≤ a2 ∧ a2 < (↑n : Int), ShOb Try.prog 27 false true ds (lbP (B2 ds) (B1 ky) * 3 + 0) 40, dLen ds a1 ≤ List.length (B4 ds a1), List.take (dLen ds a1) (B4 ds a1) = List.map (Value.int IntKind.u8) a3, m ≤ List.length ky, List.take m ky = List.map (Value.int IntKind.u8) (B1 (List.take m ky)), Cp (C5 a3) (C5 (B1 (List.take m ky))) = true])) := by kernel_rfl
def gAt : Hs := fun aL tp => match aL, tp with
 | [.tb [] ds n, .sl ky m], b :: tp' => some (⟨fun _ => .tuple ⟨[.int .i64 (lbP (B2 ds) (B1 ky) : Int), .bool b]⟩, []⟩, tp', [AtOk ds ky n m ∧ hitP (B2 ds) (B1 ky) = b])
 | _, _ => none
theorem at_gok : GOkD Try.prog 54 gAt := by
 intro aL tp gr tp' ob hG ho cs hcs
 unfold gAt at hG
 split at hG
 case h_2 => cases hG
 rename_i ds n ky m b tp2
 simp only [oI, pI] at hG
 obtain ⟨rfl, rfl, rfl⟩ := hG
 obtain ⟨⟨h, hb⟩, _⟩ := ho
 obtain ⟨c, d, rfl, hc⟩ : ∃ c d, cs = [c, d] ∧ c ≤ 9223372036854775807 := by
  match cs, hcs with
  | [c, d], hcs => exact ⟨c, d, rfl, hcs.1.2⟩
 have fin : ∀ {tp3 : Tape} {ob : List Prop} {tp4 : Tape} {b' : Bool}, prjV (runZ (atV (atLo Try.prog) noTz) Try.prog 9 54 [ptA, kyA m] (atH n c ds ky) 4 tp3) = .ok (.tuple ⟨[.int .i64 (lbP (B2 ds) (B1 ky) : Int), .bool b']⟩, tp4, ob) → b' = b → Alls ob → ∃ v0 h0' nx0' d0 g, Tri Try.prog 54 (dvV [.tb [] ds n, .sl ky m] [c, d] 0) (dvH [.tb [] ds n, .sl ky m] [c, d] 0) (2 * 2) (v0, h0', nx0', d0) ∧ GrD ⟨fun _ => .tuple ⟨[.int .i64 (lbP (B2 ds) (B1 ky) : Int), .bool b]⟩, []⟩ v0 h0' g := fun e hb ho => by
  subst hb
  obtain ⟨h', nx', dd, T⟩ := Ia atX atT0 (Lz rfl atLo_one) e ho rfl
  exact ⟨_, h', nx', dd, fun n => n, T, GrD.flat fun σ => rfl⟩
 have hle := It (B2 ds) (B1 ky)
 have hm := h.b9
 rw [h.l] at hle
 by_cases h1 : lbP (B2 ds) (B1 ky) < n
 ·have hh : lbP (B2 ds) (B1 ky) < (B2 ds).length := by rw [h.l]; exact h1
  have F := h.P.facts (List.getElem?_eq_getElem hh)
  have e1 : hitP (B2 ds) (B1 ky) = decide ((B2 ds)[lbP (B2 ds) (B1 ky)].1 = B1 ky) := by unfold hitP; rw [List.getElem?_eq_getElem hh]
  have bp := (h.O _ (List.getElem_mem hh)).1
  generalize (B2 ds)[lbP (B2 ds) (B1 ky)] = p at F e1 bp
  have f0 := F.l0
  have v0 := F.v0
  have o1 := F.o27 40
  have y1 := h.K.1
  have tk := h.K.tk
  have kl := h.K.2.2
  have se := Kb bp h.K.2.1
  rw [← e1] at se
  cases b with
  | true =>
   refine fin (at_f2 n c m ds ky) rfl ?_
   rw [hb] at se
   simp only [Alls, rg, decide_eq_true_eq, decide_eq_false_iff_not, Nat.add_zero, f0, v0, Hv, C1, Bz, tk]
   repeat' (with_reducible apply And.intro)
   all_goals first | omega | (with_reducible assumption) | (with_reducible exact trivial) | (with_reducible rfl) | exact rfl | exact se | exact ⟨h, hc⟩ | skip
  | false =>
   refine fin (at_f1 n c m ds ky) rfl ?_
   rw [hb] at se
   simp only [Alls, rg, decide_eq_true_eq, decide_eq_false_iff_not, Nat.add_zero, f0, v0, Hv, C1, Bz, tk]
   repeat' (with_reducible apply And.intro)
   all_goals first | omega | (with_reducible assumption) | (with_reducible exact trivial) | (with_reducible rfl) | exact rfl | exact se | exact ⟨h, hc⟩ | skip
 ·have e1 : hitP (B2 ds) (B1 ky) = false := by unfold hitP; rw [List.getElem?_eq_none (by rw [h.l]; omega)]
  refine fin (at_f0 n c m ds ky) (by rw [← hb, e1]) ?_
  simp only [Alls, decide_eq_false_iff_not]
  repeat' (with_reducible apply And.intro)
  all_goals first | omega | (with_reducible assumption) | (with_reducible exact trivial) | (with_reducible rfl) | exact rfl | exact ⟨h, hc⟩ | skip
def atT : TFun := mkD 54 [.t 3, .s] gAt
theorem atT_one : Cv Try.prog atT := J6 at_gok
end Go.Proofs.Ytojakfnljopjbaa
