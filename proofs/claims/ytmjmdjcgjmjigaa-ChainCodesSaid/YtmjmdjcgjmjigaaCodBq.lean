/-
  Chapter 19: lists that are lent, and the codes that are not 0: what holds.
-/
import Derived.Test.YtmjmdjcgjmjigaaCodA
namespace Go.Proofs.Ytmjmdjcgjmjigaa
set_option linter.unusedSimpArgs false
set_option linter.unusedVariables false
set_option linter.unusedSectionVars false
open Go Go.RowKit

/-! ### lists that are lent -/
def mkB3 (n : Nat) : List Value := [.bool (((n % 2 : Nat) : Int) == 0), .bool ((((n + 1) % 2 : Nat) : Int) == 0), .bool ((((n + 1 + 1) % 2 : Nat) : Int) == 0)]
def mkI3 (n : Nat) : List Value := [.int .i64 (Int.negSucc (nat_lit 76) - (n : Int)), .int .i64 (Int.negSucc (nat_lit 76) - ((n + 1 : Nat) : Int)), .int .i64 (Int.negSucc (nat_lit 76) - ((n + 1 + 1 : Nat) : Int))]
def sLe (ok : List Value → Nat → Prop) (mk : Nat → List Value) : Spec1 := fun xs n tp => some (⟨fun nx => .slice (some ⟨nx, 0, none⟩) n (n + 3), [⟨.shut, xs ++ mk n⟩]⟩, tp, [ok xs n, n ≤ 1000000])
theorem lent_z {xs : List Value} {n : Nat} (z : Value) (h : xs.length = n) (a b c : Value) :
    splice (splice (splice (splice (zrep [z] (n + 3)) 0 xs) n [a]) (n + 1) [b]) (n + 1 + 1) [c] = xs ++ [a, b, c] := by
  rw [zrep1, splice_head _ _ (by simp; omega), List.drop_replicate, h, show n + 3 - n = 3 by omega]
  rw [splice_at h (by simp)]
  simp only [List.length_singleton, List.drop_replicate]
  rw [splice_at (by simp [h]) (by simp)]
  simp only [List.length_singleton, List.drop_replicate]
  rw [splice_at (by simp [h]) (by simp)]
  simp
theorem Bols.all1 {xs : List Value} (h : Bols xs) : all1 xs = true := by
  have : ∀ l : List Bool, Go.Proofs.Ytmjmdjcgjmjigaa.all1 (boolCells l) = true := fun l => by
    induction l with
    | nil => rfl
    | cons x l ih => simpa [Go.Proofs.Ytmjmdjcgjmjigaa.all1, one1, boolCells] using ih
  rw [h]; exact this _
theorem mkB3_bols (n : Nat) : Bols (mkB3 n) := rfl
theorem mkI3_ints (n : Nat) : Ints .i64 (mkI3 n) := rfl
theorem Bols.app {a b : List Value} (ha : Bols a) (hb : Bols b) : Bols (a ++ b) := by
  unfold Bols at *
  have e : boolsOf (a ++ b) = boolsOf a ++ boolsOf b := by simp [boolsOf]
  rw [e]
  have e2 : boolCells (boolsOf a ++ boolsOf b) = boolCells (boolsOf a) ++ boolCells (boolsOf b) := by simp [boolCells]
  rw [e2, ← ha, ← hb]
theorem Ints.app {k : IntKind} {a b : List Value} (ha : Ints k a) (hb : Ints k b) : Ints k (a ++ b) := by
  unfold Ints at *
  have e : intsOf (a ++ b) = intsOf a ++ intsOf b := by simp [intsOf]
  rw [e, List.map_append, ← ha, ← hb]
theorem lb_gok : GOk Try.prog 16 [.s 1] (gS (sLe okB mkB3)) := by
  have hX : XOkZ (leV 16) Try.prog := noXz_ok rfl
  have hT : TOkZ (leV 16) Try.prog := noTz_okV rfl
  have hL : LOkZ (leV 16) Try.prog := noL_okV rfl
  refine gS_ok (fun tp gr tp' ob hG ho => ?_) (fun xs n c tp gr tp' ob hG ho hfl hl0 hc => ?_)
  · unfold sLe at hG
    simp only [Option.some.injEq, Prod.mk.injEq] at hG
    obtain ⟨rfl, rfl, rfl⟩ := hG
    refine ran_one (run_row hX hT hL lb_n ?_ rfl) rfl (Bols.fl (mkB3_bols 0)) rfl (fun e => by cases e) (by omega)
    simp only [Alls, rg]
    repeat' (first | with_reducible exact trivial | with_reducible apply And.intro)
    all_goals first | with_reducible assumption | omega | with_reducible rfl | (skip)
  · unfold sLe at hG
    simp only [Option.some.injEq, Prod.mk.injEq] at hG
    obtain ⟨rfl, rfl, rfl⟩ := hG
    obtain ⟨⟨hb, hl⟩, hn, _⟩ := ho
    have hll : xs.length = n := by omega
    have ex : xs.take n = xs := take_len hll
    have hmin : Nat.min n (n + 3) = n := Nat.min_eq_left (by omega)
    have a1 := hb.all1
    refine ran_one (run_row hX hT hL (lb_s xs n c) ?_ rfl) ?_ ((hb.app (mkB3_bols n)).fl) rfl (fun e => by cases e) (by omega)
    · simp only [hmin, ex, Alls, rg, splice_length, zrep1, List.length_replicate, decide_eq_true_eq, decide_eq_false_iff_not]
      repeat' (first | with_reducible exact trivial | with_reducible apply And.intro)
      all_goals first | with_reducible assumption | omega | with_reducible rfl | (exact a1)
    · simp only [hmin, ex, lent_z (.bool false) hll]
      rfl
theorem ly_gok : GOk Try.prog 17 [.s 1] (gS (sLe okI mkI3)) := by
  have hX : XOkZ (leV 17) Try.prog := noXz_ok rfl
  have hT : TOkZ (leV 17) Try.prog := noTz_okV rfl
  have hL : LOkZ (leV 17) Try.prog := noL_okV rfl
  refine gS_ok (fun tp gr tp' ob hG ho => ?_) (fun xs n c tp gr tp' ob hG ho hfl hl0 hc => ?_)
  · unfold sLe at hG
    simp only [Option.some.injEq, Prod.mk.injEq] at hG
    obtain ⟨rfl, rfl, rfl⟩ := hG
    refine ran_one (run_row hX hT hL ly_n ?_ rfl) rfl (Ints.fl (mkI3_ints 0)) rfl (fun e => by cases e) (by omega)
    simp only [Alls, rg]
    repeat' (first | with_reducible exact trivial | with_reducible apply And.intro)
    all_goals first | with_reducible assumption | omega | with_reducible rfl | (skip)
  · unfold sLe at hG
    simp only [Option.some.injEq, Prod.mk.injEq] at hG
    obtain ⟨rfl, rfl, rfl⟩ := hG
    obtain ⟨⟨hb, hl⟩, hn, _⟩ := ho
    have hll : xs.length = n := by omega
    have ex : xs.take n = xs := take_len hll
    have hmin : Nat.min n (n + 3) = n := Nat.min_eq_left (by omega)
    have a1 := hb.all1
    refine ran_one (run_row hX hT hL (ly_s xs n c) ?_ rfl) ?_ ((hb.app (mkI3_ints n)).fl) rfl (fun e => by cases e) (by omega)
    · simp only [hmin, ex, Alls, rg, splice_length, zrep1, List.length_replicate, decide_eq_true_eq, decide_eq_false_iff_not]
      repeat' (first | with_reducible exact trivial | with_reducible apply And.intro)
      all_goals first | with_reducible assumption | omega | with_reducible rfl | (exact a1)
    · simp only [hmin, ex, lent_z (.int .i64 0) hll]
      rfl
/-- A list that is lent is as it was. -/
def gKp (ok : List Value → Nat → Prop) (mk : Nat → List Value) : GSpec := fun av tp => match av with
  | [.sc ls l c, b] => match bytsA b with
    | some xs => some (⟨fun _ => .bool true, []⟩, tp, [ls = xs ++ mk (avLen b), ok xs (avLen b), l = avLen b, c = avLen b + 3, avLen b ≤ 1000000])
    | none => none
  | _ => none
def kpT (fs fl : Nat) (ok : List Value → Nat → Prop) (mk : Nat → List Value) : TFun := orTz (mkT fs [.s 1, .s 1] (gSS (sEqO ok))) (mkT fl [.s 1] (gS (sLe ok mk)))
def kpV (f fs fl : Nat) (ok : List Value → Nat → Prop) (mk : Nat → List Value) : Tv := ⟨kpT fs fl ok mk, noXz, noL, tbl f [10], allSy f [], fun _ => [], fun _ => 0⟩
theorem kb_s (ls xs : List Value) (l c n cb : Nat) : runZ (kpV 25 38 16 okB mkB3) Try.prog 5 25 [.slice (some ⟨0, 0, none⟩) l c, .slice (some ⟨1, 0, none⟩) n cb] [(0, ⟨.old, ls⟩), (1, ⟨.old, xs⟩)] 2 [true] =
  Res.ok ((Value.bool true, [((0 : Nat), Rw.mk Kd.old ls), ((1 : Nat), Rw.mk Kd.old xs)], (3 : Nat), []), [], [((↑l : Int) == (↑n : Int)) = true, c < (18446744073709551616 : Nat), c < (18446744073709551616 : Nat), (0 : Int)
 ≤ (↑c : Int) ∧ (↑c : Int) ≤ (↑c : Int), n ≤ cb ∧ cb ≤ (9223372036854775807 : Nat), n ≤ List.length xs, Fl (List.take n xs), okB (List.take n xs) (avLen (Av.sl (List.take n xs) n)), avLen (Av.sl (List.take n xs) n) ≤
 (1000000 : Nat), rg IntKind.i64 (↑(n + (3 : Nat)) : Int), avLen (Av.sl (List.take n xs) n) + (3 : Nat) < (18446744073709551616 : Nat), (0 : Int) ≤ (↑(n + (3 : Nat)) : Int) ∧ (↑(n + (3 : Nat)) : Int) ≤ (↑(avLen (Av.sl
 (List.take n xs) n) + (3 : Nat)) : Int), c ≤ c ∧ c ≤ (9223372036854775807 : Nat), c ≤ List.length ls, Fl (List.take c ls), n + (3 : Nat) ≤ avLen (Av.sl (List.take n xs) n) + (3 : Nat) ∧ avLen (Av.sl (List.take n xs) n) +
 (3 : Nat) ≤ (9223372036854775807 : Nat), n + (3 : Nat) ≤ List.length (List.take n xs ++ [Value.bool ((↑(avLen (Av.sl (List.take n xs) n) % (2 : Nat)) : Int) == (0 : Int)), Value.bool ((↑((avLen (Av.sl (List.take n xs) n)
 + (1 : Nat)) % (2 : Nat)) : Int) == (0 : Int)), Value.bool ((↑((avLen (Av.sl (List.take n xs) n) + (1 : Nat) + (1 : Nat)) % (2 : Nat)) : Int) == (0 : Int))]), Fl (List.take (n + (3 : Nat)) (List.take n xs ++ [Value.bool
 ((↑(avLen (Av.sl (List.take n xs) n) % (2 : Nat)) : Int) == (0 : Int)), Value.bool ((↑((avLen (Av.sl (List.take n xs) n) + (1 : Nat)) % (2 : Nat)) : Int) == (0 : Int)), Value.bool ((↑((avLen (Av.sl (List.take n xs) n) +
 (1 : Nat) + (1 : Nat)) % (2 : Nat)) : Int) == (0 : Int))])), okB (List.take c ls) (avLen (Av.sl (List.take c ls) c)), List.take (n + (3 : Nat)) (List.take n xs ++ [Value.bool ((↑(avLen (Av.sl (List.take n xs) n) % (2 :
 Nat)) : Int) == (0 : Int)), Value.bool ((↑((avLen (Av.sl (List.take n xs) n) + (1 : Nat)) % (2 : Nat)) : Int) == (0 : Int)), Value.bool ((↑((avLen (Av.sl (List.take n xs) n) + (1 : Nat) + (1 : Nat)) % (2 : Nat)) : Int) ==
 (0 : Int))]) = List.take c ls, avLen (Av.sl (List.take (n + (3 : Nat)) (List.take n xs ++ [Value.bool ((↑(avLen (Av.sl (List.take n xs) n) % (2 : Nat)) : Int) == (0 : Int)), Value.bool ((↑((avLen (Av.sl (List.take n xs)
 n) + (1 : Nat)) % (2 : Nat)) : Int) == (0 : Int)), Value.bool ((↑((avLen (Av.sl (List.take n xs) n) + (1 : Nat) + (1 : Nat)) % (2 : Nat)) : Int) == (0 : Int))])) (n + (3 : Nat))) = avLen (Av.sl (List.take c ls) c)]) := by kernel_rfl
theorem kb_n (ls : List Value) (l c : Nat) : runZ (kpV 25 38 16 okB mkB3) Try.prog 5 25 [.slice (some ⟨0, 0, none⟩) l c, .slice none 0 0] [(0, ⟨.old, ls⟩)] 2 [true] =
  Res.ok ((Value.bool true, [((0 : Nat), Rw.mk Kd.old ls)], (3 : Nat), []), [], [((↑l : Int) == (0 : Int)) = true, c < (18446744073709551616 : Nat), c < (18446744073709551616 : Nat), (0 : Int) ≤ (↑c : Int) ∧ (↑c : Int) ≤
 (↑c : Int), okB [] (0 : Nat), (0 : Nat) ≤ (1000000 : Nat), rg IntKind.i64 (3 : Int), (3 : Nat) < (18446744073709551616 : Nat), (0 : Int) ≤ (3 : Int) ∧ (3 : Int) ≤ (3 : Int), c ≤ c ∧ c ≤ (9223372036854775807 : Nat), c ≤
 List.length ls, Fl (List.take c ls), (3 : Nat) ≤ (3 : Nat) ∧ (3 : Nat) ≤ (9223372036854775807 : Nat), (3 : Nat) ≤ (3 : Nat), Fl [Value.bool true, Value.bool false, Value.bool true], okB (List.take c ls) (avLen (Av.sl
 (List.take c ls) c)), [Value.bool true, Value.bool false, Value.bool true] = List.take c ls, (3 : Nat) = avLen (Av.sl (List.take c ls) c)]) := by kernel_rfl
theorem ky_s (ls xs : List Value) (l c n cb : Nat) : runZ (kpV 26 19 17 okI mkI3) Try.prog 5 26 [.slice (some ⟨0, 0, none⟩) l c, .slice (some ⟨1, 0, none⟩) n cb] [(0, ⟨.old, ls⟩), (1, ⟨.old, xs⟩)] 2 [true] =
  Res.ok ((Value.bool true, [((0 : Nat), Rw.mk Kd.old ls), ((1 : Nat), Rw.mk Kd.old xs)], (3 : Nat), []), [], [((↑l : Int) == (↑n : Int)) = true, c < (18446744073709551616 : Nat), c < (18446744073709551616 : Nat), (0 : Int)
 ≤ (↑c : Int) ∧ (↑c : Int) ≤ (↑c : Int), n ≤ cb ∧ cb ≤ (9223372036854775807 : Nat), n ≤ List.length xs, Fl (List.take n xs), okI (List.take n xs) (avLen (Av.sl (List.take n xs) n)), avLen (Av.sl (List.take n xs) n) ≤
 (1000000 : Nat), rg IntKind.i64 (↑(n + (3 : Nat)) : Int), avLen (Av.sl (List.take n xs) n) + (3 : Nat) < (18446744073709551616 : Nat), (0 : Int) ≤ (↑(n + (3 : Nat)) : Int) ∧ (↑(n + (3 : Nat)) : Int) ≤ (↑(avLen (Av.sl
 (List.take n xs) n) + (3 : Nat)) : Int), c ≤ c ∧ c ≤ (9223372036854775807 : Nat), c ≤ List.length ls, Fl (List.take c ls), n + (3 : Nat) ≤ avLen (Av.sl (List.take n xs) n) + (3 : Nat) ∧ avLen (Av.sl (List.take n xs) n) +
 (3 : Nat) ≤ (9223372036854775807 : Nat), n + (3 : Nat) ≤ List.length (List.take n xs ++ [Value.int IntKind.i64 (Int.negSucc (nat_lit 76) - (↑(avLen (Av.sl (List.take n xs) n)) : Int)), Value.int IntKind.i64 (Int.negSucc
 (nat_lit 76) - (↑(avLen (Av.sl (List.take n xs) n) + (1 : Nat)) : Int)), Value.int IntKind.i64 (Int.negSucc (nat_lit 76) - (↑(avLen (Av.sl (List.take n xs) n) + (1 : Nat) + (1 : Nat)) : Int))]), Fl (List.take (n + (3 :
 Nat)) (List.take n xs ++ [Value.int IntKind.i64 (Int.negSucc (nat_lit 76) - (↑(avLen (Av.sl (List.take n xs) n)) : Int)), Value.int IntKind.i64 (Int.negSucc (nat_lit 76) - (↑(avLen (Av.sl (List.take n xs) n) + (1 : Nat))
 : Int)), Value.int IntKind.i64 (Int.negSucc (nat_lit 76) - (↑(avLen (Av.sl (List.take n xs) n) + (1 : Nat) + (1 : Nat)) : Int))])), okI (List.take c ls) (avLen (Av.sl (List.take c ls) c)), List.take (n + (3 : Nat))
 (List.take n xs ++ [Value.int IntKind.i64 (Int.negSucc (nat_lit 76) - (↑(avLen (Av.sl (List.take n xs) n)) : Int)), Value.int IntKind.i64 (Int.negSucc (nat_lit 76) - (↑(avLen (Av.sl (List.take n xs) n) + (1 : Nat)) :
 Int)), Value.int IntKind.i64 (Int.negSucc (nat_lit 76) - (↑(avLen (Av.sl (List.take n xs) n) + (1 : Nat) + (1 : Nat)) : Int))]) = List.take c ls, avLen (Av.sl (List.take (n + (3 : Nat)) (List.take n xs ++ [Value.int
 IntKind.i64 (Int.negSucc (nat_lit 76) - (↑(avLen (Av.sl (List.take n xs) n)) : Int)), Value.int IntKind.i64 (Int.negSucc (nat_lit 76) - (↑(avLen (Av.sl (List.take n xs) n) + (1 : Nat)) : Int)), Value.int IntKind.i64
 (Int.negSucc (nat_lit 76) - (↑(avLen (Av.sl (List.take n xs) n) + (1 : Nat) + (1 : Nat)) : Int))])) (n + (3 : Nat))) = avLen (Av.sl (List.take c ls) c)]) := by kernel_rfl
theorem ky_n (ls : List Value) (l c : Nat) : runZ (kpV 26 19 17 okI mkI3) Try.prog 5 26 [.slice (some ⟨0, 0, none⟩) l c, .slice none 0 0] [(0, ⟨.old, ls⟩)] 2 [true] =
  Res.ok ((Value.bool true, [((0 : Nat), Rw.mk Kd.old ls)], (3 : Nat), []), [], [((↑l : Int) == (0 : Int)) = true, c < (18446744073709551616 : Nat), c < (18446744073709551616 : Nat), (0 : Int) ≤ (↑c : Int) ∧ (↑c : Int) ≤
 (↑c : Int), okI [] (0 : Nat), (0 : Nat) ≤ (1000000 : Nat), rg IntKind.i64 (3 : Int), (3 : Nat) < (18446744073709551616 : Nat), (0 : Int) ≤ (3 : Int) ∧ (3 : Int) ≤ (3 : Int), c ≤ c ∧ c ≤ (9223372036854775807 : Nat), c ≤
 List.length ls, Fl (List.take c ls), (3 : Nat) ≤ (3 : Nat) ∧ (3 : Nat) ≤ (9223372036854775807 : Nat), (3 : Nat) ≤ (3 : Nat), Fl [Value.int IntKind.i64 (Int.negSucc (nat_lit 76)), Value.int IntKind.i64 (Int.negSucc
 (nat_lit 76) - (1 : Int)), Value.int IntKind.i64 (Int.negSucc (nat_lit 76) - (2 : Int))], okI (List.take c ls) (avLen (Av.sl (List.take c ls) c)), [Value.int IntKind.i64 (Int.negSucc (nat_lit 76)), Value.int IntKind.i64
 (Int.negSucc (nat_lit 76) - (1 : Int)), Value.int IntKind.i64 (Int.negSucc (nat_lit 76) - (2 : Int))] = List.take c ls, (3 : Nat) = avLen (Av.sl (List.take c ls) c)]) := by kernel_rfl
theorem ok_app3 {xs m : List Value} {n : Nat} (h : xs.length = n) (hm : m.length = 3) : (xs ++ m).length = n + 3 := by rw [List.length_append, h, hm]
theorem kb_gok : GOk Try.prog 25 [.c 1, .s 1] (gKp okB mkB3) := by
  have hX : XOkZ (kpV 25 38 16 okB mkB3) Try.prog := noXz_ok rfl
  have hT : TOkZ (kpV 25 38 16 okB mkB3) Try.prog := T_okV rfl (orTz_ok (mkT_one xb_gok) (mkT_one lb_gok))
  have hL : LOkZ (kpV 25 38 16 okB mkB3) Try.prog := noL_okV rfl
  intro av tp gr tp' ob hG ho hP caps hcap
  unfold gKp at hG
  split at hG
  case h_2 => cases hG
  rename_i ls l c b
  obtain ⟨ca, cb, rfl⟩ := caps2 hcap
  obtain ⟨pa, pb, _⟩ := hP
  split at hG
  case h_2 => cases hG
  rename_i xs hb
  simp only [Option.some.injEq, Prod.mk.injEq] at hG
  obtain ⟨rfl, rfl, rfl⟩ := hG
  obtain ⟨e0, hok, e1, e2, bn, _⟩ := ho
  subst e1
  subst e2
  cases b with
  | ag p zs m => simp [AvP] at pb
  | sc zs l m => simp [AvP] at pb
  | fl v =>
    simp only [AvP] at pb
    subst pb
    simp only [bytsA, Option.some.injEq] at hb
    subst hb
    simp only [avLen] at *
    subst e0
    have m0 := mkB3_bols 0
    have ex : (([] : List Value) ++ mkB3 0).take (0 + 3) = mkB3 0 := rfl
    have hok3 : okB (mkB3 0) (0 + 3) := ⟨m0, rfl⟩
    have f0 := m0.fl
    refine ⟨_, _, _, _, fun n => n, run_tri hX hT hL (kb_n ([] ++ mkB3 0) 0 (0 + 3)) ?_ rfl, GrIs.flat fun σ => rfl⟩
    rw [ex]
    simp only [Alls, rg, decide_eq_true_eq, beq_self_eq_true, and_true, true_and]
    repeat' (first | with_reducible exact trivial | with_reducible apply And.intro)
    all_goals first | with_reducible assumption | omega | with_reducible rfl | (first | exact hok3 | exact ⟨rfl, rfl⟩ | exact f0 | exact Nat.le_refl 3 | rfl | (simp; done))
  | sl zs n =>
    simp only [bytsA, Option.some.injEq] at hb
    subst hb
    simp only [avLen] at *
    subst e0
    obtain ⟨hz, hl0⟩ := hok
    have hl : zs.length = n := by omega
    have hu := take_len hl
    have m0 := mkB3_bols n
    have hml : (zs ++ mkB3 n).length = n + 3 := ok_app3 hl rfl
    have hm : (zs ++ mkB3 n).take (n + 3) = zs ++ mkB3 n := take_len hml
    have hzm := hz.app m0
    have fz := hz.fl
    have fm := hzm.fl
    have hok3 : okB (zs ++ mkB3 n) (n + 3) := ⟨hzm, by omega⟩
    refine ⟨_, _, _, _, fun n => n, run_tri hX hT hL (kb_s (zs ++ mkB3 n) zs n (n + 3) n cb) ?_ rfl, GrIs.flat fun σ => rfl⟩
    unfold mkB3 at hm hml fm hok3 ⊢
    simp only [CapsOk] at hcap
    simp only [avLen, hu, hm]
    simp only [Alls, rg, decide_eq_true_eq, beq_self_eq_true, and_true, true_and]
    repeat' (first | with_reducible exact trivial | with_reducible apply And.intro)
    all_goals first | with_reducible assumption | omega | with_reducible rfl | (first | exact fz | exact fm | exact hok3 | exact ⟨hz, hl0⟩ | exact Nat.le_of_eq hml.symm | rfl)
theorem ky_gok : GOk Try.prog 26 [.c 1, .s 1] (gKp okI mkI3) := by
  have hX : XOkZ (kpV 26 19 17 okI mkI3) Try.prog := noXz_ok rfl
  have hT : TOkZ (kpV 26 19 17 okI mkI3) Try.prog := T_okV rfl (orTz_ok (mkT_one xi_gok) (mkT_one ly_gok))
  have hL : LOkZ (kpV 26 19 17 okI mkI3) Try.prog := noL_okV rfl
  intro av tp gr tp' ob hG ho hP caps hcap
  unfold gKp at hG
  split at hG
  case h_2 => cases hG
  rename_i ls l c b
  obtain ⟨ca, cb, rfl⟩ := caps2 hcap
  obtain ⟨pa, pb, _⟩ := hP
  split at hG
  case h_2 => cases hG
  rename_i xs hb
  simp only [Option.some.injEq, Prod.mk.injEq] at hG
  obtain ⟨rfl, rfl, rfl⟩ := hG
  obtain ⟨e0, hok, e1, e2, bn, _⟩ := ho
  subst e1
  subst e2
  cases b with
  | ag p zs m => simp [AvP] at pb
  | sc zs l m => simp [AvP] at pb
  | fl v =>
    simp only [AvP] at pb
    subst pb
    simp only [bytsA, Option.some.injEq] at hb
    subst hb
    simp only [avLen] at *
    subst e0
    have m0 := mkI3_ints 0
    have ex : (([] : List Value) ++ mkI3 0).take (0 + 3) = mkI3 0 := rfl
    have hok3 : okI (mkI3 0) (0 + 3) := ⟨m0, rfl⟩
    have f0 := m0.fl
    refine ⟨_, _, _, _, fun n => n, run_tri hX hT hL (ky_n ([] ++ mkI3 0) 0 (0 + 3)) ?_ rfl, GrIs.flat fun σ => rfl⟩
    rw [ex]
    simp only [Alls, rg, decide_eq_true_eq, beq_self_eq_true, and_true, true_and]
    repeat' (first | with_reducible exact trivial | with_reducible apply And.intro)
    all_goals first | with_reducible assumption | omega | with_reducible rfl | (first | exact hok3 | exact ⟨rfl, rfl⟩ | exact f0 | exact Nat.le_refl 3 | rfl | (simp; done))
  | sl zs n =>
    simp only [bytsA, Option.some.injEq] at hb
    subst hb
    simp only [avLen] at *
    subst e0
    obtain ⟨hz, hl0⟩ := hok
    have hl : zs.length = n := by omega
    have hu := take_len hl
    have m0 := mkI3_ints n
    have hml : (zs ++ mkI3 n).length = n + 3 := ok_app3 hl rfl
    have hm : (zs ++ mkI3 n).take (n + 3) = zs ++ mkI3 n := take_len hml
    have hzm := hz.app m0
    have fz := hz.fl
    have fm := hzm.fl
    have hok3 : okI (zs ++ mkI3 n) (n + 3) := ⟨hzm, by omega⟩
    refine ⟨_, _, _, _, fun n => n, run_tri hX hT hL (ky_s (zs ++ mkI3 n) zs n (n + 3) n cb) ?_ rfl, GrIs.flat fun σ => rfl⟩
    unfold mkI3 at hm hml fm hok3 ⊢
    simp only [CapsOk] at hcap
    simp only [avLen, hu, hm]
    simp only [Alls, rg, decide_eq_true_eq, beq_self_eq_true, and_true, true_and]
    repeat' (first | with_reducible exact trivial | with_reducible apply And.intro)
    all_goals first | with_reducible assumption | omega | with_reducible rfl | (first | exact fz | exact fm | exact hok3 | exact ⟨hz, hl0⟩ | exact Nat.le_of_eq hml.symm | rfl)
/-! ### codes that are not 0 -/
theorem nzL_len (xs : List Value) : ∀ k i, (nzL xs i k).length = nzN xs i k * 2
  | 0, i => rfl
  | k + 1, i => by
      simp only [nzL, nzN]
      have := nzL_len xs k (i + 1)
      cases (intAt xs i != 0) <;> simp only [cond_true, cond_false, List.length_cons, this] <;> omega
theorem nzL_Ints (xs : List Value) : ∀ k i, Ints .i64 (nzL xs i k)
  | 0, i => rfl
  | k + 1, i => by
      simp only [nzL]
      have := nzL_Ints xs k (i + 1)
      cases (intAt xs i != 0)
      · exact this
      · exact Ints.app (a := [.int .i64 (i : Int), .int .i64 (intAt xs i)]) rfl this
theorem nzN_le (xs : List Value) : ∀ k i, nzN xs i k ≤ k
  | 0, i => Nat.le_refl 0
  | k + 1, i => by
      simp only [nzN]
      have := nzN_le xs k (i + 1)
      cases (intAt xs i != 0) <;> simp only [cond_true, cond_false] <;> omega
def nzEnd (xs : List Value) (i k : Nat) : LO := bif decide (nzN xs i k = 0) then (.exit 0, [(3, .slice none 0 0)], [(0, ⟨.old, xs⟩)]) else (.exit 0, [(3, .slice (some ⟨1, 0, none⟩) (nzN xs i k) (capBig + 1))], [(0, ⟨.old, xs⟩), (1, rtRow (nzL xs i k))])
theorem nzEnd_skip {xs : List Value} {i k : Nat} (h : (intAt xs i != 0) = false) : nzEnd xs i (k + 1) = nzEnd xs (i + 1) k := by
  simp only [nzEnd, nzN, nzL, h, cond_false]
theorem ri_loop1 {inr : Bool} {h0 : Hp} {xs : List Value} {n c : Nat} (hx : Ints .i64 xs) (hn : xs.length = n) (hn1 : n ≤ 1000) (hc : n ≤ c ∧ c ≤ 9223372036854775807) : ∀ (k i m : Nat) (ys : List Value), i + k = n → ys.length = m * 2 → m ≤ i → Fl ys →
    LRuns inr Try.prog (riB Try.prog) 1 9 h0 23 (riS n c i (.slice (some ⟨1, 0, none⟩) m (capBig + 1))) [(0, ⟨.old, xs⟩), (1, rtRow ys)] 2
      (.exit 0, [(3, .slice (some ⟨1, 0, none⟩) (m + nzN xs i k) (capBig + 1))], [(0, ⟨.old, xs⟩), (1, rtRow (ys ++ nzL xs i k))])
  | 0, i, m, ys, hk, hl, hm, hf => by
      have hX : XOkZ (rlV noL) Try.prog := noXz_ok rfl
      have hT : TOkZ (rlV noL) Try.prog := noTz_okV rfl
      have hL : LOkZ (rlV noL) Try.prog := noL_okV rfl
      simp only [nzN, nzL, Nat.add_zero, List.append_nil]
      refine LRuns.exit (code_runs hX hL (runZ_ok hX hT hL mixed 5) mixed (ri_done1 inr xs ys n c i m) ?_) (by intro e; cases e) rfl (by omega) (by omega) (fun n => n) ?_ ?_ rfl
      · simp only [Alls, decide_eq_false_iff_not]
        repeat' (first | with_reducible exact trivial | with_reducible apply And.intro)
        all_goals first | with_reducible assumption | omega | with_reducible rfl | (skip)
      · exact ⟨rfl, rb_slg rfl rfl, trivial⟩
      · exact ⟨rb_old (by omega) rfl hx.fl, rb_row (m := 1) rfl rfl rfl rfl hf, trivial⟩
  | k + 1, i, m, ys, hk, hl, hm, hf => by
      have hX : XOkZ (rlV noL) Try.prog := noXz_ok rfl
      have hT : TOkZ (rlV noL) Try.prog := noTz_okV rfl
      have hL : LOkZ (rlV noL) Try.prog := noL_okV rfl
      have g0 := hx.get (i := i) (by omega)
      cases hz : (intAt xs i != 0)
      · have nx := ri_loop1 (inr := inr) (h0 := h0) hx hn hn1 hc k (i + 1) m ys (by omega) hl (by omega) hf
        simp only [nzN, nzL, hz, cond_false]
        refine LRuns.step (code_runs hX hL (runZ_ok hX hT hL mixed 5) mixed (ri_zero1 inr xs ys n c i m) ?_) rfl (by omega) (by omega) (fun n => n) ?_ ?_ rfl nx
        · simp only [Alls, decide_eq_true_eq, rg]
          repeat' (first | with_reducible exact trivial | with_reducible apply And.intro)
          all_goals first | with_reducible assumption | omega | with_reducible rfl | (first | exact g0 | exact hz)
        · exact ⟨rfl, rb_slg rfl rfl, rfl, rb_slc rfl (by unfold capBig; omega), rfl, rfl, rfl, rfl, trivial⟩
        · exact ⟨rb_old (by omega) rfl hx.fl, rb_row (m := 1) rfl rfl rfl rfl hf, trivial⟩
      · have hex : Fl (ys ++ [.int .i64 (i : Int), .int .i64 (intAt xs i)]) := hf.app (Fl.of rfl)
        have nx := ri_loop1 (inr := inr) (h0 := h0) hx hn hn1 hc k (i + 1) (m + 1) (ys ++ [.int .i64 (i : Int), .int .i64 (intAt xs i)]) (by omega) (by rw [List.length_append, hl]; simp; omega) (by omega) hex
        simp only [nzN, nzL, hz, cond_true]
        rw [List.append_assoc, show m + 1 + nzN xs (i + 1) k = m + (nzN xs (i + 1) k + 1) by omega] at nx
        refine LRuns.step (code_runs hX hL (runZ_ok hX hT hL mixed 5) mixed (ri_more1 inr xs ys n c i m) ?_) rfl (by omega) (by omega) (fun _ => 3) ?_ ?_ rfl nx
        · simp only [Alls, decide_eq_true_eq, rg]
          repeat' (first | with_reducible exact trivial | with_reducible apply And.intro)
          all_goals first | with_reducible assumption | omega | with_reducible rfl | (first | exact g0 | exact hz)
        · exact ⟨rfl, rb_slg rfl rfl, rfl, rb_slc rfl (by unfold capBig; omega), rfl, rfl, rfl, rfl, trivial⟩
        · exact ⟨rb_old (by omega) rfl hx.fl, rb_row (m := 3) rfl rfl rfl rfl hex, trivial⟩
theorem ri_loop {inr : Bool} {h0 : Hp} {xs : List Value} {n c : Nat} (hx : Ints .i64 xs) (hn : xs.length = n) (hn1 : n ≤ 1000) (hc : n ≤ c ∧ c ≤ 9223372036854775807) : ∀ (k i : Nat), i + k = n →
    LRuns inr Try.prog (riB Try.prog) 1 9 h0 23 (riS n c i (.slice none 0 0)) [(0, ⟨.old, xs⟩)] 1 (nzEnd xs i k)
  | 0, i, hk => by
      have hX : XOkZ (rlV noL) Try.prog := noXz_ok rfl
      have hT : TOkZ (rlV noL) Try.prog := noTz_okV rfl
      have hL : LOkZ (rlV noL) Try.prog := noL_okV rfl
      refine LRuns.exit (code_runs hX hL (runZ_ok hX hT hL mixed 5) mixed (ri_done0 inr xs n c i) ?_) (by intro e; cases e) rfl (by omega) (by omega) (fun n => n) ?_ ?_ rfl
      · simp only [Alls, decide_eq_false_iff_not]
        repeat' (first | with_reducible exact trivial | with_reducible apply And.intro)
        all_goals first | with_reducible assumption | omega | with_reducible rfl | (skip)
      · exact ⟨rfl, rfl, trivial⟩
      · exact ⟨rb_old (by omega) rfl hx.fl, trivial⟩
  | k + 1, i, hk => by
      have hX : XOkZ (rlV noL) Try.prog := noXz_ok rfl
      have hT : TOkZ (rlV noL) Try.prog := noTz_okV rfl
      have hL : LOkZ (rlV noL) Try.prog := noL_okV rfl
      have g0 := hx.get (i := i) (by omega)
      cases hz : (intAt xs i != 0)
      · have nx := ri_loop (inr := inr) (h0 := h0) hx hn hn1 hc k (i + 1) (by omega)
        rw [nzEnd_skip hz]
        refine LRuns.step (code_runs hX hL (runZ_ok hX hT hL mixed 5) mixed (ri_zero0 inr xs n c i) ?_) rfl (by omega) (by omega) (fun n => n) ?_ ?_ rfl nx
        · simp only [Alls, decide_eq_true_eq, rg]
          repeat' (first | with_reducible exact trivial | with_reducible apply And.intro)
          all_goals first | with_reducible assumption | omega | with_reducible rfl | (first | exact g0 | exact hz)
        · exact ⟨rfl, rfl, rfl, rb_slc rfl (by unfold capBig; omega), rfl, rfl, rfl, rfl, trivial⟩
        · exact ⟨rb_old (by omega) rfl hx.fl, trivial⟩
      · have hf : Fl [.int .i64 (i : Int), .int .i64 (intAt xs i)] := Fl.of rfl
        have nx := ri_loop1 (inr := inr) (h0 := h0) hx hn hn1 hc k (i + 1) 1 [.int .i64 (i : Int), .int .i64 (intAt xs i)] (by omega) rfl (by omega) hf
        have e : nzEnd xs i (k + 1) = (.exit 0, [(3, .slice (some ⟨1, 0, none⟩) (1 + nzN xs (i + 1) k) (capBig + 1))], [(0, ⟨.old, xs⟩), (1, rtRow ([.int .i64 (i : Int), .int .i64 (intAt xs i)] ++ nzL xs (i + 1) k))]) := by
          have hne : decide (nzN xs i (k + 1) = 0) = false := by simp only [nzN, hz, cond_true, decide_eq_false_iff_not]; omega
          simp only [nzEnd, hne, cond_false]
          simp only [nzN, nzL, hz, cond_true, Nat.add_comm]
          rfl
        rw [e]
        refine LRuns.stepTo (N' := 2) (code_runs hX hL (runZ_ok hX hT hL mixed 5) mixed (ri_more0 inr xs n c i) ?_) rfl (by omega) (by omega) (by omega) (by omega) (fun _ => 2) ?_ ?_ rfl nx
        · simp only [Alls, decide_eq_true_eq, rg]
          repeat' (first | with_reducible exact trivial | with_reducible apply And.intro)
          all_goals first | with_reducible assumption | omega | with_reducible rfl | (first | exact g0 | exact hz)
        · exact ⟨rfl, rb_slg rfl rfl, rfl, rb_slc rfl (by unfold capBig; omega), rfl, rfl, rfl, rfl, trivial⟩
        · exact ⟨rb_old (by omega) rfl hx.fl, rb_row (m := 2) rfl rfl rfl rfl hf, trivial⟩
theorem ri_spec_ok : LSOk Try.prog 23 [3, 6, 7, 8] (riB Try.prog) (nzSpec fun n c => riS n c 0 (.slice none 0 0)) := by
  refine lspec_ok fun a tp xt l2 h2 nx2 d tp' ob hs ho inr ts hn hg => ?_
  obtain ⟨n, c, xs⟩ := a
  simp only at hs hg
  split at hs
  case h_3 => cases hs
  all_goals (
    simp only [Option.some.injEq, Prod.mk.injEq] at hs
    obtain ⟨⟨rfl, rfl, rfl, rfl, rfl⟩, rfl, rfl⟩ := hs
    obtain ⟨hz, hok, hn1, hc, _⟩ := ho
    obtain ⟨hx, hl⟩ := hok
    have key := ri_loop (inr := inr) (h0 := [(0, ⟨.old, xs⟩)]) (n := n) (c := c) hx (by (try simp only at hl); omega) hn1 hc n 0 (by omega))
  · have e : nzEnd xs 0 n = (.exit 0, [(3, .slice none 0 0)], [(0, ⟨.old, xs⟩)]) := by simp only [nzEnd, decide_eq_true hz, cond_true]
    rw [e] at key
    refine LRuns.enter (l2 := riS n c 0 (.slice none 0 0)) (h := [(0, ⟨.old, xs⟩)]) (h2 := [(0, ⟨.old, xs⟩)]) hn hg (Nat.le_refl 1) (by omega) (fun n => n) ?_ ⟨rb_old (by omega) rfl hx.fl, trivial⟩ rfl key ?_
    · exact ⟨rfl, rfl, rfl, rb_slc rfl (by unfold capBig; omega), rfl, rfl, rfl, rfl, trivial⟩
    · exact tidy_of (by omega) (fun n hn hd => rfl) rfl
  · have e : nzEnd xs 0 n = (.exit 0, [(3, .slice (some ⟨1, 0, none⟩) (nzN xs 0 n) (capBig + 1))], [(0, ⟨.old, xs⟩), (1, rtRow (nzL xs 0 n))]) := by simp only [nzEnd, decide_eq_false hz, cond_false]
    rw [e] at key
    refine LRuns.enter (l2 := riS n c 0 (.slice none 0 0)) (h := [(0, ⟨.old, xs⟩)]) (h2 := [(0, ⟨.old, xs⟩)]) hn hg (Nat.le_refl 1) (by omega) (fun n => n) ?_ ⟨rb_old (by omega) rfl hx.fl, trivial⟩ rfl key ?_
    · exact ⟨rfl, rfl, rfl, rb_slc rfl (by unfold capBig; omega), rfl, rfl, rfl, rfl, trivial⟩
    · exact tidy_of (by omega) (fun n hn hd => (by (try simp only at hn); rw [lk_cons, lk_cons]; obtain rfl : n = 0 := (by omega); rfl)) rfl
theorem rr_loop1 {inr : Bool} {h0 : Hp} {xs : List Value} {n c : Nat} (hx : Ints .i64 xs) (hn : xs.length = n) (hn1 : n ≤ 1000) (hc : n ≤ c ∧ c ≤ 9223372036854775807) : ∀ (k i m : Nat) (ys : List Value), i + k = n → ys.length = m * 2 → m ≤ i → Fl ys →
    LRuns inr Try.prog (rrB Try.prog) 1 9 h0 26 (rrS n c i (.slice (some ⟨1, 0, none⟩) m (capBig + 1))) [(0, ⟨.old, xs⟩), (1, rtRow ys)] 2
      (.exit 0, [(3, .slice (some ⟨1, 0, none⟩) (m + nzN xs i k) (capBig + 1))], [(0, ⟨.old, xs⟩), (1, rtRow (ys ++ nzL xs i k))])
  | 0, i, m, ys, hk, hl, hm, hf => by
      have hX : XOkZ (rlV noL) Try.prog := noXz_ok rfl
      have hT : TOkZ (rlV noL) Try.prog := noTz_okV rfl
      have hL : LOkZ (rlV noL) Try.prog := noL_okV rfl
      simp only [nzN, nzL, Nat.add_zero, List.append_nil]
      refine LRuns.exit (code_runs hX hL (runZ_ok hX hT hL mixed 5) mixed (rr_done1 inr xs ys n c i m) ?_) (by intro e; cases e) rfl (by omega) (by omega) (fun n => n) ?_ ?_ rfl
      · simp only [Alls, decide_eq_false_iff_not]
        repeat' (first | with_reducible exact trivial | with_reducible apply And.intro)
        all_goals first | with_reducible assumption | omega | with_reducible rfl | (skip)
      · exact ⟨rfl, rb_slg rfl rfl, trivial⟩
      · exact ⟨rb_old (by omega) rfl hx.fl, rb_row (m := 1) rfl rfl rfl rfl hf, trivial⟩
  | k + 1, i, m, ys, hk, hl, hm, hf => by
      have hX : XOkZ (rlV noL) Try.prog := noXz_ok rfl
      have hT : TOkZ (rlV noL) Try.prog := noTz_okV rfl
      have hL : LOkZ (rlV noL) Try.prog := noL_okV rfl
      have g0 := hx.get (i := i) (by omega)
      cases hz : (intAt xs i != 0)
      · have nx := rr_loop1 (inr := inr) (h0 := h0) hx hn hn1 hc k (i + 1) m ys (by omega) hl (by omega) hf
        simp only [nzN, nzL, hz, cond_false]
        refine LRuns.step (code_runs hX hL (runZ_ok hX hT hL mixed 5) mixed (rr_zero1 inr xs ys n c i m) ?_) rfl (by omega) (by omega) (fun n => n) ?_ ?_ rfl nx
        · simp only [Alls, decide_eq_true_eq, rg]
          repeat' (first | with_reducible exact trivial | with_reducible apply And.intro)
          all_goals first | with_reducible assumption | omega | with_reducible rfl | (first | exact g0 | exact hz)
        · exact ⟨rfl, rb_slc rfl (by unfold capBig; omega), rfl, rb_slg rfl rfl, rfl, rfl, trivial⟩
        · exact ⟨rb_old (by omega) rfl hx.fl, rb_row (m := 1) rfl rfl rfl rfl hf, trivial⟩
      · have hex : Fl (ys ++ [.int .i64 (i : Int), .int .i64 (intAt xs i)]) := hf.app (Fl.of rfl)
        have nx := rr_loop1 (inr := inr) (h0 := h0) hx hn hn1 hc k (i + 1) (m + 1) (ys ++ [.int .i64 (i : Int), .int .i64 (intAt xs i)]) (by omega) (by rw [List.length_append, hl]; simp; omega) (by omega) hex
        simp only [nzN, nzL, hz, cond_true]
        rw [List.append_assoc, show m + 1 + nzN xs (i + 1) k = m + (nzN xs (i + 1) k + 1) by omega] at nx
        refine LRuns.step (code_runs hX hL (runZ_ok hX hT hL mixed 5) mixed (rr_more1 inr xs ys n c i m) ?_) rfl (by omega) (by omega) (fun _ => 3) ?_ ?_ rfl nx
        · simp only [Alls, decide_eq_true_eq, rg]
          repeat' (first | with_reducible exact trivial | with_reducible apply And.intro)
          all_goals first | with_reducible assumption | omega | with_reducible rfl | (first | exact g0 | exact hz)
        · exact ⟨rfl, rb_slc rfl (by unfold capBig; omega), rfl, rb_slg rfl rfl, rfl, rfl, trivial⟩
        · exact ⟨rb_old (by omega) rfl hx.fl, rb_row (m := 3) rfl rfl rfl rfl hex, trivial⟩
theorem rr_loop {inr : Bool} {h0 : Hp} {xs : List Value} {n c : Nat} (hx : Ints .i64 xs) (hn : xs.length = n) (hn1 : n ≤ 1000) (hc : n ≤ c ∧ c ≤ 9223372036854775807) : ∀ (k i : Nat), i + k = n →
    LRuns inr Try.prog (rrB Try.prog) 1 9 h0 26 (rrS n c i (.slice none 0 0)) [(0, ⟨.old, xs⟩)] 1 (nzEnd xs i k)
  | 0, i, hk => by
      have hX : XOkZ (rlV noL) Try.prog := noXz_ok rfl
      have hT : TOkZ (rlV noL) Try.prog := noTz_okV rfl
      have hL : LOkZ (rlV noL) Try.prog := noL_okV rfl
      refine LRuns.exit (code_runs hX hL (runZ_ok hX hT hL mixed 5) mixed (rr_done0 inr xs n c i) ?_) (by intro e; cases e) rfl (by omega) (by omega) (fun n => n) ?_ ?_ rfl
      · simp only [Alls, decide_eq_false_iff_not]
        repeat' (first | with_reducible exact trivial | with_reducible apply And.intro)
        all_goals first | with_reducible assumption | omega | with_reducible rfl | (skip)
      · exact ⟨rfl, rfl, trivial⟩
      · exact ⟨rb_old (by omega) rfl hx.fl, trivial⟩
  | k + 1, i, hk => by
      have hX : XOkZ (rlV noL) Try.prog := noXz_ok rfl
      have hT : TOkZ (rlV noL) Try.prog := noTz_okV rfl
      have hL : LOkZ (rlV noL) Try.prog := noL_okV rfl
      have g0 := hx.get (i := i) (by omega)
      cases hz : (intAt xs i != 0)
      · have nx := rr_loop (inr := inr) (h0 := h0) hx hn hn1 hc k (i + 1) (by omega)
        rw [nzEnd_skip hz]
        refine LRuns.step (code_runs hX hL (runZ_ok hX hT hL mixed 5) mixed (rr_zero0 inr xs n c i) ?_) rfl (by omega) (by omega) (fun n => n) ?_ ?_ rfl nx
        · simp only [Alls, decide_eq_true_eq, rg]
          repeat' (first | with_reducible exact trivial | with_reducible apply And.intro)
          all_goals first | with_reducible assumption | omega | with_reducible rfl | (first | exact g0 | exact hz)
        · exact ⟨rfl, rb_slc rfl (by unfold capBig; omega), rfl, rfl, rfl, rfl, trivial⟩
        · exact ⟨rb_old (by omega) rfl hx.fl, trivial⟩
      · have hf : Fl [.int .i64 (i : Int), .int .i64 (intAt xs i)] := Fl.of rfl
        have nx := rr_loop1 (inr := inr) (h0 := h0) hx hn hn1 hc k (i + 1) 1 [.int .i64 (i : Int), .int .i64 (intAt xs i)] (by omega) rfl (by omega) hf
        have e : nzEnd xs i (k + 1) = (.exit 0, [(3, .slice (some ⟨1, 0, none⟩) (1 + nzN xs (i + 1) k) (capBig + 1))], [(0, ⟨.old, xs⟩), (1, rtRow ([.int .i64 (i : Int), .int .i64 (intAt xs i)] ++ nzL xs (i + 1) k))]) := by
          have hne : decide (nzN xs i (k + 1) = 0) = false := by simp only [nzN, hz, cond_true, decide_eq_false_iff_not]; omega
          simp only [nzEnd, hne, cond_false]
          simp only [nzN, nzL, hz, cond_true, Nat.add_comm]
          rfl
        rw [e]
        refine LRuns.stepTo (N' := 2) (code_runs hX hL (runZ_ok hX hT hL mixed 5) mixed (rr_more0 inr xs n c i) ?_) rfl (by omega) (by omega) (by omega) (by omega) (fun _ => 2) ?_ ?_ rfl nx
        · simp only [Alls, decide_eq_true_eq, rg]
          repeat' (first | with_reducible exact trivial | with_reducible apply And.intro)
          all_goals first | with_reducible assumption | omega | with_reducible rfl | (first | exact g0 | exact hz)
        · exact ⟨rfl, rb_slc rfl (by unfold capBig; omega), rfl, rb_slg rfl rfl, rfl, rfl, trivial⟩
        · exact ⟨rb_old (by omega) rfl hx.fl, rb_row (m := 2) rfl rfl rfl rfl hf, trivial⟩
theorem rr_spec_ok : LSOk Try.prog 26 [0, 3, 4] (rrB Try.prog) (nzSpec fun n c => rrS n c 0 (.slice none 0 0)) := by
  refine lspec_ok fun a tp xt l2 h2 nx2 d tp' ob hs ho inr ts hn hg => ?_
  obtain ⟨n, c, xs⟩ := a
  simp only at hs hg
  split at hs
  case h_3 => cases hs
  all_goals (
    simp only [Option.some.injEq, Prod.mk.injEq] at hs
    obtain ⟨⟨rfl, rfl, rfl, rfl, rfl⟩, rfl, rfl⟩ := hs
    obtain ⟨hz, hok, hn1, hc, _⟩ := ho
    obtain ⟨hx, hl⟩ := hok
    have key := rr_loop (inr := inr) (h0 := [(0, ⟨.old, xs⟩)]) (n := n) (c := c) hx (by (try simp only at hl); omega) hn1 hc n 0 (by omega))
  · have e : nzEnd xs 0 n = (.exit 0, [(3, .slice none 0 0)], [(0, ⟨.old, xs⟩)]) := by simp only [nzEnd, decide_eq_true hz, cond_true]
    rw [e] at key
    refine LRuns.enter (l2 := rrS n c 0 (.slice none 0 0)) (h := [(0, ⟨.old, xs⟩)]) (h2 := [(0, ⟨.old, xs⟩)]) hn hg (Nat.le_refl 1) (by omega) (fun n => n) ?_ ⟨rb_old (by omega) rfl hx.fl, trivial⟩ rfl key ?_
    · exact ⟨rfl, rb_slc rfl (by unfold capBig; omega), rfl, rfl, rfl, rfl, trivial⟩
    · exact tidy_of (by omega) (fun n hn hd => rfl) rfl
  · have e : nzEnd xs 0 n = (.exit 0, [(3, .slice (some ⟨1, 0, none⟩) (nzN xs 0 n) (capBig + 1))], [(0, ⟨.old, xs⟩), (1, rtRow (nzL xs 0 n))]) := by simp only [nzEnd, decide_eq_false hz, cond_false]
    rw [e] at key
    refine LRuns.enter (l2 := rrS n c 0 (.slice none 0 0)) (h := [(0, ⟨.old, xs⟩)]) (h2 := [(0, ⟨.old, xs⟩)]) hn hg (Nat.le_refl 1) (by omega) (fun n => n) ?_ ⟨rb_old (by omega) rfl hx.fl, trivial⟩ rfl key ?_
    · exact ⟨rfl, rb_slc rfl (by unfold capBig; omega), rfl, rfl, rfl, rfl, trivial⟩
    · exact tidy_of (by omega) (fun n hn hd => (by (try simp only at hn); rw [lk_cons, lk_cons]; obtain rfl : n = 0 := (by omega); rfl)) rfl
theorem ri_gok : GOk Try.prog 23 [.s 1] (gS sNz) := by
  have hX : ∀ L, XOkZ (rlV L) Try.prog := fun L => noXz_ok rfl
  have hT : ∀ L, TOkZ (rlV L) Try.prog := fun L => noTz_okV rfl
  have hL : LOkZ (rlV (nzLw Try.prog)) Try.prog := L_okV rfl (orL_ok (mkL_ok ri_spec_ok) (mkL_ok rr_spec_ok))
  have hL0 : LOkZ (rlV noL) Try.prog := noL_okV rfl
  refine gS_ok (fun tp gr tp' ob hG ho => ?_) (fun xs n c tp gr tp' ob hG ho hfl hl0 hc => ?_)
  · unfold sNz at hG
    split at hG
    case h_3 => cases hG
    all_goals (simp only [Option.some.injEq, Prod.mk.injEq] at hG; obtain ⟨rfl, rfl, rfl⟩ := hG)
    · exact ⟨_, _, _, _, fun n => n, run_tri (hX _) (hT _) hL0 ri_n (by simp [Alls]) rfl, GrIs.flat fun σ => rfl⟩
    · exact absurd rfl ho.2.2.1
  · unfold sNz at hG
    split at hG
    case h_3 => cases hG
    all_goals (simp only [Option.some.injEq, Prod.mk.injEq] at hG; obtain ⟨rfl, rfl, rfl⟩ := hG; obtain ⟨hx, hn1, hz, _⟩ := ho; have hok : okI xs n := ⟨hx, hl0⟩)
    · refine ⟨_, _, _, _, fun n => n, run_tri (hX _) (hT _) hL (ri_z xs n c) ?_ rfl, GrIs.flat fun σ => rfl⟩
      simp only [Alls]; repeat' (first | with_reducible exact trivial | with_reducible apply And.intro)
      all_goals first | with_reducible assumption | omega | with_reducible rfl | (rfl)
    · refine ⟨_, _, _, _, fun _ => 1, run_tri (hX _) (hT _) hL (ri_w xs n c) ?_ rfl, GrIs.big rfl (nzL_Ints xs n 0).fl⟩
      simp only [Alls]; repeat' (first | with_reducible exact trivial | with_reducible apply And.intro)
      all_goals first | with_reducible assumption | omega | with_reducible rfl | (rfl)
theorem rr_gok : GOk Try.prog 24 [.s 1] (gS sNz) := by
  have hX : ∀ L, XOkZ (rlV L) Try.prog := fun L => noXz_ok rfl
  have hT : ∀ L, TOkZ (rlV L) Try.prog := fun L => noTz_okV rfl
  have hL : LOkZ (rlV (nzLw Try.prog)) Try.prog := L_okV rfl (orL_ok (mkL_ok ri_spec_ok) (mkL_ok rr_spec_ok))
  have hL0 : LOkZ (rlV noL) Try.prog := noL_okV rfl
  refine gS_ok (fun tp gr tp' ob hG ho => ?_) (fun xs n c tp gr tp' ob hG ho hfl hl0 hc => ?_)
  · unfold sNz at hG
    split at hG
    case h_3 => cases hG
    all_goals (simp only [Option.some.injEq, Prod.mk.injEq] at hG; obtain ⟨rfl, rfl, rfl⟩ := hG)
    · exact ⟨_, _, _, _, fun n => n, run_tri (hX _) (hT _) hL0 rr_n (by simp [Alls]) rfl, GrIs.flat fun σ => rfl⟩
    · exact absurd rfl ho.2.2.1
  · unfold sNz at hG
    split at hG
    case h_3 => cases hG
    all_goals (simp only [Option.some.injEq, Prod.mk.injEq] at hG; obtain ⟨rfl, rfl, rfl⟩ := hG; obtain ⟨hx, hn1, hz, _⟩ := ho; have hok : okI xs n := ⟨hx, hl0⟩)
    · refine ⟨_, _, _, _, fun n => n, run_tri (hX _) (hT _) hL (rr_z xs n c) ?_ rfl, GrIs.flat fun σ => rfl⟩
      simp only [Alls]; repeat' (first | with_reducible exact trivial | with_reducible apply And.intro)
      all_goals first | with_reducible assumption | omega | with_reducible rfl | (rfl)
    · refine ⟨_, _, _, _, fun _ => 1, run_tri (hX _) (hT _) hL (rr_w xs n c) ?_ rfl, GrIs.big rfl (nzL_Ints xs n 0).fl⟩
      simp only [Alls]; repeat' (first | with_reducible exact trivial | with_reducible apply And.intro)
      all_goals first | with_reducible assumption | omega | with_reducible rfl | (rfl)
end Go.Proofs.Ytmjmdjcgjmjigaa
/-
  Chapter 19: the document's chains: a contract.
-/
namespace Go.Proofs.Ytmjmdjcgjmjigaa
set_option linter.unusedSimpArgs false
set_option linter.unusedVariables false
set_option linter.unusedSectionVars false
open Go Go.RowKit

def rpV (L : LFun) : Tv := ⟨noTz, noXz, L, tbl 21 [9, 16, 22], allSy 21 [], fun _ => [], fun _ => 0⟩
def rpB (P : Program) : Code := bodyIn P 21 4
def rpS (n c i f : Nat) (out : Value) : List (Nat × Value) := [(0, .slice (some ⟨0, 0, none⟩) n c), (3, out), (4, .int .i64 (f : Int)), (5, .int .i64 (i : Int))]
def spRow (ys : List Value) : Rw := ⟨.room 3 [.int .i64 0, .int .i64 0, .bool false], ys⟩
theorem rp_skip0 (inr : Bool) (xs : List Value) (n c i f : Nat) : prjZ [0, 3, 4, 5] (codeZ (rpV noL) Try.prog (runZ (rpV noL) Try.prog 5) 21 inr 100000 (rpB Try.prog) (SL 37 (rpS n c i f (.slice none 0 0))) [(0, ⟨.old, xs⟩)] 1 [true, true, true]) =
  Res.ok ((Xt.normal, (37 : Nat), [((0 : Nat), Value.slice (some (Addr.mk (0 : Nat) (0 : Nat) none)) n c), ((3 : Nat), Value.slice none (0 : Nat) (0 : Nat)), ((4 : Nat), Value.int IntKind.i64 (↑f : Int)), ((5 : Nat),
 Value.int IntKind.i64 (↑(i + (1 : Nat)) : Int))], [((0 : Nat), Rw.mk Kd.old xs)], (1 : Nat), [], []), [], [decide ((↑i : Int) < (↑n : Int)) = true, (0 : Int) ≤ (↑i : Int) ∧ (↑i : Int) < (↑n : Int), xs[i]? = some
 (Value.bool (boolAt xs i)), boolAt xs i = true, rg IntKind.i64 ((↑n : Int) - (1 : Int)), (bif true then decide ((↑i : Int) < (↑n : Int) - (1 : Int)) else false) = true, rg IntKind.i64 (↑(i + (1 : Nat)) : Int)]) := by kernel_rfl
theorem rp_skip1 (inr : Bool) (xs ys : List Value) (n c i f m : Nat) : prjZ [0, 3, 4, 5] (codeZ (rpV noL) Try.prog (runZ (rpV noL) Try.prog 5) 21 inr 100000 (rpB Try.prog) (SL 37 (rpS n c i f (.slice (some ⟨1, 0, none⟩) m (capBig + 1)))) [(0, ⟨.old, xs⟩), (1, spRow ys)] 2 [true, true, true]) =
  Res.ok ((Xt.normal, (37 : Nat), [((0 : Nat), Value.slice (some (Addr.mk (0 : Nat) (0 : Nat) none)) n c), ((3 : Nat), Value.slice (some (Addr.mk (1 : Nat) (0 : Nat) none)) m (capBig + (1 : Nat))), ((4 : Nat), Value.int
 IntKind.i64 (↑f : Int)), ((5 : Nat), Value.int IntKind.i64 (↑(i + (1 : Nat)) : Int))], [((0 : Nat), Rw.mk Kd.old xs), ((1 : Nat), Rw.mk (Kd.room (3 : Nat) [Value.int IntKind.i64 (0 : Int), Value.int IntKind.i64 (0 : Int),
 Value.bool false]) ys)], (2 : Nat), [], []), [], [decide ((↑i : Int) < (↑n : Int)) = true, (0 : Int) ≤ (↑i : Int) ∧ (↑i : Int) < (↑n : Int), xs[i]? = some (Value.bool (boolAt xs i)), boolAt xs i = true, rg IntKind.i64
 ((↑n : Int) - (1 : Int)), (bif true then decide ((↑i : Int) < (↑n : Int) - (1 : Int)) else false) = true, rg IntKind.i64 (↑(i + (1 : Nat)) : Int)]) := by kernel_rfl
theorem rp_cut0 (inr : Bool) (xs : List Value) (n c i f : Nat) : prjZ [0, 3, 4, 5] (codeZ (rpV noL) Try.prog (runZ (rpV noL) Try.prog 5) 21 inr 100000 (rpB Try.prog) (SL 37 (rpS n c i f (.slice none 0 0))) [(0, ⟨.old, xs⟩)] 1 [true, false, false]) =
  Res.ok ((Xt.normal, (37 : Nat), [((0 : Nat), Value.slice (some (Addr.mk (0 : Nat) (0 : Nat) none)) n c), ((3 : Nat), Value.slice (some (Addr.mk (2 : Nat) (0 : Nat) none)) (1 : Nat) (capBig + (2 : Nat))), ((4 : Nat),
 Value.int IntKind.i64 (↑(i + (1 : Nat)) : Int)), ((5 : Nat), Value.int IntKind.i64 (↑(i + (1 : Nat)) : Int))], [((2 : Nat), Rw.mk (Kd.room (3 : Nat) [Value.int IntKind.i64 (0 : Int), Value.int IntKind.i64 (0 : Int),
 Value.bool false]) [Value.int IntKind.i64 (↑f : Int), Value.int IntKind.i64 (↑(i + (1 : Nat)) : Int), Value.bool (boolAt xs i)]), ((1 : Nat), Rw.mk Kd.shut [Value.int IntKind.i64 (↑f : Int), Value.int IntKind.i64 (↑(i +
 (1 : Nat)) : Int), Value.bool (boolAt xs i)]), ((0 : Nat), Rw.mk Kd.old xs)], (3 : Nat), [], []), [], [decide ((↑i : Int) < (↑n : Int)) = true, (0 : Int) ≤ (↑i : Int) ∧ (↑i : Int) < (↑n : Int), xs[i]? = some (Value.bool
 (boolAt xs i)), boolAt xs i = false, false = false, rg IntKind.i64 (↑(i + (1 : Nat)) : Int), (0 : Int) ≤ (↑i : Int) ∧ (↑i : Int) < (↑n : Int), xs[i]? = some (Value.bool (boolAt xs i)), (1 : Nat) ≠ (0 : Nat), (24 : Nat) ≤
 (140737488355328 : Nat) ∧ (1 : Nat) ≤ (9223372036854775807 : Nat), (3 : Nat) ≤ (3 : Nat), true = true, rg IntKind.i64 (↑(i + (1 : Nat)) : Int), rg IntKind.i64 (↑(i + (1 : Nat)) : Int)]) := by kernel_rfl
theorem rp_cut1 (inr : Bool) (xs ys : List Value) (n c i f m : Nat) : prjZ [0, 3, 4, 5] (codeZ (rpV noL) Try.prog (runZ (rpV noL) Try.prog 5) 21 inr 100000 (rpB Try.prog) (SL 37 (rpS n c i f (.slice (some ⟨1, 0, none⟩) m (capBig + 1)))) [(0, ⟨.old, xs⟩), (1, spRow ys)] 2 [true, false, false]) =
  Res.ok ((Xt.normal, (37 : Nat), [((0 : Nat), Value.slice (some (Addr.mk (0 : Nat) (0 : Nat) none)) n c), ((3 : Nat), Value.slice (some (Addr.mk (3 : Nat) (0 : Nat) none)) (m + (1 : Nat)) (capBig + (3 : Nat))), ((4 : Nat),
 Value.int IntKind.i64 (↑(i + (1 : Nat)) : Int)), ((5 : Nat), Value.int IntKind.i64 (↑(i + (1 : Nat)) : Int))], [((3 : Nat), Rw.mk (Kd.room (3 : Nat) [Value.int IntKind.i64 (0 : Int), Value.int IntKind.i64 (0 : Int),
 Value.bool false]) (ys ++ [Value.int IntKind.i64 (↑f : Int), Value.int IntKind.i64 (↑(i + (1 : Nat)) : Int), Value.bool (boolAt xs i)])), ((2 : Nat), Rw.mk Kd.shut [Value.int IntKind.i64 (↑f : Int), Value.int IntKind.i64
 (↑(i + (1 : Nat)) : Int), Value.bool (boolAt xs i)]), ((0 : Nat), Rw.mk Kd.old xs)], (4 : Nat), [(1 : Nat)], []), [], [decide ((↑i : Int) < (↑n : Int)) = true, (0 : Int) ≤ (↑i : Int) ∧ (↑i : Int) < (↑n : Int), xs[i]? =
 some (Value.bool (boolAt xs i)), boolAt xs i = false, false = false, rg IntKind.i64 (↑(i + (1 : Nat)) : Int), (0 : Int) ≤ (↑i : Int) ∧ (↑i : Int) < (↑n : Int), xs[i]? = some (Value.bool (boolAt xs i)), capBig + (1 : Nat)
 = capBig + (1 : Nat), List.length ys = m * (3 : Nat), (m + (1 : Nat)) * (24 : Nat) ≤ (140737488355328 : Nat) ∧ m + (1 : Nat) ≤ (9223372036854775807 : Nat), (3 : Nat) ≤ (3 : Nat), true = true, rg IntKind.i64 (↑(i + (1 :
 Nat)) : Int), rg IntKind.i64 (↑(i + (1 : Nat)) : Int)]) := by kernel_rfl
theorem rp_last0 (inr : Bool) (xs : List Value) (n c i f : Nat) : prjZ [0, 3, 4, 5] (codeZ (rpV noL) Try.prog (runZ (rpV noL) Try.prog 5) 21 inr 100000 (rpB Try.prog) (SL 37 (rpS n c i f (.slice none 0 0))) [(0, ⟨.old, xs⟩)] 1 [true, true, false]) =
  Res.ok ((Xt.normal, (37 : Nat), [((0 : Nat), Value.slice (some (Addr.mk (0 : Nat) (0 : Nat) none)) n c), ((3 : Nat), Value.slice (some (Addr.mk (2 : Nat) (0 : Nat) none)) (1 : Nat) (capBig + (2 : Nat))), ((4 : Nat),
 Value.int IntKind.i64 (↑(i + (1 : Nat)) : Int)), ((5 : Nat), Value.int IntKind.i64 (↑(i + (1 : Nat)) : Int))], [((2 : Nat), Rw.mk (Kd.room (3 : Nat) [Value.int IntKind.i64 (0 : Int), Value.int IntKind.i64 (0 : Int),
 Value.bool false]) [Value.int IntKind.i64 (↑f : Int), Value.int IntKind.i64 (↑(i + (1 : Nat)) : Int), Value.bool (boolAt xs i)]), ((1 : Nat), Rw.mk Kd.shut [Value.int IntKind.i64 (↑f : Int), Value.int IntKind.i64 (↑(i +
 (1 : Nat)) : Int), Value.bool (boolAt xs i)]), ((0 : Nat), Rw.mk Kd.old xs)], (3 : Nat), [], []), [], [decide ((↑i : Int) < (↑n : Int)) = true, (0 : Int) ≤ (↑i : Int) ∧ (↑i : Int) < (↑n : Int), xs[i]? = some (Value.bool
 (boolAt xs i)), boolAt xs i = true, rg IntKind.i64 ((↑n : Int) - (1 : Int)), (bif true then decide ((↑i : Int) < (↑n : Int) - (1 : Int)) else false) = false, rg IntKind.i64 (↑(i + (1 : Nat)) : Int), (0 : Int) ≤ (↑i : Int)
 ∧ (↑i : Int) < (↑n : Int), xs[i]? = some (Value.bool (boolAt xs i)), (1 : Nat) ≠ (0 : Nat), (24 : Nat) ≤ (140737488355328 : Nat) ∧ (1 : Nat) ≤ (9223372036854775807 : Nat), (3 : Nat) ≤ (3 : Nat), true = true, rg
 IntKind.i64 (↑(i + (1 : Nat)) : Int), rg IntKind.i64 (↑(i + (1 : Nat)) : Int)]) := by kernel_rfl
theorem rp_last1 (inr : Bool) (xs ys : List Value) (n c i f m : Nat) : prjZ [0, 3, 4, 5] (codeZ (rpV noL) Try.prog (runZ (rpV noL) Try.prog 5) 21 inr 100000 (rpB Try.prog) (SL 37 (rpS n c i f (.slice (some ⟨1, 0, none⟩) m (capBig + 1)))) [(0, ⟨.old, xs⟩), (1, spRow ys)] 2 [true, true, false]) =
  Res.ok ((Xt.normal, (37 : Nat), [((0 : Nat), Value.slice (some (Addr.mk (0 : Nat) (0 : Nat) none)) n c), ((3 : Nat), Value.slice (some (Addr.mk (3 : Nat) (0 : Nat) none)) (m + (1 : Nat)) (capBig + (3 : Nat))), ((4 : Nat),
 Value.int IntKind.i64 (↑(i + (1 : Nat)) : Int)), ((5 : Nat), Value.int IntKind.i64 (↑(i + (1 : Nat)) : Int))], [((3 : Nat), Rw.mk (Kd.room (3 : Nat) [Value.int IntKind.i64 (0 : Int), Value.int IntKind.i64 (0 : Int),
 Value.bool false]) (ys ++ [Value.int IntKind.i64 (↑f : Int), Value.int IntKind.i64 (↑(i + (1 : Nat)) : Int), Value.bool (boolAt xs i)])), ((2 : Nat), Rw.mk Kd.shut [Value.int IntKind.i64 (↑f : Int), Value.int IntKind.i64
 (↑(i + (1 : Nat)) : Int), Value.bool (boolAt xs i)]), ((0 : Nat), Rw.mk Kd.old xs)], (4 : Nat), [(1 : Nat)], []), [], [decide ((↑i : Int) < (↑n : Int)) = true, (0 : Int) ≤ (↑i : Int) ∧ (↑i : Int) < (↑n : Int), xs[i]? =
 some (Value.bool (boolAt xs i)), boolAt xs i = true, rg IntKind.i64 ((↑n : Int) - (1 : Int)), (bif true then decide ((↑i : Int) < (↑n : Int) - (1 : Int)) else false) = false, rg IntKind.i64 (↑(i + (1 : Nat)) : Int), (0 :
 Int) ≤ (↑i : Int) ∧ (↑i : Int) < (↑n : Int), xs[i]? = some (Value.bool (boolAt xs i)), capBig + (1 : Nat) = capBig + (1 : Nat), List.length ys = m * (3 : Nat), (m + (1 : Nat)) * (24 : Nat) ≤ (140737488355328 : Nat) ∧ m +
 (1 : Nat) ≤ (9223372036854775807 : Nat), (3 : Nat) ≤ (3 : Nat), true = true, rg IntKind.i64 (↑(i + (1 : Nat)) : Int), rg IntKind.i64 (↑(i + (1 : Nat)) : Int)]) := by kernel_rfl
theorem rp_done0 (inr : Bool) (xs : List Value) (n c i f : Nat) : prjZ [3] (codeZ (rpV noL) Try.prog (runZ (rpV noL) Try.prog 5) 21 inr 100000 (rpB Try.prog) (SL 37 (rpS n c i f (.slice none 0 0))) [(0, ⟨.old, xs⟩)] 1 [false]) =
  Res.ok ((Xt.exit (0 : Nat), (37 : Nat), [((3 : Nat), Value.slice none (0 : Nat) (0 : Nat))], [((0 : Nat), Rw.mk Kd.old xs)], (1 : Nat), [], []), [], [decide ((↑i : Int) < (↑n : Int)) = false]) := by kernel_rfl
theorem rp_done1 (inr : Bool) (xs ys : List Value) (n c i f m : Nat) : prjZ [3] (codeZ (rpV noL) Try.prog (runZ (rpV noL) Try.prog 5) 21 inr 100000 (rpB Try.prog) (SL 37 (rpS n c i f (.slice (some ⟨1, 0, none⟩) m (capBig + 1)))) [(0, ⟨.old, xs⟩), (1, spRow ys)] 2 [false]) =
  Res.ok ((Xt.exit (0 : Nat), (37 : Nat), [((3 : Nat), Value.slice (some (Addr.mk (1 : Nat) (0 : Nat) none)) m (capBig + (1 : Nat)))], [((0 : Nat), Rw.mk Kd.old xs), ((1 : Nat), Rw.mk (Kd.room (3 : Nat) [Value.int
 IntKind.i64 (0 : Int), Value.int IntKind.i64 (0 : Int), Value.bool false]) ys)], (2 : Nat), [], []), [], [decide ((↑i : Int) < (↑n : Int)) = false]) := by kernel_rfl
def rpSpec : LSpec := lspec (fun live h => match live, h with | [(_, .slice _ n c), _, _, _], [(_, r)] => some (n, c, r.cs) | _, _ => none) (fun a => (rpS a.1 a.2.1 0 0 (.slice none 0 0), [(0, ⟨.old, a.2.2⟩)], 1))
  (fun a tp => match tp with
    | true :: tp' => some ((.exit 0, [(3, .slice none 0 0)], [(0, ⟨.old, a.2.2⟩)], 9, []), tp', [a.1 = 0, okB a.2.2 a.1, a.1 ≤ 1000, a.1 ≤ a.2.1 ∧ a.2.1 ≤ 9223372036854775807])
    | false :: tp' => some ((.exit 0, [(3, .slice (some ⟨1, 0, none⟩) (spN a.2.2) (capBig + 1))], [(0, ⟨.old, a.2.2⟩), (1, spRow (spL a.2.2))], 9, []), tp', [0 < a.1, okB a.2.2 a.1, a.1 ≤ 1000, a.1 ≤ a.2.1 ∧ a.2.1 ≤ 9223372036854775807])
    | [] => none)
def rpL (P : Program) : LFun := mkL 21 4 37 [0, 3, 4, 5] (rpB P) rpSpec
def sSr : Spec1 := fun xs n tp => match tp with
  | true :: tp => some (⟨fun _ => .slice none 0 0, []⟩, tp, [n = 0])
  | false :: tp => some (⟨fun nx => .slice (some ⟨nx, 0, none⟩) (spN xs) (capBig + nx), [spRow (spL xs)]⟩, tp, [0 < n, n ≤ 1000, Bols xs])
  | [] => none
theorem rp_n  : runZ (rpV noL) Try.prog 5 21 [.slice none 0 0] [] 1 [false] =
  Res.ok ((Value.slice none (0 : Nat) (0 : Nat), [], (1 : Nat), []), [], [false = false]) := by kernel_rfl
theorem rp_e (xs : List Value) (c : Nat) : runZ (rpV noL) Try.prog 5 21 [.slice (some ⟨0, 0, none⟩) 0 c] [(0, ⟨.old, xs⟩)] 1 [false] =
  Res.ok ((Value.slice none (0 : Nat) (0 : Nat), [((0 : Nat), Rw.mk Kd.old xs)], (1 : Nat), []), [], [false = false]) := by kernel_rfl
theorem rp_w (xs : List Value) (n c : Nat) : runZ (rpV (rpL Try.prog)) Try.prog 5 21 [.slice (some ⟨0, 0, none⟩) n c] [(0, ⟨.old, xs⟩)] 1 [false] =
  Res.ok ((Value.slice (some (Addr.mk (1 : Nat) (0 : Nat) none)) (spN xs) (capBig + (1 : Nat)), [((0 : Nat), Rw.mk Kd.old xs), ((1 : Nat), Rw.mk (Kd.room (3 : Nat) [Value.int IntKind.i64 (0 : Int), Value.int IntKind.i64 (0
 : Int), Value.bool false]) (spL xs))], (9 : Nat), []), [], [rpB Try.prog = rpB Try.prog, [((0 : Nat), Value.slice (some (Addr.mk (0 : Nat) (0 : Nat) none)) n c), ((3 : Nat), Value.slice none (0 : Nat) (0 : Nat)), ((4 :
 Nat), Value.int IntKind.i64 (0 : Int)), ((5 : Nat), Value.int IntKind.i64 (0 : Int))] = rpS n c (0 : Nat) (0 : Nat) (Value.slice none (0 : Nat) (0 : Nat)), [((0 : Nat), Rw.mk Kd.old xs)] = [((0 : Nat), Rw.mk Kd.old xs)],
 (1 : Nat) = (1 : Nat), (0 : Nat) < n, okB xs n, n ≤ (1000 : Nat), n ≤ c ∧ c ≤ (9223372036854775807 : Nat)]) := by kernel_rfl
theorem spnCells_cons (x : Spn) (l : List Spn) : spnCells (x :: l) = [.int .i64 (x.1 : Int), .int .i64 (x.2.1 : Int), .bool x.2.2] ++ spnCells l := by simp [spnCells]
theorem bools_at {xs : List Value} (h : Bols xs) {i : Nat} (hi : i < xs.length) : (boolsOf xs).getD i false = boolAt xs i := by
  have hl : (boolsOf xs).length = xs.length := by simp [boolsOf]
  rw [h, boolsOf_cells]
  exact (boolAt_cells (by omega)).symm
theorem rp_loop1 {inr : Bool} {h0 : Hp} {xs : List Value} {n c : Nat} (hx : Bols xs) (hn : xs.length = n) (hn1 : n ≤ 1000) (hc : n ≤ c ∧ c ≤ 9223372036854775807) : ∀ (k i f m : Nat) (ys : List Value), i + k = n → f ≤ i → ys.length = m * 3 → m ≤ i → Fl ys →
    LRuns inr Try.prog (rpB Try.prog) 1 9 h0 37 (rpS n c i f (.slice (some ⟨1, 0, none⟩) m (capBig + 1))) [(0, ⟨.old, xs⟩), (1, spRow ys)] 2
      (.exit 0, [(3, .slice (some ⟨1, 0, none⟩) (m + (spansFrom f i ((boolsOf xs).drop i)).length) (capBig + 1))], [(0, ⟨.old, xs⟩), (1, spRow (ys ++ spnCells (spansFrom f i ((boolsOf xs).drop i))))])
  | 0, i, f, m, ys, hk, hfi, hl, hm, hf => by
      have hX : XOkZ (rpV noL) Try.prog := noXz_ok rfl
      have hT : TOkZ (rpV noL) Try.prog := noTz_okV rfl
      have hL : LOkZ (rpV noL) Try.prog := noL_okV rfl
      have hbl : (boolsOf xs).length = xs.length := by simp [boolsOf]
      rw [List.drop_eq_nil_of_le (by omega)]
      have e1 : spansFrom f i [] = [] := by simp [spansFrom]
      rw [e1]
      simp only [List.length_nil, Nat.add_zero]
      have e2 : ys ++ spnCells [] = ys := by simp [spnCells]
      rw [e2]
      refine LRuns.exit (code_runs hX hL (runZ_ok hX hT hL mixed 5) mixed (rp_done1 inr xs ys n c i f m) ?_) (by intro e; cases e) rfl (by omega) (by omega) (fun n => n) ?_ ?_ rfl
      · simp only [Alls, decide_eq_false_iff_not]
        repeat' (first | with_reducible exact trivial | with_reducible apply And.intro)
        all_goals first | with_reducible assumption | omega | with_reducible rfl | (skip)
      · exact ⟨rfl, rb_slg rfl rfl, trivial⟩
      · exact ⟨rb_old (by omega) rfl hx.fl, rb_row (m := 1) rfl rfl rfl rfl hf, trivial⟩
  | k + 1, i, f, m, ys, hk, hfi, hl, hm, hf => by
      have hX : XOkZ (rpV noL) Try.prog := noXz_ok rfl
      have hT : TOkZ (rpV noL) Try.prog := noTz_okV rfl
      have hL : LOkZ (rpV noL) Try.prog := noL_okV rfl
      have hbl : (boolsOf xs).length = xs.length := by simp [boolsOf]
      have g0 := hx.get (i := i) (by omega)
      have hbg := bools_at hx (i := i) (by omega)
      have cut : ∀ (hcut : (boolsOf xs).getD i false = false ∨ i + 1 = (boolsOf xs).length), LRuns inr Try.prog (rpB Try.prog) 1 9 h0 37 (rpS n c (i + 1) (i + 1) (.slice (some ⟨1, 0, none⟩) (m + 1) (capBig + 1))) [(0, ⟨.old, xs⟩), (1, spRow (ys ++ [.int .i64 (f : Int), .int .i64 ((i + 1 : Nat) : Int), .bool (boolAt xs i)]))] 2
          (.exit 0, [(3, .slice (some ⟨1, 0, none⟩) (m + (spansFrom f i ((boolsOf xs).drop i)).length) (capBig + 1))], [(0, ⟨.old, xs⟩), (1, spRow (ys ++ spnCells (spansFrom f i ((boolsOf xs).drop i))))]) := fun hcut => by
        rw [spansFrom_cut f i (boolsOf xs) (by omega) hcut, hbg, spnCells_cons, List.length_cons, ← List.append_assoc, show m + ((spansFrom (i + 1) (i + 1) ((boolsOf xs).drop (i + 1))).length + 1) = (m + 1) + (spansFrom (i + 1) (i + 1) ((boolsOf xs).drop (i + 1))).length by omega]
        exact rp_loop1 hx hn hn1 hc k (i + 1) (i + 1) (m + 1) _ (by omega) (by omega) (by rw [List.length_append, hl]; simp; omega) (by omega) (hf.app (Fl.of rfl))
      have hex : Fl (ys ++ [.int .i64 (f : Int), .int .i64 ((i + 1 : Nat) : Int), .bool (boolAt xs i)]) := hf.app (Fl.of rfl)
      cases hbi : boolAt xs i
      · refine LRuns.step (code_runs hX hL (runZ_ok hX hT hL mixed 5) mixed (rp_cut1 inr xs ys n c i f m) ?_) rfl (by omega) (by omega) (fun _ => 3) ?_ ?_ rfl (cut (.inl (by rw [hbg, hbi])))
        ·
          simp only [Alls, decide_eq_true_eq, rg, cond_true]
          repeat' (first | with_reducible exact trivial | with_reducible apply And.intro)
          all_goals first | with_reducible assumption | omega | with_reducible rfl | (first | exact g0 | exact hbi | (simp only [decide_eq_true_eq]; omega) | (simp only [decide_eq_false_iff_not]; omega) | exact hl)
        · exact ⟨rfl, rb_slc rfl (by unfold capBig; omega), rfl, rb_slg rfl rfl, rfl, rfl, rfl, rfl, trivial⟩
        · exact ⟨rb_old (by omega) rfl hx.fl, rb_row (m := 3) rfl rfl rfl rfl hex, trivial⟩
      · by_cases hlast : i + 1 < n
        · have nx := rp_loop1 (inr := inr) (h0 := h0) hx hn hn1 hc k (i + 1) f m ys (by omega) (by omega) hl (by omega) hf
          rw [← spansFrom_skip f i (boolsOf xs) (by omega) (by rw [hbg, hbi])] at nx
          refine LRuns.step (code_runs hX hL (runZ_ok hX hT hL mixed 5) mixed (rp_skip1 inr xs ys n c i f m) ?_) rfl (by omega) (by omega) (fun n => n) ?_ ?_ rfl nx
          ·
            simp only [Alls, decide_eq_true_eq, rg, cond_true]
            repeat' (first | with_reducible exact trivial | with_reducible apply And.intro)
            all_goals first | with_reducible assumption | omega | with_reducible rfl | (first | exact g0 | exact hbi | (simp only [decide_eq_true_eq]; omega) | (simp only [decide_eq_false_iff_not]; omega) | exact hl)
          · exact ⟨rfl, rb_slc rfl (by unfold capBig; omega), rfl, rb_slg rfl rfl, rfl, rfl, rfl, rfl, trivial⟩
          · exact ⟨rb_old (by omega) rfl hx.fl, rb_row (m := 1) rfl rfl rfl rfl hf, trivial⟩
        · refine LRuns.step (code_runs hX hL (runZ_ok hX hT hL mixed 5) mixed (rp_last1 inr xs ys n c i f m) ?_) rfl (by omega) (by omega) (fun _ => 3) ?_ ?_ rfl (cut (.inr (by omega)))
          ·
            simp only [Alls, decide_eq_true_eq, rg, cond_true]
            repeat' (first | with_reducible exact trivial | with_reducible apply And.intro)
            all_goals first | with_reducible assumption | omega | with_reducible rfl | (first | exact g0 | exact hbi | (simp only [decide_eq_true_eq]; omega) | (simp only [decide_eq_false_iff_not]; omega) | exact hl)
          · exact ⟨rfl, rb_slc rfl (by unfold capBig; omega), rfl, rb_slg rfl rfl, rfl, rfl, rfl, rfl, trivial⟩
          · exact ⟨rb_old (by omega) rfl hx.fl, rb_row (m := 3) rfl rfl rfl rfl hex, trivial⟩
theorem rp_loop {inr : Bool} {h0 : Hp} {xs : List Value} {n c : Nat} (hx : Bols xs) (hn : xs.length = n) (hn1 : n ≤ 1000) (hc : n ≤ c ∧ c ≤ 9223372036854775807) : ∀ (k i f : Nat), i + (k + 1) = n → f ≤ i →
    LRuns inr Try.prog (rpB Try.prog) 1 9 h0 37 (rpS n c i f (.slice none 0 0)) [(0, ⟨.old, xs⟩)] 1
      (.exit 0, [(3, .slice (some ⟨1, 0, none⟩) (spansFrom f i ((boolsOf xs).drop i)).length (capBig + 1))], [(0, ⟨.old, xs⟩), (1, spRow (spnCells (spansFrom f i ((boolsOf xs).drop i))))]) := by
  intro k
  induction k with
  | zero =>
    intro i f hk hfi
    have hX : XOkZ (rpV noL) Try.prog := noXz_ok rfl
    have hT : TOkZ (rpV noL) Try.prog := noTz_okV rfl
    have hL : LOkZ (rpV noL) Try.prog := noL_okV rfl
    have hbl : (boolsOf xs).length = xs.length := by simp [boolsOf]
    have g0 := hx.get (i := i) (by omega)
    have hbg := bools_at hx (i := i) (by omega)
    have hl : ([.int .i64 (f : Int), .int .i64 ((i + 1 : Nat) : Int), .bool (boolAt xs i)] : List Value).length = 1 * 3 := rfl
    have hex : Fl [.int .i64 (f : Int), .int .i64 ((i + 1 : Nat) : Int), .bool (boolAt xs i)] := Fl.of rfl
    have nx := rp_loop1 (inr := inr) (h0 := h0) hx hn hn1 hc 0 (i + 1) (i + 1) 1 _ (by omega) (by omega) hl (by omega) hex
    rw [spansFrom_cut f i (boolsOf xs) (by omega) (.inr (by omega)), hbg, spnCells_cons, List.length_cons, Nat.add_comm _ 1]
    cases hbi : boolAt xs i
    · rw [hbi] at nx
      refine LRuns.stepTo (N' := 2) (code_runs hX hL (runZ_ok hX hT hL mixed 5) mixed (rp_cut0 inr xs n c i f) ?_) rfl (by omega) (by omega) (by omega) (by omega) (fun _ => 2) ?_ ?_ rfl nx
      ·
        simp only [Alls, decide_eq_true_eq, rg, cond_true]
        repeat' (first | with_reducible exact trivial | with_reducible apply And.intro)
        all_goals first | with_reducible assumption | omega | with_reducible rfl | (first | exact g0 | exact hbi | (simp only [decide_eq_true_eq]; omega) | (simp only [decide_eq_false_iff_not]; omega) | exact hl)
      · exact ⟨rfl, rb_slc rfl (by unfold capBig; omega), rfl, rb_slg rfl rfl, rfl, rfl, rfl, rfl, trivial⟩
      · rw [hbi] at hex
        exact ⟨rb_old (by omega) rfl hx.fl, rb_row (m := 2) rfl rfl rfl (by rw [hbi]) hex, trivial⟩
    · rw [hbi] at nx
      refine LRuns.stepTo (N' := 2) (code_runs hX hL (runZ_ok hX hT hL mixed 5) mixed (rp_last0 inr xs n c i f) ?_) rfl (by omega) (by omega) (by omega) (by omega) (fun _ => 2) ?_ ?_ rfl nx
      ·
        simp only [Alls, decide_eq_true_eq, rg, cond_true]
        repeat' (first | with_reducible exact trivial | with_reducible apply And.intro)
        all_goals first | with_reducible assumption | omega | with_reducible rfl | (first | exact g0 | exact hbi | (simp only [decide_eq_true_eq]; omega) | (simp only [decide_eq_false_iff_not]; omega) | exact hl)
      · exact ⟨rfl, rb_slc rfl (by unfold capBig; omega), rfl, rb_slg rfl rfl, rfl, rfl, rfl, rfl, trivial⟩
      · rw [hbi] at hex
        exact ⟨rb_old (by omega) rfl hx.fl, rb_row (m := 2) rfl rfl rfl (by rw [hbi]) hex, trivial⟩
  | succ k ih =>
    intro i f hk hfi
    have hX : XOkZ (rpV noL) Try.prog := noXz_ok rfl
    have hT : TOkZ (rpV noL) Try.prog := noTz_okV rfl
    have hL : LOkZ (rpV noL) Try.prog := noL_okV rfl
    have hbl : (boolsOf xs).length = xs.length := by simp [boolsOf]
    have g0 := hx.get (i := i) (by omega)
    have hbg := bools_at hx (i := i) (by omega)
    cases hbi : boolAt xs i
    · have hl : ([.int .i64 (f : Int), .int .i64 ((i + 1 : Nat) : Int), .bool false] : List Value).length = 1 * 3 := rfl
      have hex : Fl [.int .i64 (f : Int), .int .i64 ((i + 1 : Nat) : Int), .bool false] := Fl.of rfl
      have nx := rp_loop1 (inr := inr) (h0 := h0) hx hn hn1 hc (k + 1) (i + 1) (i + 1) 1 _ (by omega) (by omega) hl (by omega) hex
      rw [spansFrom_cut f i (boolsOf xs) (by omega) (.inl (by rw [hbg, hbi])), hbg, hbi, spnCells_cons, List.length_cons, Nat.add_comm _ 1]
      refine LRuns.stepTo (N' := 2) (code_runs hX hL (runZ_ok hX hT hL mixed 5) mixed (rp_cut0 inr xs n c i f) ?_) rfl (by omega) (by omega) (by omega) (by omega) (fun _ => 2) ?_ ?_ rfl nx
      ·
        simp only [Alls, decide_eq_true_eq, rg, cond_true]
        repeat' (first | with_reducible exact trivial | with_reducible apply And.intro)
        all_goals first | with_reducible assumption | omega | with_reducible rfl | (first | exact g0 | exact hbi | (simp only [decide_eq_true_eq]; omega) | (simp only [decide_eq_false_iff_not]; omega) | exact hl)
      · exact ⟨rfl, rb_slc rfl (by unfold capBig; omega), rfl, rb_slg rfl rfl, rfl, rfl, rfl, rfl, trivial⟩
      · exact ⟨rb_old (by omega) rfl hx.fl, rb_row (m := 2) rfl rfl rfl (by rw [hbi]) hex, trivial⟩
    · have nx := ih (i + 1) f (by omega) (by omega)
      rw [← spansFrom_skip f i (boolsOf xs) (by omega) (by rw [hbg, hbi])] at nx
      refine LRuns.step (code_runs hX hL (runZ_ok hX hT hL mixed 5) mixed (rp_skip0 inr xs n c i f) ?_) rfl (by omega) (by omega) (fun n => n) ?_ ?_ rfl nx
      ·
        simp only [Alls, decide_eq_true_eq, rg, cond_true]
        repeat' (first | with_reducible exact trivial | with_reducible apply And.intro)
        all_goals first | with_reducible assumption | omega | with_reducible rfl | (first | exact g0 | exact hbi | (simp only [decide_eq_true_eq]; omega) | (simp only [decide_eq_false_iff_not]; omega) | exact hl)
      · exact ⟨rfl, rb_slc rfl (by unfold capBig; omega), rfl, rfl, rfl, rfl, rfl, rfl, trivial⟩
      · exact ⟨rb_old (by omega) rfl hx.fl, trivial⟩
theorem rp_spec_ok : LSOk Try.prog 37 [0, 3, 4, 5] (rpB Try.prog) rpSpec := by
  refine lspec_ok fun a tp xt l2 h2 nx2 d tp' ob hs ho inr ts hn hg => ?_
  obtain ⟨n, c, xs⟩ := a
  simp only at hs hg
  have hrb : ∀ {h : Hp} {N : Nat}, n ≤ c ∧ c ≤ 9223372036854775807 → RbT (sgf 1 1 fun n => n) (rpS n c 0 0 (.slice none 0 0)) (rpS n c 0 0 (.slice none 0 0)) := fun hc => ⟨rfl, rb_slc rfl (by unfold capBig; omega), rfl, rfl, rfl, rfl, rfl, rfl, trivial⟩
  split at hs
  case h_3 => cases hs
  all_goals (
    simp only [Option.some.injEq, Prod.mk.injEq] at hs
    obtain ⟨⟨rfl, rfl, rfl, rfl, rfl⟩, rfl, rfl⟩ := hs
    obtain ⟨hz, hok, hn1, hc, _⟩ := ho
    obtain ⟨hx, hl⟩ := hok)
  · (try simp only at hz hl)
    subst hz
    have hX : XOkZ (rpV noL) Try.prog := noXz_ok rfl
    have hT : TOkZ (rpV noL) Try.prog := noTz_okV rfl
    have hL : LOkZ (rpV noL) Try.prog := noL_okV rfl
    have key : LRuns inr Try.prog (rpB Try.prog) 1 9 [(0, ⟨.old, xs⟩)] 37 (rpS 0 c 0 0 (.slice none 0 0)) [(0, ⟨.old, xs⟩)] 1 (.exit 0, [(3, .slice none 0 0)], [(0, ⟨.old, xs⟩)]) := by
      refine LRuns.exit (code_runs hX hL (runZ_ok hX hT hL mixed 5) mixed (rp_done0 inr xs 0 c 0 0) ?_) (by intro e; cases e) rfl (by omega) (by omega) (fun n => n) ?_ ?_ rfl
      · simp [Alls]
      · exact ⟨rfl, rfl, trivial⟩
      · exact ⟨rb_old (by omega) rfl hx.fl, trivial⟩
    refine LRuns.enter (l2 := rpS 0 c 0 0 (.slice none 0 0)) (h := [(0, ⟨.old, xs⟩)]) (h2 := [(0, ⟨.old, xs⟩)]) hn hg (Nat.le_refl 1) (by omega) (fun n => n) (hrb (h := []) (N := 0) hc) ⟨rb_old (by omega) rfl hx.fl, trivial⟩ rfl key ?_
    exact tidy_of (by omega) (fun n hn hd => rfl) rfl
  · obtain ⟨k, rfl⟩ : ∃ k, n = k + 1 := ⟨n - 1, by (try simp only at hz); omega⟩
    have key := rp_loop (inr := inr) (h0 := [(0, ⟨.old, xs⟩)]) hx (by (try simp only at hl); omega) hn1 hc k 0 0 (by omega) (by omega)
    refine LRuns.enter (l2 := rpS (k + 1) c 0 0 (.slice none 0 0)) (h := [(0, ⟨.old, xs⟩)]) (h2 := [(0, ⟨.old, xs⟩)]) hn hg (Nat.le_refl 1) (by omega) (fun n => n) (hrb (h := []) (N := 0) hc) ⟨rb_old (by omega) rfl hx.fl, trivial⟩ rfl key ?_
    exact tidy_of (by omega) (fun n hn hd => (by (try simp only at hn); rw [lk_cons, lk_cons]; obtain rfl : n = 0 := (by omega); rfl)) rfl
theorem sr_gok : GOk Try.prog 21 [.s 1] (gS sSr) := by
  have hX : ∀ L, XOkZ (rpV L) Try.prog := fun L => noXz_ok rfl
  have hT : ∀ L, TOkZ (rpV L) Try.prog := fun L => noTz_okV rfl
  have hL : LOkZ (rpV (rpL Try.prog)) Try.prog := L_okV rfl (mkL_ok rp_spec_ok)
  have hL0 : LOkZ (rpV noL) Try.prog := noL_okV rfl
  refine gS_ok (fun tp gr tp' ob hG ho => ?_) (fun xs n c tp gr tp' ob hG ho hfl hl0 hc => ?_)
  · unfold sSr at hG
    split at hG
    case h_3 => cases hG
    all_goals (simp only [Option.some.injEq, Prod.mk.injEq] at hG; obtain ⟨rfl, rfl, rfl⟩ := hG)
    · exact ⟨_, _, _, _, fun n => n, run_tri (hX _) (hT _) hL0 rp_n (by simp [Alls]) rfl, GrIs.flat fun σ => rfl⟩
    · exact absurd ho.1 (by omega)
  · unfold sSr at hG
    split at hG
    case h_3 => cases hG
    all_goals (simp only [Option.some.injEq, Prod.mk.injEq] at hG; obtain ⟨rfl, rfl, rfl⟩ := hG)
    · obtain ⟨rfl, _⟩ := ho
      exact ⟨_, _, _, _, fun n => n, run_tri (hX _) (hT _) hL0 (rp_e xs c) (by simp [Alls]) rfl, GrIs.flat fun σ => rfl⟩
    · obtain ⟨hn, hn1, hx, _⟩ := ho
      have hok : okB xs n := ⟨hx, hl0⟩
      refine ⟨_, _, _, _, fun _ => 1, run_tri (hX _) (hT _) hL (rp_w xs n c) ?_ rfl, GrIs.big rfl (spnCells_Fl _)⟩
      simp only [Alls]; repeat' (first | with_reducible exact trivial | with_reducible apply And.intro)
      all_goals first | with_reducible assumption | omega | with_reducible rfl | (rfl)
end Go.Proofs.Ytmjmdjcgjmjigaa
/-
  Chapter 19: the document's failed: a contract.
-/
namespace Go.Proofs.Ytmjmdjcgjmjigaa
set_option linter.unusedSimpArgs false
set_option linter.unusedVariables false
set_option linter.unusedSectionVars false
open Go Go.RowKit

def rfV (L : LFun) : Tv := ⟨noTz, noXz, L, tbl 37 [11, 18], exSy 37 [3, 7, 10] [], fun _ => [], fun _ => 0⟩
def rfB (P : Program) : Code := bodyIn P 37 2
def rfS (n c : Nat) (j : Int) : List (Nat × Value) := [(0, .slice (some ⟨0, 0, none⟩) n c), (3, .pointer (some ⟨2, 0, none⟩)), (5, .int .i64 j)]
def rfH (xs : List Value) (a b : Int) (o : Bool) : Hp := [(2, ⟨.shut, [.int .i64 a, .int .i64 b, .bool o]⟩), (0, ⟨.old, xs⟩)]
theorem rf_more (inr : Bool) (xs : List Value) (n c : Nat) (a b : Int) (o : Bool) (j : Int) : prjZ [0, 3, 5] (codeZ (rfV noL) Try.prog (runZ (rfV noL) Try.prog 5) 37 inr 100000 (rfB Try.prog) (SL 20 (rfS n c j)) (rfH xs a b o) 3 [true, false]) =
  Res.ok ((Xt.normal, (20 : Nat), [((0 : Nat), Value.slice (some (Addr.mk (0 : Nat) (0 : Nat) none)) n c), ((3 : Nat), Value.pointer (some (Addr.mk (2 : Nat) (0 : Nat) none))), ((5 : Nat), Value.int IntKind.i64 (adI j (1 :
 Int)))], [((2 : Nat), Rw.mk Kd.shut [Value.int IntKind.i64 a, Value.int IntKind.i64 b, Value.bool o]), ((0 : Nat), Rw.mk Kd.old xs)], (3 : Nat), [], []), [], [decide (j < b) = true, (0 : Int) ≤ j ∧ j < (↑n : Int),
 xs[Int.toNat j]? = some (Value.int IntKind.i64 (intAt xs (Int.toNat j))), (intAt xs (Int.toNat j) != (0 : Int)) = false, rg IntKind.i64 (adI j (1 : Int))]) := by kernel_rfl
theorem rf_hit (inr : Bool) (xs : List Value) (n c : Nat) (a b : Int) (o : Bool) (j : Int) : prjZ [4] (codeZ (rfV noL) Try.prog (runZ (rfV noL) Try.prog 5) 37 inr 100000 (rfB Try.prog) (SL 20 (rfS n c j)) (rfH xs a b o) 3 [true, true]) =
  Res.ok ((Xt.ret, (20 : Nat), [((4 : Nat), Value.int IntKind.i64 j)], [((2 : Nat), Rw.mk Kd.shut [Value.int IntKind.i64 a, Value.int IntKind.i64 b, Value.bool o]), ((0 : Nat), Rw.mk Kd.old xs)], (3 : Nat), [], []), [],
 [decide (j < b) = true, (0 : Int) ≤ j ∧ j < (↑n : Int), xs[Int.toNat j]? = some (Value.int IntKind.i64 (intAt xs (Int.toNat j))), (intAt xs (Int.toNat j) != (0 : Int)) = true]) := by kernel_rfl
theorem rf_done (inr : Bool) (xs : List Value) (n c : Nat) (a b : Int) (o : Bool) (j : Int) : prjZ [0] (codeZ (rfV noL) Try.prog (runZ (rfV noL) Try.prog 5) 37 inr 100000 (rfB Try.prog) (SL 20 (rfS n c j)) (rfH xs a b o) 3 [false]) =
  Res.ok ((Xt.exit (0 : Nat), (20 : Nat), [((0 : Nat), Value.slice (some (Addr.mk (0 : Nat) (0 : Nat) none)) n c)], [((2 : Nat), Rw.mk Kd.shut [Value.int IntKind.i64 a, Value.int IntKind.i64 b, Value.bool o]), ((0 : Nat),
 Rw.mk Kd.old xs)], (3 : Nat), [], []), [], [decide (j < b) = false]) := by kernel_rfl
theorem rf_n (a b : Int) (o : Bool) : runZ (rfV noL) Try.prog 5 37 [.slice none 0 0, .agg ⟨[.int .i64 a, .int .i64 b, .bool o]⟩] [] 2 [false] =
  Res.ok ((Value.int IntKind.i64 (Int.negSucc (nat_lit 0)), [], (3 : Nat), []), [], [decide (a < b) = false]) := by kernel_rfl
/-- The place of the first code that is not 0; -1: there is none. -/
def rfF (xs : List Value) (j : Int) : Nat → Int
  | 0 => Int.negSucc (nat_lit 0)
  | d + 1 => bif intAt xs j.toNat != 0 then j else rfF xs (j + 1) d
def rfSpec : LSpec := lspec (fun live h => match live, h with | [(_, .slice _ n c), _, _], [(_, ⟨_, [.int _ a, .int _ b, .bool o]⟩), (_, r)] => some (n, c, r.cs, a, b, o) | _, _ => none) (fun q => (rfS q.1 q.2.1 q.2.2.2.1, rfH q.2.2.1 q.2.2.2.1 q.2.2.2.2.1 q.2.2.2.2.2, 3))
  (fun q tp => match tp with
    | true :: tp' => some ((.exit 0, [], rfH q.2.2.1 q.2.2.2.1 q.2.2.2.2.1 q.2.2.2.2.2, 9, []), tp', [rfF q.2.2.1 q.2.2.2.1 (q.2.2.2.2.1 - q.2.2.2.1).toNat = Int.negSucc (nat_lit 0), okI q.2.2.1 q.1, 0 ≤ q.2.2.2.1 ∧ q.2.2.2.1 ≤ q.2.2.2.2.1 ∧ q.2.2.2.2.1 ≤ (q.1 : Int), q.1 ≤ 1000, q.1 ≤ q.2.1 ∧ q.2.1 ≤ 9223372036854775807])
    | false :: tp' => some ((.ret, [(4, .int .i64 (rfF q.2.2.1 q.2.2.2.1 (q.2.2.2.2.1 - q.2.2.2.1).toNat))], rfH q.2.2.1 q.2.2.2.1 q.2.2.2.2.1 q.2.2.2.2.2, 9, []), tp', [rfF q.2.2.1 q.2.2.2.1 (q.2.2.2.2.1 - q.2.2.2.1).toNat ≠ Int.negSucc (nat_lit 0), okI q.2.2.1 q.1, 0 ≤ q.2.2.2.1 ∧ q.2.2.2.1 ≤ q.2.2.2.2.1 ∧ q.2.2.2.2.1 ≤ (q.1 : Int), q.1 ≤ 1000, q.1 ≤ q.2.1 ∧ q.2.1 ≤ 9223372036854775807])
    | [] => none)
def rfL (P : Program) : LFun := mkL 37 2 20 [0, 3, 5] (rfB P) rfSpec
theorem rf_z (xs : List Value) (n c : Nat) (a b : Int) (o : Bool) : prjV (runZ (rfV (rfL Try.prog)) Try.prog 5 37 [.slice (some ⟨0, 0, none⟩) n c, .agg ⟨[.int .i64 a, .int .i64 b, .bool o]⟩] [(0, ⟨.old, xs⟩)] 2 [true]) =
  Res.ok (Value.int IntKind.i64 (Int.negSucc (nat_lit 0)), [], [rfB Try.prog = rfB Try.prog, [((0 : Nat), Value.slice (some (Addr.mk (0 : Nat) (0 : Nat) none)) n c), ((3 : Nat), Value.pointer (some (Addr.mk (2 : Nat) (0 :
 Nat) none))), ((5 : Nat), Value.int IntKind.i64 a)] = rfS n c a, [((2 : Nat), Rw.mk Kd.shut [Value.int IntKind.i64 a, Value.int IntKind.i64 b, Value.bool o]), ((0 : Nat), Rw.mk Kd.old xs)] = rfH xs a b o, (3 : Nat) = (3 :
 Nat), rfF xs a (Int.toNat (b - a)) = Int.negSucc (nat_lit 0), okI xs n, (0 : Int) ≤ a ∧ a ≤ b ∧ b ≤ (↑n : Int), n ≤ (1000 : Nat), n ≤ c ∧ c ≤ (9223372036854775807 : Nat)]) := by kernel_rfl
theorem rf_w (xs : List Value) (n c : Nat) (a b : Int) (o : Bool) : prjV (runZ (rfV (rfL Try.prog)) Try.prog 5 37 [.slice (some ⟨0, 0, none⟩) n c, .agg ⟨[.int .i64 a, .int .i64 b, .bool o]⟩] [(0, ⟨.old, xs⟩)] 2 [false]) =
  Res.ok (Value.int IntKind.i64 (rfF xs a (Int.toNat (b - a))), [], [rfB Try.prog = rfB Try.prog, [((0 : Nat), Value.slice (some (Addr.mk (0 : Nat) (0 : Nat) none)) n c), ((3 : Nat), Value.pointer (some (Addr.mk (2 : Nat)
 (0 : Nat) none))), ((5 : Nat), Value.int IntKind.i64 a)] = rfS n c a, [((2 : Nat), Rw.mk Kd.shut [Value.int IntKind.i64 a, Value.int IntKind.i64 b, Value.bool o]), ((0 : Nat), Rw.mk Kd.old xs)] = rfH xs a b o, (3 : Nat) =
 (3 : Nat), rfF xs a (Int.toNat (b - a)) ≠ Int.negSucc (nat_lit 0), okI xs n, (0 : Int) ≤ a ∧ a ≤ b ∧ b ≤ (↑n : Int), n ≤ (1000 : Nat), n ≤ c ∧ c ≤ (9223372036854775807 : Nat)]) := by kernel_rfl
def gRf : GSpec := fun av tp => match av with
  | [s, .fl (.agg ⟨[.int .i64 a, .int .i64 b, .bool o]⟩)] => (match bytsA s with
    | some xs => some (⟨fun _ => .int .i64 (rfF xs a (b - a).toNat), []⟩, tp, [okI xs (avLen s), 0 ≤ a ∧ a ≤ b ∧ b ≤ (avLen s : Int), avLen s ≤ 1000])
    | none => none)
  | _ => none
def rfEnd (xs : List Value) (a b : Int) (o : Bool) (j : Int) (d : Nat) : LO := bif decide (rfF xs j d = Int.negSucc (nat_lit 0)) then (.exit 0, [], rfH xs a b o) else (.ret, [(4, .int .i64 (rfF xs j d))], rfH xs a b o)
theorem rf_loop {inr : Bool} {h0 : Hp} {xs : List Value} {n c : Nat} {a b : Int} {o : Bool} (hx : Ints .i64 xs) (hn : xs.length = n) (hn1 : n ≤ 1000) (hc : n ≤ c ∧ c ≤ 9223372036854775807) (hb : b ≤ (n : Int)) : ∀ (d : Nat) (j : Int), 0 ≤ j → j + (d : Int) = b →
    LRuns inr Try.prog (rfB Try.prog) 3 9 h0 20 (rfS n c j) (rfH xs a b o) 3 (rfEnd xs a b o j d)
  | 0, j, hj, hd => by
      have hX : XOkZ (rfV noL) Try.prog := noXz_ok rfl
      have hT : TOkZ (rfV noL) Try.prog := noTz_okV rfl
      have hL : LOkZ (rfV noL) Try.prog := noL_okV rfl
      refine LRuns.exit (code_runs hX hL (runZ_ok hX hT hL mixed 5) mixed (rf_done inr xs n c a b o j) ?_) (by intro e; cases e) rfl (by omega) (by omega) (fun n => n) trivial ?_ rfl
      · simp only [Alls, decide_eq_false_iff_not]
        repeat' (first | with_reducible exact trivial | with_reducible apply And.intro)
        all_goals first | with_reducible assumption | omega | with_reducible rfl | (skip)
      · exact ⟨rb_row (m := 2) rfl rfl rfl rfl (Fl.of rfl), rb_old (by omega) rfl hx.fl, trivial⟩
  | d + 1, j, hj, hd => by
      have hX : XOkZ (rfV noL) Try.prog := noXz_ok rfl
      have hT : TOkZ (rfV noL) Try.prog := noTz_okV rfl
      have hL : LOkZ (rfV noL) Try.prog := noL_okV rfl
      have g0 := hx.get (i := j.toNat) (by omega)
      cases hz : (intAt xs j.toNat != 0)
      · have nx := rf_loop (inr := inr) (h0 := h0) (a := a) (o := o) hx hn hn1 hc hb d (j + 1) (by omega) (by omega)
        have e : rfEnd xs a b o j (d + 1) = rfEnd xs a b o (j + 1) d := by simp only [rfEnd, rfF, hz, cond_false]
        rw [e]
        refine LRuns.step (code_runs hX hL (runZ_ok hX hT hL mixed 5) mixed (rf_more inr xs n c a b o j) ?_) rfl (by omega) (by omega) (fun n => n) ?_ ?_ rfl nx
        · simp only [Alls, decide_eq_true_eq, rg, adI_eq]
          repeat' (first | with_reducible exact trivial | with_reducible apply And.intro)
          all_goals first | with_reducible assumption | omega | with_reducible rfl | (first | exact g0 | exact hz)
        · exact ⟨rfl, rb_slc rfl (by unfold capBig; omega), rfl, rb_ptr rfl, rfl, by simp only [renV, adI_eq], trivial⟩
        · exact ⟨rb_row (m := 2) rfl rfl rfl rfl (Fl.of rfl), rb_old (by omega) rfl hx.fl, trivial⟩
      · have e : rfEnd xs a b o j (d + 1) = (.ret, [(4, .int .i64 j)], rfH xs a b o) := by
          have hne : decide (j = Int.negSucc (nat_lit 0)) = false := by simp only [decide_eq_false_iff_not]; omega
          simp only [rfEnd, rfF, hz, cond_true, hne, cond_false]
        rw [e]
        refine LRuns.exit (code_runs hX hL (runZ_ok hX hT hL mixed 5) mixed (rf_hit inr xs n c a b o j) ?_) (by intro e; cases e) rfl (by omega) (by omega) (fun n => n) ⟨rfl, rfl, trivial⟩ ?_ rfl
        · simp only [Alls, decide_eq_true_eq, rg]
          repeat' (first | with_reducible exact trivial | with_reducible apply And.intro)
          all_goals first | with_reducible assumption | omega | with_reducible rfl | (first | exact g0 | exact hz)
        · exact ⟨rb_row (m := 2) rfl rfl rfl rfl (Fl.of rfl), rb_old (by omega) rfl hx.fl, trivial⟩
theorem rf_spec_ok : LSOk Try.prog 20 [0, 3, 5] (rfB Try.prog) rfSpec := by
  refine lspec_ok fun q tp xt l2 h2 nx2 d tp' ob hs ho inr ts hn hg => ?_
  obtain ⟨n, c, xs, a, b, o⟩ := q
  simp only at hs hg
  split at hs
  case h_3 => cases hs
  all_goals (
    simp only [Option.some.injEq, Prod.mk.injEq] at hs
    obtain ⟨⟨rfl, rfl, rfl, rfl, rfl⟩, rfl, rfl⟩ := hs
    obtain ⟨hz, hok, hab, hn1, hc, _⟩ := ho
    obtain ⟨hx, hl⟩ := hok
    (try simp only at hz hl hab hn1 hc)
    have key := rf_loop (inr := inr) (h0 := rfH xs a b o) (a := a) (b := b) (o := o) hx (show xs.length = n by omega) hn1 hc hab.2.2 (b - a).toNat a hab.1 (by omega))
  · have e : rfEnd xs a b o a (b - a).toNat = (.exit 0, [], rfH xs a b o) := by simp only [rfEnd, decide_eq_true hz, cond_true]
    rw [e] at key
    refine LRuns.enter (l2 := rfS n c a) (h := rfH xs a b o) (h2 := rfH xs a b o) hn hg (Nat.le_refl 3) (by omega) (fun n => n) ?_ ⟨rb_row (m := 2) rfl rfl rfl rfl (Fl.of rfl), rb_old (by omega) rfl hx.fl, trivial⟩ rfl key ?_
    · exact ⟨rfl, rb_slc rfl (by unfold capBig; omega), rfl, rb_ptr rfl, rfl, rfl, trivial⟩
    · exact tidy_of (by omega) (fun n hn hd => rfl) rfl
  · have e : rfEnd xs a b o a (b - a).toNat = (.ret, [(4, .int .i64 (rfF xs a (b - a).toNat))], rfH xs a b o) := by simp only [rfEnd, decide_eq_false hz, cond_false]
    rw [e] at key
    refine LRuns.enter (l2 := rfS n c a) (h := rfH xs a b o) (h2 := rfH xs a b o) hn hg (Nat.le_refl 3) (by omega) (fun n => n) ?_ ⟨rb_row (m := 2) rfl rfl rfl rfl (Fl.of rfl), rb_old (by omega) rfl hx.fl, trivial⟩ rfl key ?_
    · exact ⟨rfl, rb_slc rfl (by unfold capBig; omega), rfl, rb_ptr rfl, rfl, rfl, trivial⟩
    · exact tidy_of (by omega) (fun n hn hd => rfl) rfl
theorem ran_intv {P : Program} {f : FuncId} {args : List Value} {h : Hp} {nx : Nat} {v w : Int} (H : ∃ h' nx' d, Tri P f args h nx (.int .i64 v, h', nx', d)) (e : v = w) : Ran P f args h nx ⟨fun _ => .int .i64 w, []⟩ := by
  subst e
  obtain ⟨h', nx', d, T⟩ := H
  exact ⟨_, _, _, _, fun n => n, T, GrIs.flat fun σ => rfl⟩
theorem rf_gok : GOk Try.prog 37 [.s 1, .f] gRf := by
  have hX : ∀ L, XOkZ (rfV L) Try.prog := fun L => noXz_ok rfl
  have hT : ∀ L, TOkZ (rfV L) Try.prog := fun L => noTz_okV rfl
  have hL : LOkZ (rfV (rfL Try.prog)) Try.prog := L_okV rfl (mkL_ok rf_spec_ok)
  have hL0 : LOkZ (rfV noL) Try.prog := noL_okV rfl
  intro av tp gr tp' ob hG ho hP caps hcap
  obtain ⟨s, q, rfl, pa, pb⟩ := avps2 hP
  obtain ⟨c, c1, rfl⟩ := caps2 hcap
  unfold gRf at hG
  split at hG
  case h_2 => cases hG
  rename_i s' a b o e
  simp only [List.cons.injEq, and_true] at e
  obtain ⟨rfl, rfl⟩ := e
  split at hG
  case h_2 => cases hG
  rename_i xs hxs
  simp only [Option.some.injEq, Prod.mk.injEq] at hG
  obtain ⟨rfl, rfl, rfl⟩ := hG
  obtain ⟨hok, hab, hn1, _⟩ := ho
  cases s with
  | ag p zs m => simp [AvP] at pa
  | sc zs l m => simp [AvP] at pa
  | fl v =>
    simp only [AvP] at pa
    subst pa
    simp only [bytsA, Option.some.injEq] at hxs
    subst hxs
    simp only [avLen] at hab
    have e1 : (b - a).toNat = 0 := by omega
    rw [e1]
    refine ⟨_, _, _, _, fun n => n, run_tri (hX _) (hT _) hL0 (rf_n a b o) ?_ rfl, GrIs.flat fun σ => rfl⟩
    simp only [Alls, decide_eq_false_iff_not]
    repeat' (first | with_reducible exact trivial | with_reducible apply And.intro)
    all_goals first | with_reducible assumption | omega | with_reducible rfl | (skip)
  | sl zs n =>
    simp only [bytsA, Option.some.injEq] at hxs
    subst hxs
    simp only [avLen] at hab hok hn1
    have hc := hcap.1
    by_cases hz : rfF zs a (b - a).toNat = Int.negSucc (nat_lit 0)
    · refine ran_intv (run_val (hX _) (hT _) hL (rf_z zs n c a b o) ?_ rfl) hz.symm
      simp only [Alls]
      repeat' (first | with_reducible exact trivial | with_reducible apply And.intro)
      all_goals first | with_reducible assumption | omega | with_reducible rfl | (rfl)
    · refine ran_intv (run_val (hX _) (hT _) hL (rf_w zs n c a b o) ?_ rfl) rfl
      simp only [Alls]
      repeat' (first | with_reducible exact trivial | with_reducible apply And.intro)
      all_goals first | with_reducible assumption | omega | with_reducible rfl | (rfl)
end Go.Proofs.Ytmjmdjcgjmjigaa
