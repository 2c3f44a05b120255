/-
  Chapter 22: Read's rounds: runs.
-/
import Derived.Test.YtdcakhahagbedaaSbD
namespace Go.Proofs.Ytdcakhahagbedaa
set_option linter.unusedSimpArgs false
set_option linter.unusedVariables false
set_option linter.unusedSectionVars false
open Go Go.RowKit

def cmpN (a b c d : Int) : Int := if nm2 a b < nm2 c d then -1 else if nm2 a b = nm2 c d then 0 else 1
def gCmV : GSpec := fun av tp => match av with
  | [.fl (.agg ⟨[.int .u64 a, .int .u64 b]⟩), .fl (.agg ⟨[.int .u64 c, .int .u64 d]⟩)] => some (⟨fun _ => .int .i64 (cmpN a b c d), []⟩, tp, [w6 a ∧ w6 b ∧ w6 c ∧ w6 d])
  | _ => none
theorem cmv_gok : GOk Try.prog 42 [.f, .f] gCmV := by
  intro av tp gr tp' ob hG ho hP caps hcap
  unfold gCmV at hG
  split at hG
  case h_2 => cases hG
  rename_i a b c d
  simp only [Option.some.injEq, Prod.mk.injEq] at hG
  obtain ⟨rfl, rfl, rfl⟩ := hG
  by_cases h1 : nm2 a b < nm2 c d
  · rw [show cmpN a b c d = -1 by unfold cmpN; rw [if_pos h1]]
    exact cm_gok _ [true] _ _ _ rfl (alls_cons ⟨ho.1, h1⟩ alls_nil) hP caps hcap
  · by_cases h2 : nm2 a b = nm2 c d
    · rw [show cmpN a b c d = 0 by unfold cmpN; rw [if_neg h1, if_pos h2]]
      exact cm_gok _ [false, true] _ _ _ rfl (alls_cons ⟨ho.1, h2⟩ alls_nil) hP caps hcap
    · rw [show cmpN a b c d = 1 by unfold cmpN; rw [if_neg h1, if_neg h2]]
      exact cm_gok _ [false, false] _ _ _ rfl (alls_cons ⟨ho.1, by omega⟩ alls_nil) hP caps hcap
/-- A number of sixteen bytes, by name. -/
def gRdN (x y : Int) : GSpec := fun av tp => match av with
  | [.sl xs n] => some (⟨fun _ => .tuple ⟨[.agg ⟨[.int .u64 x, .int .u64 y]⟩, .int .i64 0]⟩, []⟩, tp, [Byts xs ∧ n = 16 ∧ x = r8 (xs.drop 8) ∧ y = r8 xs])
  | _ => none
theorem rdn_gok (x y : Int) : GOk Try.prog 40 [.s 1] (gRdN x y) := by
  intro av tp gr tp' ob hG ho hP caps hcap
  unfold gRdN at hG
  split at hG
  case h_2 => cases hG
  rename_i xs n
  simp only [Option.some.injEq, Prod.mk.injEq] at hG
  obtain ⟨rfl, rfl, rfl⟩ := hG
  obtain ⟨⟨hb, hn, rfl, rfl⟩, _⟩ := ho
  exact rd_i_gok _ tp _ _ _ rfl (alls_cons hb (alls_cons hn alls_nil)) hP caps hcap
def opB (n : Int) : Bool := decide (1 ≤ n ∧ n ≤ 1073741824)
def gOp : GSpec := fun av tp => match av with
  | [.fl (.int .i64 n)] => some (⟨fun _ => .bool (opB n), []⟩, tp, [])
  | _ => none
def opT : Tv := ⟨noTz, noXz, noL, tbl 33 [4, 7], noSy, fun _ => [], fun _ => 0⟩
theorem op_a (n : Int) : runZ opT Try.prog 5 33 [.int .i64 n] [] 1 [false] =
  Res.ok ((Value.bool false, [], 1, []), [], [decide (n ≥ (1 : Int)) = false]) := by kernel_rfl
theorem op_b (n : Int) : runZ opT Try.prog 5 33 [.int .i64 n] [] 1 [true, false] =
  Res.ok ((Value.bool false, [], 1, []), [], [decide (n ≥ (1 : Int)) = true, decide (n ≤ (1073741824 : Int)) = false]) := by kernel_rfl
theorem op_c (n : Int) : runZ opT Try.prog 5 33 [.int .i64 n] [] 1 [true, true] =
  Res.ok ((Value.bool true, [], 1, []), [], [decide (n ≥ (1 : Int)) = true, decide (n ≤ (1073741824 : Int)) = true]) := by kernel_rfl
theorem op_gok : GOk Try.prog 33 [.f] gOp := by
  have hX : XOkZ opT Try.prog := noXz_ok rfl
  have hT : TOkZ opT Try.prog := noTz_okV rfl
  have hL : LOkZ opT Try.prog := noL_okV rfl
  intro av tp gr tp' ob hG ho hP caps hcap
  unfold gOp at hG
  split at hG
  case h_2 => cases hG
  rename_i n
  simp only [Option.some.injEq, Prod.mk.injEq] at hG
  obtain ⟨rfl, rfl, rfl⟩ := hG
  by_cases h1 : 1 ≤ n
  · by_cases h2 : n ≤ 1073741824
    · rw [show opB n = true by unfold opB; simp [h1, h2]]
      refine ⟨_, _, _, _, fun n => n, run_tri hX hT hL (op_c n) ?_ rfl, GrIs.flat fun σ => rfl⟩
      repeat' (first | exact alls_nil | refine alls_cons ?_ ?_)
      all_goals (simp only [decide_eq_true_eq, ge_iff_le]; omega)
    · rw [show opB n = false by unfold opB; simp [h2]]
      refine ⟨_, _, _, _, fun n => n, run_tri hX hT hL (op_b n) ?_ rfl, GrIs.flat fun σ => rfl⟩
      repeat' (first | exact alls_nil | refine alls_cons ?_ ?_)
      all_goals (simp only [decide_eq_true_eq, decide_eq_false_iff_not, ge_iff_le]; omega)
  · rw [show opB n = false by unfold opB; simp [h1]]
    refine ⟨_, _, _, _, fun n => n, run_tri hX hT hL (op_a n) ?_ rfl, GrIs.flat fun σ => rfl⟩
    repeat' (first | exact alls_nil | refine alls_cons ?_ ?_)
    all_goals (simp only [decide_eq_false_iff_not, ge_iff_le]; omega)
/-- What a round reads, by names. -/
structure RN where
  x : Int
  y : Int
  g : RS
  q : Int
  g1 : RS
  o : Int
  g2 : RS
  s : Int
  g3 : RS
  z : Int
  R : List Value
  n : Nat
def sbT (N : RN) : TFun := orTz (mkT 42 [.f, .f] gCmV) (orTz (mkT 33 [.f] gOp) (orTz (clT N.R N.n) (orTz (mkT 40 [.s 1] (gRdN N.x N.y)) (nbT [(N.g, N.q), (N.g1, N.o), (N.g2, N.s), (N.g3, N.z)]))))
theorem sbT_one (N : RN) : TOneZ Try.prog (sbT N) := orTz_ok (mkT_one cmv_gok) (orTz_ok (mkT_one op_gok) (orTz_ok (clT_one _ _) (orTz_ok (mkT_one (rdn_gok _ _)) (nbT_one _))))
def sbF : FuncId → List Nat := fun f => bif Nat.beq f 18 then [17, 20, 40, 46, 51, 56, 62, 70, 86, 93] else bif Nat.beq f 41 then [9, 17] else bif Nat.beq f 36 then [18] else []
def sbY : FuncId → Nat → Option Nat := orSy nbSy (lsSy 18 [(82, 0)])
def sbV (N : RN) (L : LFun) : Tv := ⟨sbT N, noXz, L, sbF, sbY, fun _ => [], fun _ => 36⟩
def sbS (k : Int) (i : Nat) : List (Nat × Value) := [(4, .pointer (some ⟨1, 0, none⟩)), (5, .pointer (some ⟨2, 0, none⟩)), (6, .int .i64 k), (7, .pointer (some ⟨3, 0, none⟩)), (18, .int .i64 k), (19, .int .i64 (i : Int))]
def sbH (xs tb : List Value) (s : RS) (a b : Int) (rows : Hp) : Hp := (3, ⟨.shut, [.int .u64 a, .int .u64 b]⟩) :: (2, ⟨.shut, tb⟩) :: (1, rdR s.O s.L s.C s.B) :: (0, ⟨.old, xs⟩) :: rows
def sbB (P : Program) : Code := bodyIn P 18 8
theorem sbf_b (inr : Bool) (xs tb : List Value) (s : RS) (N : RN) (k a b : Int) (i : Nat) : prjZ [2, 3] (codeZ (sbV N noL) Try.prog (runZ (sbV N noL) Try.prog 9) 18 inr 100000 (sbB Try.prog) (SL 96 (sbS k i)) (sbH xs tb s a b []) 8 [true, true, false, true, false, true, true, false, true, true, true, false, false, true]) =
  Res.ok ((Xt.ret, 96, [(2, Value.pointer none), (3, Value.int IntKind.i64 (4 : Int))], [(1, Rw.mk Kd.shut [Value.slice (some (Addr.mk 0 (RS.O (RN.g3 N)) none)) (RS.L (RN.g3 N)) (RS.C (RN.g3 N)), Value.bool (RS.B (RN.g3
 N))]), (9, Rw.mk Kd.shut [Value.int IntKind.u8 (0 : Int), Value.int IntKind.u8 (0 : Int), Value.int IntKind.u8 (0 : Int), Value.int IntKind.u8 (0 : Int), Value.int IntKind.u8 (0 : Int), Value.int IntKind.u8 (0 : Int),
 Value.int IntKind.u8 (0 : Int), Value.int IntKind.u8 (0 : Int), Value.int IntKind.u8 (0 : Int), Value.int IntKind.u8 (0 : Int), Value.int IntKind.u8 (0 : Int), Value.int IntKind.u8 (0 : Int), Value.int IntKind.u8 (0 :
 Int), Value.int IntKind.u8 (0 : Int), Value.int IntKind.u8 (0 : Int), Value.int IntKind.u8 (0 : Int)]), (8, Rw.mk Kd.shut [Value.int IntKind.u64 (RN.x N), Value.int IntKind.u64 (RN.y N), Value.int IntKind.i64 (RN.q N),
 Value.int IntKind.i64 (RN.o N), Value.int IntKind.i64 (RN.s N), Value.slice none 0 0]), (3, Rw.mk Kd.shut [Value.int IntKind.u64 a, Value.int IntKind.u64 b]), (2, Rw.mk Kd.shut tb), (0, Rw.mk Kd.old xs)], 10, [1, 8, 8, 8,
 1, 1, 1, 8, 1], []), [], [decide ((↑i : Int) < k) = true, RS.B s = true, (0 : Int) ≤ (16 : Int) ∧ (16 : Int) ≤ (16 : Int) ∧ (16 : Int) ≤ (281474976710656 : Int) ∧ (16 : Int) ≤ (9223372036854775807 : Int), 16 ≤ 16 ∧ 16 ≤
 9223372036854775807, 16 ≤ 16, Fl [Value.int IntKind.u8 (0 : Int), Value.int IntKind.u8 (0 : Int), Value.int IntKind.u8 (0 : Int), Value.int IntKind.u8 (0 : Int), Value.int IntKind.u8 (0 : Int), Value.int IntKind.u8 (0 :
 Int), Value.int IntKind.u8 (0 : Int), Value.int IntKind.u8 (0 : Int), Value.int IntKind.u8 (0 : Int), Value.int IntKind.u8 (0 : Int), Value.int IntKind.u8 (0 : Int), Value.int IntKind.u8 (0 : Int), Value.int IntKind.u8 (0
 : Int), Value.int IntKind.u8 (0 : Int), Value.int IntKind.u8 (0 : Int), Value.int IntKind.u8 (0 : Int)], Byts [Value.int IntKind.u8 (0 : Int), Value.int IntKind.u8 (0 : Int), Value.int IntKind.u8 (0 : Int), Value.int
 IntKind.u8 (0 : Int), Value.int IntKind.u8 (0 : Int), Value.int IntKind.u8 (0 : Int), Value.int IntKind.u8 (0 : Int), Value.int IntKind.u8 (0 : Int), Value.int IntKind.u8 (0 : Int), Value.int IntKind.u8 (0 : Int),
 Value.int IntKind.u8 (0 : Int), Value.int IntKind.u8 (0 : Int), Value.int IntKind.u8 (0 : Int), Value.int IntKind.u8 (0 : Int), Value.int IntKind.u8 (0 : Int), Value.int IntKind.u8 (0 : Int)] ∧ 16 = 16 ∧ RN.x N = (0 :
 Int) ∧ RN.y N = (0 : Int), NbF xs (RS.mk (RS.O s) (RS.L s) (RS.C s) true) (RN.g N) (RN.q N), NbF xs (RS.mk (RS.O (RN.g N)) (RS.L (RN.g N)) (RS.C (RN.g N)) (RS.B (RN.g N))) (RN.g1 N) (RN.o N), NbF xs (RS.mk (RS.O (RN.g1
 N)) (RS.L (RN.g1 N)) (RS.C (RN.g1 N)) (RS.B (RN.g1 N))) (RN.g2 N) (RN.s N), NbF xs (RS.mk (RS.O (RN.g2 N)) (RS.L (RN.g2 N)) (RS.C (RN.g2 N)) (RS.B (RN.g2 N))) (RN.g3 N) (RN.z N), decide (RN.z N > (1024 : Int)) = false, w6
 (RN.x N) ∧ w6 (RN.y N) ∧ w6 a ∧ w6 b, decide (cmpN (RN.x N) (RN.y N) a b ≤ (0 : Int)) = true]) := by kernel_rfl
theorem sbf_l (inr : Bool) (xs tb : List Value) (s : RS) (N : RN) (k a b : Int) (i : Nat) : prjZ [2, 3] (codeZ (sbV N noL) Try.prog (runZ (sbV N noL) Try.prog 9) 18 inr 100000 (sbB Try.prog) (SL 96 (sbS k i)) (sbH xs tb s a b []) 8 [true, false, true, false, true, false, true, true, false, true, true, true, false, false, true]) =
  Res.ok ((Xt.ret, 96, [(2, Value.pointer none), (3, Value.int IntKind.i64 (4 : Int))], [(1, Rw.mk Kd.shut [Value.slice (some (Addr.mk 0 (RS.O (RN.g3 N)) none)) (RS.L (RN.g3 N)) (RS.C (RN.g3 N)), Value.bool (RS.B (RN.g3
 N))]), (9, Rw.mk Kd.shut [Value.int IntKind.u8 (0 : Int), Value.int IntKind.u8 (0 : Int), Value.int IntKind.u8 (0 : Int), Value.int IntKind.u8 (0 : Int), Value.int IntKind.u8 (0 : Int), Value.int IntKind.u8 (0 : Int),
 Value.int IntKind.u8 (0 : Int), Value.int IntKind.u8 (0 : Int), Value.int IntKind.u8 (0 : Int), Value.int IntKind.u8 (0 : Int), Value.int IntKind.u8 (0 : Int), Value.int IntKind.u8 (0 : Int), Value.int IntKind.u8 (0 :
 Int), Value.int IntKind.u8 (0 : Int), Value.int IntKind.u8 (0 : Int), Value.int IntKind.u8 (0 : Int)]), (8, Rw.mk Kd.shut [Value.int IntKind.u64 (RN.x N), Value.int IntKind.u64 (RN.y N), Value.int IntKind.i64 (RN.q N),
 Value.int IntKind.i64 (RN.o N), Value.int IntKind.i64 (RN.s N), Value.slice none 0 0]), (3, Rw.mk Kd.shut [Value.int IntKind.u64 a, Value.int IntKind.u64 b]), (2, Rw.mk Kd.shut tb), (0, Rw.mk Kd.old xs)], 10, [1, 8, 8, 8,
 1, 1, 1, 8, 1], []), [], [decide ((↑i : Int) < k) = true, RS.B s = false, decide ((16 : Int) > (↑(RS.L s) : Int)) = true, (0 : Int) ≤ (16 : Int) ∧ (16 : Int) ≤ (16 : Int) ∧ (16 : Int) ≤ (281474976710656 : Int) ∧ (16 :
 Int) ≤ (9223372036854775807 : Int), 16 ≤ 16 ∧ 16 ≤ 9223372036854775807, 16 ≤ 16, Fl [Value.int IntKind.u8 (0 : Int), Value.int IntKind.u8 (0 : Int), Value.int IntKind.u8 (0 : Int), Value.int IntKind.u8 (0 : Int),
 Value.int IntKind.u8 (0 : Int), Value.int IntKind.u8 (0 : Int), Value.int IntKind.u8 (0 : Int), Value.int IntKind.u8 (0 : Int), Value.int IntKind.u8 (0 : Int), Value.int IntKind.u8 (0 : Int), Value.int IntKind.u8 (0 :
 Int), Value.int IntKind.u8 (0 : Int), Value.int IntKind.u8 (0 : Int), Value.int IntKind.u8 (0 : Int), Value.int IntKind.u8 (0 : Int), Value.int IntKind.u8 (0 : Int)], Byts [Value.int IntKind.u8 (0 : Int), Value.int
 IntKind.u8 (0 : Int), Value.int IntKind.u8 (0 : Int), Value.int IntKind.u8 (0 : Int), Value.int IntKind.u8 (0 : Int), Value.int IntKind.u8 (0 : Int), Value.int IntKind.u8 (0 : Int), Value.int IntKind.u8 (0 : Int),
 Value.int IntKind.u8 (0 : Int), Value.int IntKind.u8 (0 : Int), Value.int IntKind.u8 (0 : Int), Value.int IntKind.u8 (0 : Int), Value.int IntKind.u8 (0 : Int), Value.int IntKind.u8 (0 : Int), Value.int IntKind.u8 (0 :
 Int), Value.int IntKind.u8 (0 : Int)] ∧ 16 = 16 ∧ RN.x N = (0 : Int) ∧ RN.y N = (0 : Int), NbF xs (RS.mk (RS.O s) (RS.L s) (RS.C s) true) (RN.g N) (RN.q N), NbF xs (RS.mk (RS.O (RN.g N)) (RS.L (RN.g N)) (RS.C (RN.g N))
 (RS.B (RN.g N))) (RN.g1 N) (RN.o N), NbF xs (RS.mk (RS.O (RN.g1 N)) (RS.L (RN.g1 N)) (RS.C (RN.g1 N)) (RS.B (RN.g1 N))) (RN.g2 N) (RN.s N), NbF xs (RS.mk (RS.O (RN.g2 N)) (RS.L (RN.g2 N)) (RS.C (RN.g2 N)) (RS.B (RN.g2
 N))) (RN.g3 N) (RN.z N), decide (RN.z N > (1024 : Int)) = false, w6 (RN.x N) ∧ w6 (RN.y N) ∧ w6 a ∧ w6 b, decide (cmpN (RN.x N) (RN.y N) a b ≤ (0 : Int)) = true]) := by kernel_rfl
theorem sbf_1 (inr : Bool) (xs tb : List Value) (s : RS) (N : RN) (k a b : Int) (i : Nat) : prjZ [2, 3] (codeZ (sbV N noL) Try.prog (runZ (sbV N noL) Try.prog 9) 18 inr 100000 (sbB Try.prog) (SL 96 (sbS k i)) (sbH xs tb s a b []) 8 [true, false, false, false, true, false, true, true, false, true, true, true, false, true]) =
  Res.ok ((Xt.ret, 96, [(2, Value.pointer none), (3, Value.int IntKind.i64 (4 : Int))], [(1, Rw.mk Kd.shut [Value.slice (some (Addr.mk 0 (RS.O (RN.g3 N)) none)) (RS.L (RN.g3 N)) (RS.C (RN.g3 N)), Value.bool (RS.B (RN.g3
 N))]), (8, Rw.mk Kd.shut [Value.int IntKind.u64 (RN.x N), Value.int IntKind.u64 (RN.y N), Value.int IntKind.i64 (RN.q N), Value.int IntKind.i64 (RN.o N), Value.int IntKind.i64 (RN.s N), Value.slice none 0 0]), (3, Rw.mk
 Kd.shut [Value.int IntKind.u64 a, Value.int IntKind.u64 b]), (2, Rw.mk Kd.shut tb), (0, Rw.mk Kd.old xs)], 9, [1, 8, 8, 8, 1, 1, 1, 8, 1], []), [], [decide ((↑i : Int) < k) = true, RS.B s = false, decide ((16 : Int) >
 (↑(RS.L s) : Int)) = false, RS.C s < 18446744073709551616, (0 : Int) ≤ (16 : Int) ∧ (16 : Int) ≤ (↑(RS.C s) : Int), (0 : Int) ≤ (16 : Int) ∧ (16 : Int) ≤ (16 : Int), RS.C s < 18446744073709551616, (0 : Int) ≤ (16 : Int) ∧
 (16 : Int) ≤ (↑(RS.L s) : Int), 16 ≤ 16 ∧ 16 ≤ 9223372036854775807, adN (loO none (RS.O s) 0 16 1) 16 ≤ List.length xs, Fl (tkD (loO none (RS.O s) 0 16 1) 16 xs), Byts (tkD (loO none (RS.O s) 0 16 1) 16 xs) ∧ 16 = 16 ∧
 RN.x N = r8 (List.drop 8 (tkD (loO none (RS.O s) 0 16 1) 16 xs)) ∧ RN.y N = r8 (tkD (loO none (RS.O s) 0 16 1) 16 xs), NbF xs (RS.mk (loO (some (Value.int IntKind.i64 (16 : Int))) (RS.O s) 16 (RS.C s) 1) (RS.L s - 16)
 (RS.C s - 16) (RS.B s)) (RN.g N) (RN.q N), NbF xs (RS.mk (RS.O (RN.g N)) (RS.L (RN.g N)) (RS.C (RN.g N)) (RS.B (RN.g N))) (RN.g1 N) (RN.o N), NbF xs (RS.mk (RS.O (RN.g1 N)) (RS.L (RN.g1 N)) (RS.C (RN.g1 N)) (RS.B (RN.g1
 N))) (RN.g2 N) (RN.s N), NbF xs (RS.mk (RS.O (RN.g2 N)) (RS.L (RN.g2 N)) (RS.C (RN.g2 N)) (RS.B (RN.g2 N))) (RN.g3 N) (RN.z N), decide (RN.z N > (1024 : Int)) = true]) := by kernel_rfl
theorem sbf_2 (inr : Bool) (xs tb : List Value) (s : RS) (N : RN) (k a b : Int) (i : Nat) : prjZ [2, 3] (codeZ (sbV N noL) Try.prog (runZ (sbV N noL) Try.prog 9) 18 inr 100000 (sbB Try.prog) (SL 96 (sbS k i)) (sbH xs tb s a b []) 8 [true, false, false, false, true, false, true, true, false, true, true, true, false, false, true]) =
  Res.ok ((Xt.ret, 96, [(2, Value.pointer none), (3, Value.int IntKind.i64 (4 : Int))], [(1, Rw.mk Kd.shut [Value.slice (some (Addr.mk 0 (RS.O (RN.g3 N)) none)) (RS.L (RN.g3 N)) (RS.C (RN.g3 N)), Value.bool (RS.B (RN.g3
 N))]), (8, Rw.mk Kd.shut [Value.int IntKind.u64 (RN.x N), Value.int IntKind.u64 (RN.y N), Value.int IntKind.i64 (RN.q N), Value.int IntKind.i64 (RN.o N), Value.int IntKind.i64 (RN.s N), Value.slice none 0 0]), (3, Rw.mk
 Kd.shut [Value.int IntKind.u64 a, Value.int IntKind.u64 b]), (2, Rw.mk Kd.shut tb), (0, Rw.mk Kd.old xs)], 9, [1, 8, 8, 8, 1, 1, 1, 8, 1], []), [], [decide ((↑i : Int) < k) = true, RS.B s = false, decide ((16 : Int) >
 (↑(RS.L s) : Int)) = false, RS.C s < 18446744073709551616, (0 : Int) ≤ (16 : Int) ∧ (16 : Int) ≤ (↑(RS.C s) : Int), (0 : Int) ≤ (16 : Int) ∧ (16 : Int) ≤ (16 : Int), RS.C s < 18446744073709551616, (0 : Int) ≤ (16 : Int) ∧
 (16 : Int) ≤ (↑(RS.L s) : Int), 16 ≤ 16 ∧ 16 ≤ 9223372036854775807, adN (loO none (RS.O s) 0 16 1) 16 ≤ List.length xs, Fl (tkD (loO none (RS.O s) 0 16 1) 16 xs), Byts (tkD (loO none (RS.O s) 0 16 1) 16 xs) ∧ 16 = 16 ∧
 RN.x N = r8 (List.drop 8 (tkD (loO none (RS.O s) 0 16 1) 16 xs)) ∧ RN.y N = r8 (tkD (loO none (RS.O s) 0 16 1) 16 xs), NbF xs (RS.mk (loO (some (Value.int IntKind.i64 (16 : Int))) (RS.O s) 16 (RS.C s) 1) (RS.L s - 16)
 (RS.C s - 16) (RS.B s)) (RN.g N) (RN.q N), NbF xs (RS.mk (RS.O (RN.g N)) (RS.L (RN.g N)) (RS.C (RN.g N)) (RS.B (RN.g N))) (RN.g1 N) (RN.o N), NbF xs (RS.mk (RS.O (RN.g1 N)) (RS.L (RN.g1 N)) (RS.C (RN.g1 N)) (RS.B (RN.g1
 N))) (RN.g2 N) (RN.s N), NbF xs (RS.mk (RS.O (RN.g2 N)) (RS.L (RN.g2 N)) (RS.C (RN.g2 N)) (RS.B (RN.g2 N))) (RN.g3 N) (RN.z N), decide (RN.z N > (1024 : Int)) = false, w6 (RN.x N) ∧ w6 (RN.y N) ∧ w6 a ∧ w6 b, decide (cmpN
 (RN.x N) (RN.y N) a b ≤ (0 : Int)) = true]) := by kernel_rfl
theorem sbf_3 (inr : Bool) (xs tb : List Value) (s : RS) (N : RN) (k a b : Int) (i : Nat) : prjZ [2, 3] (codeZ (sbV N noL) Try.prog (runZ (sbV N noL) Try.prog 9) 18 inr 100000 (sbB Try.prog) (SL 96 (sbS k i)) (sbH xs tb s a b []) 8 [true, false, false, false, true, false, true, true, false, true, true, true, false, false, false, true]) =
  Res.ok ((Xt.ret, 96, [(2, Value.pointer none), (3, Value.int IntKind.i64 (4 : Int))], [(1, Rw.mk Kd.shut [Value.slice (some (Addr.mk 0 (RS.O (RN.g3 N)) none)) (RS.L (RN.g3 N)) (RS.C (RN.g3 N)), Value.bool (RS.B (RN.g3
 N))]), (8, Rw.mk Kd.shut [Value.int IntKind.u64 (RN.x N), Value.int IntKind.u64 (RN.y N), Value.int IntKind.i64 (RN.q N), Value.int IntKind.i64 (RN.o N), Value.int IntKind.i64 (RN.s N), Value.slice none 0 0]), (3, Rw.mk
 Kd.shut [Value.int IntKind.u64 a, Value.int IntKind.u64 b]), (2, Rw.mk Kd.shut tb), (0, Rw.mk Kd.old xs)], 9, [1, 8, 8, 8, 1, 1, 1, 8, 1], []), [], [decide ((↑i : Int) < k) = true, RS.B s = false, decide ((16 : Int) >
 (↑(RS.L s) : Int)) = false, RS.C s < 18446744073709551616, (0 : Int) ≤ (16 : Int) ∧ (16 : Int) ≤ (↑(RS.C s) : Int), (0 : Int) ≤ (16 : Int) ∧ (16 : Int) ≤ (16 : Int), RS.C s < 18446744073709551616, (0 : Int) ≤ (16 : Int) ∧
 (16 : Int) ≤ (↑(RS.L s) : Int), 16 ≤ 16 ∧ 16 ≤ 9223372036854775807, adN (loO none (RS.O s) 0 16 1) 16 ≤ List.length xs, Fl (tkD (loO none (RS.O s) 0 16 1) 16 xs), Byts (tkD (loO none (RS.O s) 0 16 1) 16 xs) ∧ 16 = 16 ∧
 RN.x N = r8 (List.drop 8 (tkD (loO none (RS.O s) 0 16 1) 16 xs)) ∧ RN.y N = r8 (tkD (loO none (RS.O s) 0 16 1) 16 xs), NbF xs (RS.mk (loO (some (Value.int IntKind.i64 (16 : Int))) (RS.O s) 16 (RS.C s) 1) (RS.L s - 16)
 (RS.C s - 16) (RS.B s)) (RN.g N) (RN.q N), NbF xs (RS.mk (RS.O (RN.g N)) (RS.L (RN.g N)) (RS.C (RN.g N)) (RS.B (RN.g N))) (RN.g1 N) (RN.o N), NbF xs (RS.mk (RS.O (RN.g1 N)) (RS.L (RN.g1 N)) (RS.C (RN.g1 N)) (RS.B (RN.g1
 N))) (RN.g2 N) (RN.s N), NbF xs (RS.mk (RS.O (RN.g2 N)) (RS.L (RN.g2 N)) (RS.C (RN.g2 N)) (RS.B (RN.g2 N))) (RN.g3 N) (RN.z N), decide (RN.z N > (1024 : Int)) = false, w6 (RN.x N) ∧ w6 (RN.y N) ∧ w6 a ∧ w6 b, decide (cmpN
 (RN.x N) (RN.y N) a b ≤ (0 : Int)) = false, decide (RN.q N > (1073741824 : Int)) = true]) := by kernel_rfl
theorem sbf_4 (inr : Bool) (xs tb : List Value) (s : RS) (N : RN) (k a b : Int) (i : Nat) : prjZ [2, 3] (codeZ (sbV N noL) Try.prog (runZ (sbV N noL) Try.prog 9) 18 inr 100000 (sbB Try.prog) (SL 96 (sbS k i)) (sbH xs tb s a b []) 8 [true, false, false, false, true, false, true, true, false, true, true, true, false, false, false, false, false]) =
  Res.ok ((Xt.ret, 96, [(2, Value.pointer none), (3, Value.int IntKind.i64 (4 : Int))], [(1, Rw.mk Kd.shut [Value.slice (some (Addr.mk 0 (RS.O (RN.g3 N)) none)) (RS.L (RN.g3 N)) (RS.C (RN.g3 N)), Value.bool (RS.B (RN.g3
 N))]), (8, Rw.mk Kd.shut [Value.int IntKind.u64 (RN.x N), Value.int IntKind.u64 (RN.y N), Value.int IntKind.i64 (RN.q N), Value.int IntKind.i64 (RN.o N), Value.int IntKind.i64 (RN.s N), Value.slice none 0 0]), (3, Rw.mk
 Kd.shut [Value.int IntKind.u64 a, Value.int IntKind.u64 b]), (2, Rw.mk Kd.shut tb), (0, Rw.mk Kd.old xs)], 9, [1, 8, 8, 8, 1, 1, 1, 8, 1], []), [], [decide ((↑i : Int) < k) = true, RS.B s = false, decide ((16 : Int) >
 (↑(RS.L s) : Int)) = false, RS.C s < 18446744073709551616, (0 : Int) ≤ (16 : Int) ∧ (16 : Int) ≤ (↑(RS.C s) : Int), (0 : Int) ≤ (16 : Int) ∧ (16 : Int) ≤ (16 : Int), RS.C s < 18446744073709551616, (0 : Int) ≤ (16 : Int) ∧
 (16 : Int) ≤ (↑(RS.L s) : Int), 16 ≤ 16 ∧ 16 ≤ 9223372036854775807, adN (loO none (RS.O s) 0 16 1) 16 ≤ List.length xs, Fl (tkD (loO none (RS.O s) 0 16 1) 16 xs), Byts (tkD (loO none (RS.O s) 0 16 1) 16 xs) ∧ 16 = 16 ∧
 RN.x N = r8 (List.drop 8 (tkD (loO none (RS.O s) 0 16 1) 16 xs)) ∧ RN.y N = r8 (tkD (loO none (RS.O s) 0 16 1) 16 xs), NbF xs (RS.mk (loO (some (Value.int IntKind.i64 (16 : Int))) (RS.O s) 16 (RS.C s) 1) (RS.L s - 16)
 (RS.C s - 16) (RS.B s)) (RN.g N) (RN.q N), NbF xs (RS.mk (RS.O (RN.g N)) (RS.L (RN.g N)) (RS.C (RN.g N)) (RS.B (RN.g N))) (RN.g1 N) (RN.o N), NbF xs (RS.mk (RS.O (RN.g1 N)) (RS.L (RN.g1 N)) (RS.C (RN.g1 N)) (RS.B (RN.g1
 N))) (RN.g2 N) (RN.s N), NbF xs (RS.mk (RS.O (RN.g2 N)) (RS.L (RN.g2 N)) (RS.C (RN.g2 N)) (RS.B (RN.g2 N))) (RN.g3 N) (RN.z N), decide (RN.z N > (1024 : Int)) = false, w6 (RN.x N) ∧ w6 (RN.y N) ∧ w6 a ∧ w6 b, decide (cmpN
 (RN.x N) (RN.y N) a b ≤ (0 : Int)) = false, decide (RN.q N > (1073741824 : Int)) = false, opB (RN.o N) = false]) := by kernel_rfl
theorem sbf_5 (inr : Bool) (xs tb : List Value) (s : RS) (N : RN) (k a b : Int) (i : Nat) : prjZ [2, 3] (codeZ (sbV N noL) Try.prog (runZ (sbV N noL) Try.prog 9) 18 inr 100000 (sbB Try.prog) (SL 96 (sbS k i)) (sbH xs tb s a b []) 8 [true, false, false, false, true, false, true, true, false, true, true, true, false, false, false, false, true, false]) =
  Res.ok ((Xt.ret, 96, [(2, Value.pointer none), (3, Value.int IntKind.i64 (4 : Int))], [(1, Rw.mk Kd.shut [Value.slice (some (Addr.mk 0 (RS.O (RN.g3 N)) none)) (RS.L (RN.g3 N)) (RS.C (RN.g3 N)), Value.bool (RS.B (RN.g3
 N))]), (8, Rw.mk Kd.shut [Value.int IntKind.u64 (RN.x N), Value.int IntKind.u64 (RN.y N), Value.int IntKind.i64 (RN.q N), Value.int IntKind.i64 (RN.o N), Value.int IntKind.i64 (RN.s N), Value.slice none 0 0]), (3, Rw.mk
 Kd.shut [Value.int IntKind.u64 a, Value.int IntKind.u64 b]), (2, Rw.mk Kd.shut tb), (0, Rw.mk Kd.old xs)], 9, [1, 8, 8, 8, 1, 1, 1, 8, 1], []), [], [decide ((↑i : Int) < k) = true, RS.B s = false, decide ((16 : Int) >
 (↑(RS.L s) : Int)) = false, RS.C s < 18446744073709551616, (0 : Int) ≤ (16 : Int) ∧ (16 : Int) ≤ (↑(RS.C s) : Int), (0 : Int) ≤ (16 : Int) ∧ (16 : Int) ≤ (16 : Int), RS.C s < 18446744073709551616, (0 : Int) ≤ (16 : Int) ∧
 (16 : Int) ≤ (↑(RS.L s) : Int), 16 ≤ 16 ∧ 16 ≤ 9223372036854775807, adN (loO none (RS.O s) 0 16 1) 16 ≤ List.length xs, Fl (tkD (loO none (RS.O s) 0 16 1) 16 xs), Byts (tkD (loO none (RS.O s) 0 16 1) 16 xs) ∧ 16 = 16 ∧
 RN.x N = r8 (List.drop 8 (tkD (loO none (RS.O s) 0 16 1) 16 xs)) ∧ RN.y N = r8 (tkD (loO none (RS.O s) 0 16 1) 16 xs), NbF xs (RS.mk (loO (some (Value.int IntKind.i64 (16 : Int))) (RS.O s) 16 (RS.C s) 1) (RS.L s - 16)
 (RS.C s - 16) (RS.B s)) (RN.g N) (RN.q N), NbF xs (RS.mk (RS.O (RN.g N)) (RS.L (RN.g N)) (RS.C (RN.g N)) (RS.B (RN.g N))) (RN.g1 N) (RN.o N), NbF xs (RS.mk (RS.O (RN.g1 N)) (RS.L (RN.g1 N)) (RS.C (RN.g1 N)) (RS.B (RN.g1
 N))) (RN.g2 N) (RN.s N), NbF xs (RS.mk (RS.O (RN.g2 N)) (RS.L (RN.g2 N)) (RS.C (RN.g2 N)) (RS.B (RN.g2 N))) (RN.g3 N) (RN.z N), decide (RN.z N > (1024 : Int)) = false, w6 (RN.x N) ∧ w6 (RN.y N) ∧ w6 a ∧ w6 b, decide (cmpN
 (RN.x N) (RN.y N) a b ≤ (0 : Int)) = false, decide (RN.q N > (1073741824 : Int)) = false, opB (RN.o N) = true, opB (RN.s N) = false]) := by kernel_rfl
theorem sbf_6 (inr : Bool) (xs tb : List Value) (s : RS) (N : RN) (k a b : Int) (i : Nat) : prjZ [2, 3] (codeZ (sbV N noL) Try.prog (runZ (sbV N noL) Try.prog 9) 18 inr 100000 (sbB Try.prog) (SL 96 (sbS k i)) (sbH xs tb s a b []) 8 [true, false, false, false, true, false, true, true, false, true, true, true, false, false, false, false, true, true, true]) =
  Res.ok ((Xt.ret, 96, [(2, Value.pointer none), (3, Value.int IntKind.i64 (4 : Int))], [(1, Rw.mk Kd.shut [Value.slice (some (Addr.mk 0 (RS.O (RN.g3 N)) none)) (RS.L (RN.g3 N)) (RS.C (RN.g3 N)), Value.bool (RS.B (RN.g3
 N))]), (8, Rw.mk Kd.shut [Value.int IntKind.u64 (RN.x N), Value.int IntKind.u64 (RN.y N), Value.int IntKind.i64 (RN.q N), Value.int IntKind.i64 (RN.o N), Value.int IntKind.i64 (RN.s N), Value.slice none 0 0]), (3, Rw.mk
 Kd.shut [Value.int IntKind.u64 a, Value.int IntKind.u64 b]), (2, Rw.mk Kd.shut tb), (0, Rw.mk Kd.old xs)], 9, [1, 8, 8, 8, 1, 1, 1, 8, 1], []), [], [decide ((↑i : Int) < k) = true, RS.B s = false, decide ((16 : Int) >
 (↑(RS.L s) : Int)) = false, RS.C s < 18446744073709551616, (0 : Int) ≤ (16 : Int) ∧ (16 : Int) ≤ (↑(RS.C s) : Int), (0 : Int) ≤ (16 : Int) ∧ (16 : Int) ≤ (16 : Int), RS.C s < 18446744073709551616, (0 : Int) ≤ (16 : Int) ∧
 (16 : Int) ≤ (↑(RS.L s) : Int), 16 ≤ 16 ∧ 16 ≤ 9223372036854775807, adN (loO none (RS.O s) 0 16 1) 16 ≤ List.length xs, Fl (tkD (loO none (RS.O s) 0 16 1) 16 xs), Byts (tkD (loO none (RS.O s) 0 16 1) 16 xs) ∧ 16 = 16 ∧
 RN.x N = r8 (List.drop 8 (tkD (loO none (RS.O s) 0 16 1) 16 xs)) ∧ RN.y N = r8 (tkD (loO none (RS.O s) 0 16 1) 16 xs), NbF xs (RS.mk (loO (some (Value.int IntKind.i64 (16 : Int))) (RS.O s) 16 (RS.C s) 1) (RS.L s - 16)
 (RS.C s - 16) (RS.B s)) (RN.g N) (RN.q N), NbF xs (RS.mk (RS.O (RN.g N)) (RS.L (RN.g N)) (RS.C (RN.g N)) (RS.B (RN.g N))) (RN.g1 N) (RN.o N), NbF xs (RS.mk (RS.O (RN.g1 N)) (RS.L (RN.g1 N)) (RS.C (RN.g1 N)) (RS.B (RN.g1
 N))) (RN.g2 N) (RN.s N), NbF xs (RS.mk (RS.O (RN.g2 N)) (RS.L (RN.g2 N)) (RS.C (RN.g2 N)) (RS.B (RN.g2 N))) (RN.g3 N) (RN.z N), decide (RN.z N > (1024 : Int)) = false, w6 (RN.x N) ∧ w6 (RN.y N) ∧ w6 a ∧ w6 b, decide (cmpN
 (RN.x N) (RN.y N) a b ≤ (0 : Int)) = false, decide (RN.q N > (1073741824 : Int)) = false, opB (RN.o N) = true, opB (RN.s N) = true, decide (RN.s N > RN.o N) = true]) := by kernel_rfl
theorem sbf_x (inr : Bool) (N : RN) (h : Hp) (k : Int) (i : Nat) : prjZ [4, 5] (codeZ (sbV N noL) Try.prog (runZ (sbV N noL) Try.prog 9) 18 inr 100000 (sbB Try.prog) (SL 96 (sbS k i)) h 8 [false]) =
  Res.ok ((Xt.exit 0, 96, [(4, Value.pointer (some (Addr.mk 1 0 none))), (5, Value.pointer (some (Addr.mk 2 0 none)))], h, 8, [], []), [], [decide ((↑i : Int) < k) = false]) := by kernel_rfl
def zSe : List Value := [.int .u64 0, .int .u64 0, .int .i64 0, .int .i64 0, .int .i64 0, .slice none 0 0]
/-- A session, by names. -/
structure Se where
  x : Int
  y : Int
  q : Int
  o : Int
  s : Int
  n : Nat
  R : List Value
def seV (e : Se) (r : Nat) : List Value := [.int .u64 e.x, .int .u64 e.y, .int .i64 e.q, .int .i64 e.o, .int .i64 e.s, .slice (some ⟨r, 0, none⟩) e.n (capBig + r)]
def seR (e : Se) : Rw := ⟨.held e.n, e.R⟩
def tab0 : List Value := zSe ++ zSe ++ zSe ++ zSe ++ [.int .i64 0, .bool true]
def tab1 (e0 : Se) : List Value := seV e0 4 ++ zSe ++ zSe ++ zSe ++ [.int .i64 1, .bool true]
def tab2 (e0 e1 : Se) : List Value := seV e0 4 ++ seV e1 5 ++ zSe ++ zSe ++ [.int .i64 2, .bool true]
def tab3 (e0 e1 e2 : Se) : List Value := seV e0 4 ++ seV e1 5 ++ seV e2 6 ++ zSe ++ [.int .i64 3, .bool true]
def tab4 (e0 e1 e2 e3 : Se) : List Value := seV e0 4 ++ seV e1 5 ++ seV e2 6 ++ seV e3 7 ++ [.int .i64 4, .bool true]
theorem sbo_0 (inr : Bool) (xs : List Value) (s : RS) (N : RN) (k a b : Int) : prjZ [4, 5, 6, 7, 18, 19] (codeZ (sbV N noL) Try.prog (runZ (sbV N noL) Try.prog 9) 18 inr 100000 (sbB Try.prog) (SL 96 (sbS k 0)) (sbH xs tab0 s a b []) 8 [true, false, false, false, true, false, true, true, false, true, true, true, false, false, false, false, true, true, false, false, false]) =
  Res.ok ((Xt.normal, 96, [(4, Value.pointer (some (Addr.mk 1 0 none))), (5, Value.pointer (some (Addr.mk 2 0 none))), (6, Value.int IntKind.i64 k), (7, Value.pointer (some (Addr.mk 3 0 none))), (18, Value.int IntKind.i64
 k), (19, Value.int IntKind.i64 (1 : Int))], [(12, Rw.mk Kd.shut [Value.pointer (some (Addr.mk 2 0 none))]), (11, Rw.mk Kd.shut [Value.int IntKind.i64 (0 : Int)]), (10, Rw.mk Kd.shut [Value.int IntKind.u64 (RN.x N),
 Value.int IntKind.u64 (RN.y N), Value.int IntKind.i64 (RN.q N), Value.int IntKind.i64 (RN.o N), Value.int IntKind.i64 (RN.s N), Value.slice (some (Addr.mk 9 0 none)) (RN.n N) (capBig + 9)]), (9, Rw.mk (Kd.held (RN.n N))
 (RN.R N)), (1, Rw.mk Kd.shut [Value.slice (some (Addr.mk 0 (loO (some (Value.int IntKind.i64 (RN.z N))) (RS.O (RN.g3 N)) (Int.toNat (RN.z N)) (RS.C (RN.g3 N)) 1) none)) (sbN (RS.L (RN.g3 N)) (Int.toNat (RN.z N))) (sbN
 (RS.C (RN.g3 N)) (Int.toNat (RN.z N))), Value.bool (RS.B (RN.g3 N))]), (8, Rw.mk Kd.shut [Value.int IntKind.u64 (RN.x N), Value.int IntKind.u64 (RN.y N), Value.int IntKind.i64 (RN.q N), Value.int IntKind.i64 (RN.o N),
 Value.int IntKind.i64 (RN.s N), Value.slice (some (Addr.mk 9 0 none)) (RN.n N) (capBig + 9)]), (3, Rw.mk Kd.shut [Value.int IntKind.u64 (RN.x N), Value.int IntKind.u64 (RN.y N)]), (2, Rw.mk Kd.shut [Value.int IntKind.u64
 (RN.x N), Value.int IntKind.u64 (RN.y N), Value.int IntKind.i64 (RN.q N), Value.int IntKind.i64 (RN.o N), Value.int IntKind.i64 (RN.s N), Value.slice (some (Addr.mk 9 0 none)) (RN.n N) (capBig + 9), Value.int IntKind.u64
 (0 : Int), Value.int IntKind.u64 (0 : Int), Value.int IntKind.i64 (0 : Int), Value.int IntKind.i64 (0 : Int), Value.int IntKind.i64 (0 : Int), Value.slice none 0 0, Value.int IntKind.u64 (0 : Int), Value.int IntKind.u64
 (0 : Int), Value.int IntKind.i64 (0 : Int), Value.int IntKind.i64 (0 : Int), Value.int IntKind.i64 (0 : Int), Value.slice none 0 0, Value.int IntKind.u64 (0 : Int), Value.int IntKind.u64 (0 : Int), Value.int IntKind.i64
 (0 : Int), Value.int IntKind.i64 (0 : Int), Value.int IntKind.i64 (0 : Int), Value.slice none 0 0, Value.int IntKind.i64 (1 : Int), Value.bool true]), (0, Rw.mk Kd.old xs)], 15, [2, 2, 2, 3, 8, 1, 1, 8, 8, 8, 1, 1, 1, 8,
 1], []), [], [decide ((0 : Int) < k) = true, RS.B s = false, decide ((16 : Int) > (↑(RS.L s) : Int)) = false, RS.C s < 18446744073709551616, (0 : Int) ≤ (16 : Int) ∧ (16 : Int) ≤ (↑(RS.C s) : Int), (0 : Int) ≤ (16 : Int)
 ∧ (16 : Int) ≤ (16 : Int), RS.C s < 18446744073709551616, (0 : Int) ≤ (16 : Int) ∧ (16 : Int) ≤ (↑(RS.L s) : Int), 16 ≤ 16 ∧ 16 ≤ 9223372036854775807, adN (loO none (RS.O s) 0 16 1) 16 ≤ List.length xs, Fl (tkD (loO none
 (RS.O s) 0 16 1) 16 xs), Byts (tkD (loO none (RS.O s) 0 16 1) 16 xs) ∧ 16 = 16 ∧ RN.x N = r8 (List.drop 8 (tkD (loO none (RS.O s) 0 16 1) 16 xs)) ∧ RN.y N = r8 (tkD (loO none (RS.O s) 0 16 1) 16 xs), NbF xs (RS.mk (loO
 (some (Value.int IntKind.i64 (16 : Int))) (RS.O s) 16 (RS.C s) 1) (RS.L s - 16) (RS.C s - 16) (RS.B s)) (RN.g N) (RN.q N), NbF xs (RS.mk (RS.O (RN.g N)) (RS.L (RN.g N)) (RS.C (RN.g N)) (RS.B (RN.g N))) (RN.g1 N) (RN.o N),
 NbF xs (RS.mk (RS.O (RN.g1 N)) (RS.L (RN.g1 N)) (RS.C (RN.g1 N)) (RS.B (RN.g1 N))) (RN.g2 N) (RN.s N), NbF xs (RS.mk (RS.O (RN.g2 N)) (RS.L (RN.g2 N)) (RS.C (RN.g2 N)) (RS.B (RN.g2 N))) (RN.g3 N) (RN.z N), decide (RN.z N
 > (1024 : Int)) = false, w6 (RN.x N) ∧ w6 (RN.y N) ∧ w6 a ∧ w6 b, decide (cmpN (RN.x N) (RN.y N) a b ≤ (0 : Int)) = false, decide (RN.q N > (1073741824 : Int)) = false, opB (RN.o N) = true, opB (RN.s N) = true, decide
 (RN.s N > RN.o N) = false, RS.B (RN.g3 N) = false, decide (RN.z N > (↑(RS.L (RN.g3 N)) : Int)) = false, RS.C (RN.g3 N) < 18446744073709551616, (0 : Int) ≤ RN.z N ∧ RN.z N ≤ (↑(RS.C (RN.g3 N)) : Int), (0 : Int) ≤ RN.z N ∧
 RN.z N ≤ (↑(Int.toNat (RN.z N)) : Int), RS.C (RN.g3 N) < 18446744073709551616, (0 : Int) ≤ RN.z N ∧ RN.z N ≤ (↑(RS.L (RN.g3 N)) : Int), Int.toNat (RN.z N) ≤ Int.toNat (RN.z N) ∧ Int.toNat (RN.z N) ≤ 9223372036854775807,
 adN (loO none (RS.O (RN.g3 N)) 0 (Int.toNat (RN.z N)) 1) (Int.toNat (RN.z N)) ≤ List.length xs, Fl (tkD (loO none (RS.O (RN.g3 N)) 0 (Int.toNat (RN.z N)) 1) (Int.toNat (RN.z N)) xs), Byts (RN.R N) ∧ RN.n N ≤
 140737488355328 ∧ RN.R N = tkD (loO none (RS.O (RN.g3 N)) 0 (Int.toNat (RN.z N)) 1) (Int.toNat (RN.z N)) xs ∧ RN.n N = Int.toNat (RN.z N), rg IntKind.i64 (1 : Int)]) := by kernel_rfl
theorem sbb_0 (inr : Bool) (xs : List Value) (s : RS) (N : RN) (k a b : Int) : prjZ [4, 5, 6, 7, 18, 19] (codeZ (sbV N noL) Try.prog (runZ (sbV N noL) Try.prog 9) 18 inr 100000 (sbB Try.prog) (SL 96 (sbS k 0)) (sbH xs tab0 s a b []) 8 [true, false, false, false, true, false, true, true, false, true, true, true, false, false, false, false, true, true, false, true]) =
  Res.ok ((Xt.normal, 96, [(4, Value.pointer (some (Addr.mk 1 0 none))), (5, Value.pointer (some (Addr.mk 2 0 none))), (6, Value.int IntKind.i64 k), (7, Value.pointer (some (Addr.mk 3 0 none))), (18, Value.int IntKind.i64
 k), (19, Value.int IntKind.i64 (1 : Int))], [(13, Rw.mk Kd.shut [Value.pointer (some (Addr.mk 2 0 none))]), (12, Rw.mk Kd.shut [Value.int IntKind.i64 (0 : Int)]), (11, Rw.mk Kd.shut [Value.int IntKind.u64 (RN.x N),
 Value.int IntKind.u64 (RN.y N), Value.int IntKind.i64 (RN.q N), Value.int IntKind.i64 (RN.o N), Value.int IntKind.i64 (RN.s N), Value.slice (some (Addr.mk 10 0 none)) (RN.n N) (capBig + 10)]), (10, Rw.mk (Kd.held (RN.n
 N)) (RN.R N)), (9, Rw.mk Kd.shut (zrep [Value.int IntKind.u8 (0 : Int)] (Int.toNat (if (16 : Int) < RN.z N then (16 : Int) else RN.z N)))), (1, Rw.mk Kd.shut [Value.slice (some (Addr.mk 0 (RS.O (RN.g3 N)) none)) (RS.L
 (RN.g3 N)) (RS.C (RN.g3 N)), Value.bool true]), (8, Rw.mk Kd.shut [Value.int IntKind.u64 (RN.x N), Value.int IntKind.u64 (RN.y N), Value.int IntKind.i64 (RN.q N), Value.int IntKind.i64 (RN.o N), Value.int IntKind.i64
 (RN.s N), Value.slice (some (Addr.mk 10 0 none)) (RN.n N) (capBig + 10)]), (3, Rw.mk Kd.shut [Value.int IntKind.u64 (RN.x N), Value.int IntKind.u64 (RN.y N)]), (2, Rw.mk Kd.shut [Value.int IntKind.u64 (RN.x N), Value.int
 IntKind.u64 (RN.y N), Value.int IntKind.i64 (RN.q N), Value.int IntKind.i64 (RN.o N), Value.int IntKind.i64 (RN.s N), Value.slice (some (Addr.mk 10 0 none)) (RN.n N) (capBig + 10), Value.int IntKind.u64 (0 : Int),
 Value.int IntKind.u64 (0 : Int), Value.int IntKind.i64 (0 : Int), Value.int IntKind.i64 (0 : Int), Value.int IntKind.i64 (0 : Int), Value.slice none 0 0, Value.int IntKind.u64 (0 : Int), Value.int IntKind.u64 (0 : Int),
 Value.int IntKind.i64 (0 : Int), Value.int IntKind.i64 (0 : Int), Value.int IntKind.i64 (0 : Int), Value.slice none 0 0, Value.int IntKind.u64 (0 : Int), Value.int IntKind.u64 (0 : Int), Value.int IntKind.i64 (0 : Int),
 Value.int IntKind.i64 (0 : Int), Value.int IntKind.i64 (0 : Int), Value.slice none 0 0, Value.int IntKind.i64 (1 : Int), Value.bool true]), (0, Rw.mk Kd.old xs)], 16, [2, 2, 2, 3, 8, 1, 1, 8, 8, 8, 1, 1, 1, 8, 1], []),
 [], [decide ((0 : Int) < k) = true, RS.B s = false, decide ((16 : Int) > (↑(RS.L s) : Int)) = false, RS.C s < 18446744073709551616, (0 : Int) ≤ (16 : Int) ∧ (16 : Int) ≤ (↑(RS.C s) : Int), (0 : Int) ≤ (16 : Int) ∧ (16 :
 Int) ≤ (16 : Int), RS.C s < 18446744073709551616, (0 : Int) ≤ (16 : Int) ∧ (16 : Int) ≤ (↑(RS.L s) : Int), 16 ≤ 16 ∧ 16 ≤ 9223372036854775807, adN (loO none (RS.O s) 0 16 1) 16 ≤ List.length xs, Fl (tkD (loO none (RS.O s)
 0 16 1) 16 xs), Byts (tkD (loO none (RS.O s) 0 16 1) 16 xs) ∧ 16 = 16 ∧ RN.x N = r8 (List.drop 8 (tkD (loO none (RS.O s) 0 16 1) 16 xs)) ∧ RN.y N = r8 (tkD (loO none (RS.O s) 0 16 1) 16 xs), NbF xs (RS.mk (loO (some
 (Value.int IntKind.i64 (16 : Int))) (RS.O s) 16 (RS.C s) 1) (RS.L s - 16) (RS.C s - 16) (RS.B s)) (RN.g N) (RN.q N), NbF xs (RS.mk (RS.O (RN.g N)) (RS.L (RN.g N)) (RS.C (RN.g N)) (RS.B (RN.g N))) (RN.g1 N) (RN.o N), NbF
 xs (RS.mk (RS.O (RN.g1 N)) (RS.L (RN.g1 N)) (RS.C (RN.g1 N)) (RS.B (RN.g1 N))) (RN.g2 N) (RN.s N), NbF xs (RS.mk (RS.O (RN.g2 N)) (RS.L (RN.g2 N)) (RS.C (RN.g2 N)) (RS.B (RN.g2 N))) (RN.g3 N) (RN.z N), decide (RN.z N >
 (1024 : Int)) = false, w6 (RN.x N) ∧ w6 (RN.y N) ∧ w6 a ∧ w6 b, decide (cmpN (RN.x N) (RN.y N) a b ≤ (0 : Int)) = false, decide (RN.q N > (1073741824 : Int)) = false, opB (RN.o N) = true, opB (RN.s N) = true, decide (RN.s
 N > RN.o N) = false, RS.B (RN.g3 N) = true, ((0 : Int) ≤ if (16 : Int) < RN.z N then (16 : Int) else RN.z N) ∧ ((if (16 : Int) < RN.z N then (16 : Int) else RN.z N) ≤ if (16 : Int) < RN.z N then (16 : Int) else RN.z N) ∧
 ((1 : Int) * if (16 : Int) < RN.z N then (16 : Int) else RN.z N) ≤ (281474976710656 : Int) ∧ (if (16 : Int) < RN.z N then (16 : Int) else RN.z N) ≤ (9223372036854775807 : Int), Int.toNat (if (16 : Int) < RN.z N then (16 :
 Int) else RN.z N) ≤ Int.toNat (if (16 : Int) < RN.z N then (16 : Int) else RN.z N) ∧ Int.toNat (if (16 : Int) < RN.z N then (16 : Int) else RN.z N) ≤ 9223372036854775807, Int.toNat (if (16 : Int) < RN.z N then (16 : Int)
 else RN.z N) ≤ List.length (zrep [Value.int IntKind.u8 (0 : Int)] (Int.toNat (if (16 : Int) < RN.z N then (16 : Int) else RN.z N))), Fl (List.take (Int.toNat (if (16 : Int) < RN.z N then (16 : Int) else RN.z N)) (zrep
 [Value.int IntKind.u8 (0 : Int)] (Int.toNat (if (16 : Int) < RN.z N then (16 : Int) else RN.z N)))), Byts (RN.R N) ∧ RN.n N ≤ 140737488355328 ∧ RN.R N = List.take (Int.toNat (if (16 : Int) < RN.z N then (16 : Int) else
 RN.z N)) (zrep [Value.int IntKind.u8 (0 : Int)] (Int.toNat (if (16 : Int) < RN.z N then (16 : Int) else RN.z N))) ∧ RN.n N = Int.toNat (if (16 : Int) < RN.z N then (16 : Int) else RN.z N), rg IntKind.i64 (1 : Int)]) := by kernel_rfl
theorem sbl_0 (inr : Bool) (xs : List Value) (s : RS) (N : RN) (k a b : Int) : prjZ [4, 5, 6, 7, 18, 19] (codeZ (sbV N noL) Try.prog (runZ (sbV N noL) Try.prog 9) 18 inr 100000 (sbB Try.prog) (SL 96 (sbS k 0)) (sbH xs tab0 s a b []) 8 [true, false, false, false, true, false, true, true, false, true, true, true, false, false, false, false, true, true, false, false, true]) =
  Res.ok ((Xt.normal, 96, [(4, Value.pointer (some (Addr.mk 1 0 none))), (5, Value.pointer (some (Addr.mk 2 0 none))), (6, Value.int IntKind.i64 k), (7, Value.pointer (some (Addr.mk 3 0 none))), (18, Value.int IntKind.i64
 k), (19, Value.int IntKind.i64 (1 : Int))], [(13, Rw.mk Kd.shut [Value.pointer (some (Addr.mk 2 0 none))]), (12, Rw.mk Kd.shut [Value.int IntKind.i64 (0 : Int)]), (11, Rw.mk Kd.shut [Value.int IntKind.u64 (RN.x N),
 Value.int IntKind.u64 (RN.y N), Value.int IntKind.i64 (RN.q N), Value.int IntKind.i64 (RN.o N), Value.int IntKind.i64 (RN.s N), Value.slice (some (Addr.mk 10 0 none)) (RN.n N) (capBig + 10)]), (10, Rw.mk (Kd.held (RN.n
 N)) (RN.R N)), (9, Rw.mk Kd.shut (zrep [Value.int IntKind.u8 (0 : Int)] (Int.toNat (if (16 : Int) < RN.z N then (16 : Int) else RN.z N)))), (1, Rw.mk Kd.shut [Value.slice (some (Addr.mk 0 (RS.O (RN.g3 N)) none)) (RS.L
 (RN.g3 N)) (RS.C (RN.g3 N)), Value.bool true]), (8, Rw.mk Kd.shut [Value.int IntKind.u64 (RN.x N), Value.int IntKind.u64 (RN.y N), Value.int IntKind.i64 (RN.q N), Value.int IntKind.i64 (RN.o N), Value.int IntKind.i64
 (RN.s N), Value.slice (some (Addr.mk 10 0 none)) (RN.n N) (capBig + 10)]), (3, Rw.mk Kd.shut [Value.int IntKind.u64 (RN.x N), Value.int IntKind.u64 (RN.y N)]), (2, Rw.mk Kd.shut [Value.int IntKind.u64 (RN.x N), Value.int
 IntKind.u64 (RN.y N), Value.int IntKind.i64 (RN.q N), Value.int IntKind.i64 (RN.o N), Value.int IntKind.i64 (RN.s N), Value.slice (some (Addr.mk 10 0 none)) (RN.n N) (capBig + 10), Value.int IntKind.u64 (0 : Int),
 Value.int IntKind.u64 (0 : Int), Value.int IntKind.i64 (0 : Int), Value.int IntKind.i64 (0 : Int), Value.int IntKind.i64 (0 : Int), Value.slice none 0 0, Value.int IntKind.u64 (0 : Int), Value.int IntKind.u64 (0 : Int),
 Value.int IntKind.i64 (0 : Int), Value.int IntKind.i64 (0 : Int), Value.int IntKind.i64 (0 : Int), Value.slice none 0 0, Value.int IntKind.u64 (0 : Int), Value.int IntKind.u64 (0 : Int), Value.int IntKind.i64 (0 : Int),
 Value.int IntKind.i64 (0 : Int), Value.int IntKind.i64 (0 : Int), Value.slice none 0 0, Value.int IntKind.i64 (1 : Int), Value.bool true]), (0, Rw.mk Kd.old xs)], 16, [2, 2, 2, 3, 8, 1, 1, 8, 8, 8, 1, 1, 1, 8, 1], []),
 [], [decide ((0 : Int) < k) = true, RS.B s = false, decide ((16 : Int) > (↑(RS.L s) : Int)) = false, RS.C s < 18446744073709551616, (0 : Int) ≤ (16 : Int) ∧ (16 : Int) ≤ (↑(RS.C s) : Int), (0 : Int) ≤ (16 : Int) ∧ (16 :
 Int) ≤ (16 : Int), RS.C s < 18446744073709551616, (0 : Int) ≤ (16 : Int) ∧ (16 : Int) ≤ (↑(RS.L s) : Int), 16 ≤ 16 ∧ 16 ≤ 9223372036854775807, adN (loO none (RS.O s) 0 16 1) 16 ≤ List.length xs, Fl (tkD (loO none (RS.O s)
 0 16 1) 16 xs), Byts (tkD (loO none (RS.O s) 0 16 1) 16 xs) ∧ 16 = 16 ∧ RN.x N = r8 (List.drop 8 (tkD (loO none (RS.O s) 0 16 1) 16 xs)) ∧ RN.y N = r8 (tkD (loO none (RS.O s) 0 16 1) 16 xs), NbF xs (RS.mk (loO (some
 (Value.int IntKind.i64 (16 : Int))) (RS.O s) 16 (RS.C s) 1) (RS.L s - 16) (RS.C s - 16) (RS.B s)) (RN.g N) (RN.q N), NbF xs (RS.mk (RS.O (RN.g N)) (RS.L (RN.g N)) (RS.C (RN.g N)) (RS.B (RN.g N))) (RN.g1 N) (RN.o N), NbF
 xs (RS.mk (RS.O (RN.g1 N)) (RS.L (RN.g1 N)) (RS.C (RN.g1 N)) (RS.B (RN.g1 N))) (RN.g2 N) (RN.s N), NbF xs (RS.mk (RS.O (RN.g2 N)) (RS.L (RN.g2 N)) (RS.C (RN.g2 N)) (RS.B (RN.g2 N))) (RN.g3 N) (RN.z N), decide (RN.z N >
 (1024 : Int)) = false, w6 (RN.x N) ∧ w6 (RN.y N) ∧ w6 a ∧ w6 b, decide (cmpN (RN.x N) (RN.y N) a b ≤ (0 : Int)) = false, decide (RN.q N > (1073741824 : Int)) = false, opB (RN.o N) = true, opB (RN.s N) = true, decide (RN.s
 N > RN.o N) = false, RS.B (RN.g3 N) = false, decide (RN.z N > (↑(RS.L (RN.g3 N)) : Int)) = true, ((0 : Int) ≤ if (16 : Int) < RN.z N then (16 : Int) else RN.z N) ∧ ((if (16 : Int) < RN.z N then (16 : Int) else RN.z N) ≤
 if (16 : Int) < RN.z N then (16 : Int) else RN.z N) ∧ ((1 : Int) * if (16 : Int) < RN.z N then (16 : Int) else RN.z N) ≤ (281474976710656 : Int) ∧ (if (16 : Int) < RN.z N then (16 : Int) else RN.z N) ≤
 (9223372036854775807 : Int), Int.toNat (if (16 : Int) < RN.z N then (16 : Int) else RN.z N) ≤ Int.toNat (if (16 : Int) < RN.z N then (16 : Int) else RN.z N) ∧ Int.toNat (if (16 : Int) < RN.z N then (16 : Int) else RN.z N)
 ≤ 9223372036854775807, Int.toNat (if (16 : Int) < RN.z N then (16 : Int) else RN.z N) ≤ List.length (zrep [Value.int IntKind.u8 (0 : Int)] (Int.toNat (if (16 : Int) < RN.z N then (16 : Int) else RN.z N))), Fl (List.take
 (Int.toNat (if (16 : Int) < RN.z N then (16 : Int) else RN.z N)) (zrep [Value.int IntKind.u8 (0 : Int)] (Int.toNat (if (16 : Int) < RN.z N then (16 : Int) else RN.z N)))), Byts (RN.R N) ∧ RN.n N ≤ 140737488355328 ∧ RN.R N
 = List.take (Int.toNat (if (16 : Int) < RN.z N then (16 : Int) else RN.z N)) (zrep [Value.int IntKind.u8 (0 : Int)] (Int.toNat (if (16 : Int) < RN.z N then (16 : Int) else RN.z N))) ∧ RN.n N = Int.toNat (if (16 : Int) <
 RN.z N then (16 : Int) else RN.z N), rg IntKind.i64 (1 : Int)]) := by kernel_rfl
theorem sbo_1 (inr : Bool) (xs : List Value) (s : RS) (N : RN) (k a b : Int) (e0 : Se) : prjZ [4, 5, 6, 7, 18, 19] (codeZ (sbV N noL) Try.prog (runZ (sbV N noL) Try.prog 9) 18 inr 100000 (sbB Try.prog) (SL 96 (sbS k 1)) (sbH xs (tab1 e0) s a b [(4, seR e0)]) 8 [true, false, false, false, true, false, true, true, false, true, true, true, false, false, false, false, true, true, false, false, false, true]) =
  Res.ok ((Xt.normal, 96, [(4, Value.pointer (some (Addr.mk 1 0 none))), (5, Value.pointer (some (Addr.mk 2 0 none))), (6, Value.int IntKind.i64 k), (7, Value.pointer (some (Addr.mk 3 0 none))), (18, Value.int IntKind.i64
 k), (19, Value.int IntKind.i64 (2 : Int))], [(12, Rw.mk Kd.shut [Value.pointer (some (Addr.mk 2 0 none))]), (11, Rw.mk Kd.shut [Value.int IntKind.i64 (1 : Int)]), (10, Rw.mk Kd.shut [Value.int IntKind.u64 (RN.x N),
 Value.int IntKind.u64 (RN.y N), Value.int IntKind.i64 (RN.q N), Value.int IntKind.i64 (RN.o N), Value.int IntKind.i64 (RN.s N), Value.slice (some (Addr.mk 9 0 none)) (RN.n N) (capBig + 9)]), (9, Rw.mk (Kd.held (RN.n N))
 (RN.R N)), (1, Rw.mk Kd.shut [Value.slice (some (Addr.mk 0 (loO (some (Value.int IntKind.i64 (RN.z N))) (RS.O (RN.g3 N)) (Int.toNat (RN.z N)) (RS.C (RN.g3 N)) 1) none)) (sbN (RS.L (RN.g3 N)) (Int.toNat (RN.z N))) (sbN
 (RS.C (RN.g3 N)) (Int.toNat (RN.z N))), Value.bool (RS.B (RN.g3 N))]), (8, Rw.mk Kd.shut [Value.int IntKind.u64 (RN.x N), Value.int IntKind.u64 (RN.y N), Value.int IntKind.i64 (RN.q N), Value.int IntKind.i64 (RN.o N),
 Value.int IntKind.i64 (RN.s N), Value.slice (some (Addr.mk 9 0 none)) (RN.n N) (capBig + 9)]), (3, Rw.mk Kd.shut [Value.int IntKind.u64 (RN.x N), Value.int IntKind.u64 (RN.y N)]), (2, Rw.mk Kd.shut [Value.int IntKind.u64
 (Se.x e0), Value.int IntKind.u64 (Se.y e0), Value.int IntKind.i64 (Se.q e0), Value.int IntKind.i64 (Se.o e0), Value.int IntKind.i64 (Se.s e0), Value.slice (some (Addr.mk 4 0 none)) (Se.n e0) (capBig + 4), Value.int
 IntKind.u64 (RN.x N), Value.int IntKind.u64 (RN.y N), Value.int IntKind.i64 (RN.q N), Value.int IntKind.i64 (RN.o N), Value.int IntKind.i64 (RN.s N), Value.slice (some (Addr.mk 9 0 none)) (RN.n N) (capBig + 9), Value.int
 IntKind.u64 (0 : Int), Value.int IntKind.u64 (0 : Int), Value.int IntKind.i64 (0 : Int), Value.int IntKind.i64 (0 : Int), Value.int IntKind.i64 (0 : Int), Value.slice none 0 0, Value.int IntKind.u64 (0 : Int), Value.int
 IntKind.u64 (0 : Int), Value.int IntKind.i64 (0 : Int), Value.int IntKind.i64 (0 : Int), Value.int IntKind.i64 (0 : Int), Value.slice none 0 0, Value.int IntKind.i64 (2 : Int), Value.bool true]), (0, Rw.mk Kd.old xs), (4,
 Rw.mk (Kd.held (Se.n e0)) (Se.R e0))], 15, [2, 2, 2, 3, 8, 1, 1, 8, 8, 8, 1, 1, 1, 8, 1], []), [], [decide ((1 : Int) < k) = true, RS.B s = false, decide ((16 : Int) > (↑(RS.L s) : Int)) = false, RS.C s <
 18446744073709551616, (0 : Int) ≤ (16 : Int) ∧ (16 : Int) ≤ (↑(RS.C s) : Int), (0 : Int) ≤ (16 : Int) ∧ (16 : Int) ≤ (16 : Int), RS.C s < 18446744073709551616, (0 : Int) ≤ (16 : Int) ∧ (16 : Int) ≤ (↑(RS.L s) : Int), 16 ≤
 16 ∧ 16 ≤ 9223372036854775807, adN (loO none (RS.O s) 0 16 1) 16 ≤ List.length xs, Fl (tkD (loO none (RS.O s) 0 16 1) 16 xs), Byts (tkD (loO none (RS.O s) 0 16 1) 16 xs) ∧ 16 = 16 ∧ RN.x N = r8 (List.drop 8 (tkD (loO none
 (RS.O s) 0 16 1) 16 xs)) ∧ RN.y N = r8 (tkD (loO none (RS.O s) 0 16 1) 16 xs), NbF xs (RS.mk (loO (some (Value.int IntKind.i64 (16 : Int))) (RS.O s) 16 (RS.C s) 1) (RS.L s - 16) (RS.C s - 16) (RS.B s)) (RN.g N) (RN.q N),
 NbF xs (RS.mk (RS.O (RN.g N)) (RS.L (RN.g N)) (RS.C (RN.g N)) (RS.B (RN.g N))) (RN.g1 N) (RN.o N), NbF xs (RS.mk (RS.O (RN.g1 N)) (RS.L (RN.g1 N)) (RS.C (RN.g1 N)) (RS.B (RN.g1 N))) (RN.g2 N) (RN.s N), NbF xs (RS.mk (RS.O
 (RN.g2 N)) (RS.L (RN.g2 N)) (RS.C (RN.g2 N)) (RS.B (RN.g2 N))) (RN.g3 N) (RN.z N), decide (RN.z N > (1024 : Int)) = false, w6 (RN.x N) ∧ w6 (RN.y N) ∧ w6 a ∧ w6 b, decide (cmpN (RN.x N) (RN.y N) a b ≤ (0 : Int)) = false,
 decide (RN.q N > (1073741824 : Int)) = false, opB (RN.o N) = true, opB (RN.s N) = true, decide (RN.s N > RN.o N) = false, RS.B (RN.g3 N) = false, decide (RN.z N > (↑(RS.L (RN.g3 N)) : Int)) = false, RS.C (RN.g3 N) <
 18446744073709551616, (0 : Int) ≤ RN.z N ∧ RN.z N ≤ (↑(RS.C (RN.g3 N)) : Int), (0 : Int) ≤ RN.z N ∧ RN.z N ≤ (↑(Int.toNat (RN.z N)) : Int), RS.C (RN.g3 N) < 18446744073709551616, (0 : Int) ≤ RN.z N ∧ RN.z N ≤ (↑(RS.L
 (RN.g3 N)) : Int), Int.toNat (RN.z N) ≤ Int.toNat (RN.z N) ∧ Int.toNat (RN.z N) ≤ 9223372036854775807, adN (loO none (RS.O (RN.g3 N)) 0 (Int.toNat (RN.z N)) 1) (Int.toNat (RN.z N)) ≤ List.length xs, Fl (tkD (loO none
 (RS.O (RN.g3 N)) 0 (Int.toNat (RN.z N)) 1) (Int.toNat (RN.z N)) xs), Byts (RN.R N) ∧ RN.n N ≤ 140737488355328 ∧ RN.R N = tkD (loO none (RS.O (RN.g3 N)) 0 (Int.toNat (RN.z N)) 1) (Int.toNat (RN.z N)) xs ∧ RN.n N =
 Int.toNat (RN.z N), w6 (Se.x e0) ∧ w6 (Se.y e0) ∧ w6 (RN.x N) ∧ w6 (RN.y N), decide (cmpN (Se.x e0) (Se.y e0) (RN.x N) (RN.y N) < (0 : Int)) = true, rg IntKind.i64 (2 : Int)]) := by kernel_rfl
theorem sbb_1 (inr : Bool) (xs : List Value) (s : RS) (N : RN) (k a b : Int) (e0 : Se) : prjZ [4, 5, 6, 7, 18, 19] (codeZ (sbV N noL) Try.prog (runZ (sbV N noL) Try.prog 9) 18 inr 100000 (sbB Try.prog) (SL 96 (sbS k 1)) (sbH xs (tab1 e0) s a b [(4, seR e0)]) 8 [true, false, false, false, true, false, true, true, false, true, true, true, false, false, false, false, true, true, false, true, true]) =
  Res.ok ((Xt.normal, 96, [(4, Value.pointer (some (Addr.mk 1 0 none))), (5, Value.pointer (some (Addr.mk 2 0 none))), (6, Value.int IntKind.i64 k), (7, Value.pointer (some (Addr.mk 3 0 none))), (18, Value.int IntKind.i64
 k), (19, Value.int IntKind.i64 (2 : Int))], [(13, Rw.mk Kd.shut [Value.pointer (some (Addr.mk 2 0 none))]), (12, Rw.mk Kd.shut [Value.int IntKind.i64 (1 : Int)]), (11, Rw.mk Kd.shut [Value.int IntKind.u64 (RN.x N),
 Value.int IntKind.u64 (RN.y N), Value.int IntKind.i64 (RN.q N), Value.int IntKind.i64 (RN.o N), Value.int IntKind.i64 (RN.s N), Value.slice (some (Addr.mk 10 0 none)) (RN.n N) (capBig + 10)]), (10, Rw.mk (Kd.held (RN.n
 N)) (RN.R N)), (9, Rw.mk Kd.shut (zrep [Value.int IntKind.u8 (0 : Int)] (Int.toNat (if (16 : Int) < RN.z N then (16 : Int) else RN.z N)))), (1, Rw.mk Kd.shut [Value.slice (some (Addr.mk 0 (RS.O (RN.g3 N)) none)) (RS.L
 (RN.g3 N)) (RS.C (RN.g3 N)), Value.bool true]), (8, Rw.mk Kd.shut [Value.int IntKind.u64 (RN.x N), Value.int IntKind.u64 (RN.y N), Value.int IntKind.i64 (RN.q N), Value.int IntKind.i64 (RN.o N), Value.int IntKind.i64
 (RN.s N), Value.slice (some (Addr.mk 10 0 none)) (RN.n N) (capBig + 10)]), (3, Rw.mk Kd.shut [Value.int IntKind.u64 (RN.x N), Value.int IntKind.u64 (RN.y N)]), (2, Rw.mk Kd.shut [Value.int IntKind.u64 (Se.x e0), Value.int
 IntKind.u64 (Se.y e0), Value.int IntKind.i64 (Se.q e0), Value.int IntKind.i64 (Se.o e0), Value.int IntKind.i64 (Se.s e0), Value.slice (some (Addr.mk 4 0 none)) (Se.n e0) (capBig + 4), Value.int IntKind.u64 (RN.x N),
 Value.int IntKind.u64 (RN.y N), Value.int IntKind.i64 (RN.q N), Value.int IntKind.i64 (RN.o N), Value.int IntKind.i64 (RN.s N), Value.slice (some (Addr.mk 10 0 none)) (RN.n N) (capBig + 10), Value.int IntKind.u64 (0 :
 Int), Value.int IntKind.u64 (0 : Int), Value.int IntKind.i64 (0 : Int), Value.int IntKind.i64 (0 : Int), Value.int IntKind.i64 (0 : Int), Value.slice none 0 0, Value.int IntKind.u64 (0 : Int), Value.int IntKind.u64 (0 :
 Int), Value.int IntKind.i64 (0 : Int), Value.int IntKind.i64 (0 : Int), Value.int IntKind.i64 (0 : Int), Value.slice none 0 0, Value.int IntKind.i64 (2 : Int), Value.bool true]), (0, Rw.mk Kd.old xs), (4, Rw.mk (Kd.held
 (Se.n e0)) (Se.R e0))], 16, [2, 2, 2, 3, 8, 1, 1, 8, 8, 8, 1, 1, 1, 8, 1], []), [], [decide ((1 : Int) < k) = true, RS.B s = false, decide ((16 : Int) > (↑(RS.L s) : Int)) = false, RS.C s < 18446744073709551616, (0 : Int)
 ≤ (16 : Int) ∧ (16 : Int) ≤ (↑(RS.C s) : Int), (0 : Int) ≤ (16 : Int) ∧ (16 : Int) ≤ (16 : Int), RS.C s < 18446744073709551616, (0 : Int) ≤ (16 : Int) ∧ (16 : Int) ≤ (↑(RS.L s) : Int), 16 ≤ 16 ∧ 16 ≤ 9223372036854775807,
 adN (loO none (RS.O s) 0 16 1) 16 ≤ List.length xs, Fl (tkD (loO none (RS.O s) 0 16 1) 16 xs), Byts (tkD (loO none (RS.O s) 0 16 1) 16 xs) ∧ 16 = 16 ∧ RN.x N = r8 (List.drop 8 (tkD (loO none (RS.O s) 0 16 1) 16 xs)) ∧
 RN.y N = r8 (tkD (loO none (RS.O s) 0 16 1) 16 xs), NbF xs (RS.mk (loO (some (Value.int IntKind.i64 (16 : Int))) (RS.O s) 16 (RS.C s) 1) (RS.L s - 16) (RS.C s - 16) (RS.B s)) (RN.g N) (RN.q N), NbF xs (RS.mk (RS.O (RN.g
 N)) (RS.L (RN.g N)) (RS.C (RN.g N)) (RS.B (RN.g N))) (RN.g1 N) (RN.o N), NbF xs (RS.mk (RS.O (RN.g1 N)) (RS.L (RN.g1 N)) (RS.C (RN.g1 N)) (RS.B (RN.g1 N))) (RN.g2 N) (RN.s N), NbF xs (RS.mk (RS.O (RN.g2 N)) (RS.L (RN.g2
 N)) (RS.C (RN.g2 N)) (RS.B (RN.g2 N))) (RN.g3 N) (RN.z N), decide (RN.z N > (1024 : Int)) = false, w6 (RN.x N) ∧ w6 (RN.y N) ∧ w6 a ∧ w6 b, decide (cmpN (RN.x N) (RN.y N) a b ≤ (0 : Int)) = false, decide (RN.q N >
 (1073741824 : Int)) = false, opB (RN.o N) = true, opB (RN.s N) = true, decide (RN.s N > RN.o N) = false, RS.B (RN.g3 N) = true, ((0 : Int) ≤ if (16 : Int) < RN.z N then (16 : Int) else RN.z N) ∧ ((if (16 : Int) < RN.z N
 then (16 : Int) else RN.z N) ≤ if (16 : Int) < RN.z N then (16 : Int) else RN.z N) ∧ ((1 : Int) * if (16 : Int) < RN.z N then (16 : Int) else RN.z N) ≤ (281474976710656 : Int) ∧ (if (16 : Int) < RN.z N then (16 : Int)
 else RN.z N) ≤ (9223372036854775807 : Int), Int.toNat (if (16 : Int) < RN.z N then (16 : Int) else RN.z N) ≤ Int.toNat (if (16 : Int) < RN.z N then (16 : Int) else RN.z N) ∧ Int.toNat (if (16 : Int) < RN.z N then (16 :
 Int) else RN.z N) ≤ 9223372036854775807, Int.toNat (if (16 : Int) < RN.z N then (16 : Int) else RN.z N) ≤ List.length (zrep [Value.int IntKind.u8 (0 : Int)] (Int.toNat (if (16 : Int) < RN.z N then (16 : Int) else RN.z
 N))), Fl (List.take (Int.toNat (if (16 : Int) < RN.z N then (16 : Int) else RN.z N)) (zrep [Value.int IntKind.u8 (0 : Int)] (Int.toNat (if (16 : Int) < RN.z N then (16 : Int) else RN.z N)))), Byts (RN.R N) ∧ RN.n N ≤
 140737488355328 ∧ RN.R N = List.take (Int.toNat (if (16 : Int) < RN.z N then (16 : Int) else RN.z N)) (zrep [Value.int IntKind.u8 (0 : Int)] (Int.toNat (if (16 : Int) < RN.z N then (16 : Int) else RN.z N))) ∧ RN.n N =
 Int.toNat (if (16 : Int) < RN.z N then (16 : Int) else RN.z N), w6 (Se.x e0) ∧ w6 (Se.y e0) ∧ w6 (RN.x N) ∧ w6 (RN.y N), decide (cmpN (Se.x e0) (Se.y e0) (RN.x N) (RN.y N) < (0 : Int)) = true, rg IntKind.i64 (2 : Int)]) := by kernel_rfl
theorem sbl_1 (inr : Bool) (xs : List Value) (s : RS) (N : RN) (k a b : Int) (e0 : Se) : prjZ [4, 5, 6, 7, 18, 19] (codeZ (sbV N noL) Try.prog (runZ (sbV N noL) Try.prog 9) 18 inr 100000 (sbB Try.prog) (SL 96 (sbS k 1)) (sbH xs (tab1 e0) s a b [(4, seR e0)]) 8 [true, false, false, false, true, false, true, true, false, true, true, true, false, false, false, false, true, true, false, false, true, true]) =
  Res.ok ((Xt.normal, 96, [(4, Value.pointer (some (Addr.mk 1 0 none))), (5, Value.pointer (some (Addr.mk 2 0 none))), (6, Value.int IntKind.i64 k), (7, Value.pointer (some (Addr.mk 3 0 none))), (18, Value.int IntKind.i64
 k), (19, Value.int IntKind.i64 (2 : Int))], [(13, Rw.mk Kd.shut [Value.pointer (some (Addr.mk 2 0 none))]), (12, Rw.mk Kd.shut [Value.int IntKind.i64 (1 : Int)]), (11, Rw.mk Kd.shut [Value.int IntKind.u64 (RN.x N),
 Value.int IntKind.u64 (RN.y N), Value.int IntKind.i64 (RN.q N), Value.int IntKind.i64 (RN.o N), Value.int IntKind.i64 (RN.s N), Value.slice (some (Addr.mk 10 0 none)) (RN.n N) (capBig + 10)]), (10, Rw.mk (Kd.held (RN.n
 N)) (RN.R N)), (9, Rw.mk Kd.shut (zrep [Value.int IntKind.u8 (0 : Int)] (Int.toNat (if (16 : Int) < RN.z N then (16 : Int) else RN.z N)))), (1, Rw.mk Kd.shut [Value.slice (some (Addr.mk 0 (RS.O (RN.g3 N)) none)) (RS.L
 (RN.g3 N)) (RS.C (RN.g3 N)), Value.bool true]), (8, Rw.mk Kd.shut [Value.int IntKind.u64 (RN.x N), Value.int IntKind.u64 (RN.y N), Value.int IntKind.i64 (RN.q N), Value.int IntKind.i64 (RN.o N), Value.int IntKind.i64
 (RN.s N), Value.slice (some (Addr.mk 10 0 none)) (RN.n N) (capBig + 10)]), (3, Rw.mk Kd.shut [Value.int IntKind.u64 (RN.x N), Value.int IntKind.u64 (RN.y N)]), (2, Rw.mk Kd.shut [Value.int IntKind.u64 (Se.x e0), Value.int
 IntKind.u64 (Se.y e0), Value.int IntKind.i64 (Se.q e0), Value.int IntKind.i64 (Se.o e0), Value.int IntKind.i64 (Se.s e0), Value.slice (some (Addr.mk 4 0 none)) (Se.n e0) (capBig + 4), Value.int IntKind.u64 (RN.x N),
 Value.int IntKind.u64 (RN.y N), Value.int IntKind.i64 (RN.q N), Value.int IntKind.i64 (RN.o N), Value.int IntKind.i64 (RN.s N), Value.slice (some (Addr.mk 10 0 none)) (RN.n N) (capBig + 10), Value.int IntKind.u64 (0 :
 Int), Value.int IntKind.u64 (0 : Int), Value.int IntKind.i64 (0 : Int), Value.int IntKind.i64 (0 : Int), Value.int IntKind.i64 (0 : Int), Value.slice none 0 0, Value.int IntKind.u64 (0 : Int), Value.int IntKind.u64 (0 :
 Int), Value.int IntKind.i64 (0 : Int), Value.int IntKind.i64 (0 : Int), Value.int IntKind.i64 (0 : Int), Value.slice none 0 0, Value.int IntKind.i64 (2 : Int), Value.bool true]), (0, Rw.mk Kd.old xs), (4, Rw.mk (Kd.held
 (Se.n e0)) (Se.R e0))], 16, [2, 2, 2, 3, 8, 1, 1, 8, 8, 8, 1, 1, 1, 8, 1], []), [], [decide ((1 : Int) < k) = true, RS.B s = false, decide ((16 : Int) > (↑(RS.L s) : Int)) = false, RS.C s < 18446744073709551616, (0 : Int)
 ≤ (16 : Int) ∧ (16 : Int) ≤ (↑(RS.C s) : Int), (0 : Int) ≤ (16 : Int) ∧ (16 : Int) ≤ (16 : Int), RS.C s < 18446744073709551616, (0 : Int) ≤ (16 : Int) ∧ (16 : Int) ≤ (↑(RS.L s) : Int), 16 ≤ 16 ∧ 16 ≤ 9223372036854775807,
 adN (loO none (RS.O s) 0 16 1) 16 ≤ List.length xs, Fl (tkD (loO none (RS.O s) 0 16 1) 16 xs), Byts (tkD (loO none (RS.O s) 0 16 1) 16 xs) ∧ 16 = 16 ∧ RN.x N = r8 (List.drop 8 (tkD (loO none (RS.O s) 0 16 1) 16 xs)) ∧
 RN.y N = r8 (tkD (loO none (RS.O s) 0 16 1) 16 xs), NbF xs (RS.mk (loO (some (Value.int IntKind.i64 (16 : Int))) (RS.O s) 16 (RS.C s) 1) (RS.L s - 16) (RS.C s - 16) (RS.B s)) (RN.g N) (RN.q N), NbF xs (RS.mk (RS.O (RN.g
 N)) (RS.L (RN.g N)) (RS.C (RN.g N)) (RS.B (RN.g N))) (RN.g1 N) (RN.o N), NbF xs (RS.mk (RS.O (RN.g1 N)) (RS.L (RN.g1 N)) (RS.C (RN.g1 N)) (RS.B (RN.g1 N))) (RN.g2 N) (RN.s N), NbF xs (RS.mk (RS.O (RN.g2 N)) (RS.L (RN.g2
 N)) (RS.C (RN.g2 N)) (RS.B (RN.g2 N))) (RN.g3 N) (RN.z N), decide (RN.z N > (1024 : Int)) = false, w6 (RN.x N) ∧ w6 (RN.y N) ∧ w6 a ∧ w6 b, decide (cmpN (RN.x N) (RN.y N) a b ≤ (0 : Int)) = false, decide (RN.q N >
 (1073741824 : Int)) = false, opB (RN.o N) = true, opB (RN.s N) = true, decide (RN.s N > RN.o N) = false, RS.B (RN.g3 N) = false, decide (RN.z N > (↑(RS.L (RN.g3 N)) : Int)) = true, ((0 : Int) ≤ if (16 : Int) < RN.z N then
 (16 : Int) else RN.z N) ∧ ((if (16 : Int) < RN.z N then (16 : Int) else RN.z N) ≤ if (16 : Int) < RN.z N then (16 : Int) else RN.z N) ∧ ((1 : Int) * if (16 : Int) < RN.z N then (16 : Int) else RN.z N) ≤ (281474976710656 :
 Int) ∧ (if (16 : Int) < RN.z N then (16 : Int) else RN.z N) ≤ (9223372036854775807 : Int), Int.toNat (if (16 : Int) < RN.z N then (16 : Int) else RN.z N) ≤ Int.toNat (if (16 : Int) < RN.z N then (16 : Int) else RN.z N) ∧
 Int.toNat (if (16 : Int) < RN.z N then (16 : Int) else RN.z N) ≤ 9223372036854775807, Int.toNat (if (16 : Int) < RN.z N then (16 : Int) else RN.z N) ≤ List.length (zrep [Value.int IntKind.u8 (0 : Int)] (Int.toNat (if (16
 : Int) < RN.z N then (16 : Int) else RN.z N))), Fl (List.take (Int.toNat (if (16 : Int) < RN.z N then (16 : Int) else RN.z N)) (zrep [Value.int IntKind.u8 (0 : Int)] (Int.toNat (if (16 : Int) < RN.z N then (16 : Int) else
 RN.z N)))), Byts (RN.R N) ∧ RN.n N ≤ 140737488355328 ∧ RN.R N = List.take (Int.toNat (if (16 : Int) < RN.z N then (16 : Int) else RN.z N)) (zrep [Value.int IntKind.u8 (0 : Int)] (Int.toNat (if (16 : Int) < RN.z N then (16
 : Int) else RN.z N))) ∧ RN.n N = Int.toNat (if (16 : Int) < RN.z N then (16 : Int) else RN.z N), w6 (Se.x e0) ∧ w6 (Se.y e0) ∧ w6 (RN.x N) ∧ w6 (RN.y N), decide (cmpN (Se.x e0) (Se.y e0) (RN.x N) (RN.y N) < (0 : Int)) =
 true, rg IntKind.i64 (2 : Int)]) := by kernel_rfl
theorem sbo_2 (inr : Bool) (xs : List Value) (s : RS) (N : RN) (k a b : Int) (e0 e1 : Se) : prjZ [4, 5, 6, 7, 18, 19] (codeZ (sbV N noL) Try.prog (runZ (sbV N noL) Try.prog 9) 18 inr 100000 (sbB Try.prog) (SL 96 (sbS k 2)) (sbH xs (tab2 e0 e1) s a b [(4, seR e0), (5, seR e1)]) 8 [true, false, false, false, true, false, true, true, false, true, true, true, false, false, false, false, true, true, false, false, false, true, true]) =
  Res.ok ((Xt.normal, 96, [(4, Value.pointer (some (Addr.mk 1 0 none))), (5, Value.pointer (some (Addr.mk 2 0 none))), (6, Value.int IntKind.i64 k), (7, Value.pointer (some (Addr.mk 3 0 none))), (18, Value.int IntKind.i64
 k), (19, Value.int IntKind.i64 (3 : Int))], [(12, Rw.mk Kd.shut [Value.pointer (some (Addr.mk 2 0 none))]), (11, Rw.mk Kd.shut [Value.int IntKind.i64 (2 : Int)]), (10, Rw.mk Kd.shut [Value.int IntKind.u64 (RN.x N),
 Value.int IntKind.u64 (RN.y N), Value.int IntKind.i64 (RN.q N), Value.int IntKind.i64 (RN.o N), Value.int IntKind.i64 (RN.s N), Value.slice (some (Addr.mk 9 0 none)) (RN.n N) (capBig + 9)]), (9, Rw.mk (Kd.held (RN.n N))
 (RN.R N)), (1, Rw.mk Kd.shut [Value.slice (some (Addr.mk 0 (loO (some (Value.int IntKind.i64 (RN.z N))) (RS.O (RN.g3 N)) (Int.toNat (RN.z N)) (RS.C (RN.g3 N)) 1) none)) (sbN (RS.L (RN.g3 N)) (Int.toNat (RN.z N))) (sbN
 (RS.C (RN.g3 N)) (Int.toNat (RN.z N))), Value.bool (RS.B (RN.g3 N))]), (8, Rw.mk Kd.shut [Value.int IntKind.u64 (RN.x N), Value.int IntKind.u64 (RN.y N), Value.int IntKind.i64 (RN.q N), Value.int IntKind.i64 (RN.o N),
 Value.int IntKind.i64 (RN.s N), Value.slice (some (Addr.mk 9 0 none)) (RN.n N) (capBig + 9)]), (3, Rw.mk Kd.shut [Value.int IntKind.u64 (RN.x N), Value.int IntKind.u64 (RN.y N)]), (2, Rw.mk Kd.shut [Value.int IntKind.u64
 (Se.x e0), Value.int IntKind.u64 (Se.y e0), Value.int IntKind.i64 (Se.q e0), Value.int IntKind.i64 (Se.o e0), Value.int IntKind.i64 (Se.s e0), Value.slice (some (Addr.mk 4 0 none)) (Se.n e0) (capBig + 4), Value.int
 IntKind.u64 (Se.x e1), Value.int IntKind.u64 (Se.y e1), Value.int IntKind.i64 (Se.q e1), Value.int IntKind.i64 (Se.o e1), Value.int IntKind.i64 (Se.s e1), Value.slice (some (Addr.mk 5 0 none)) (Se.n e1) (capBig + 5),
 Value.int IntKind.u64 (RN.x N), Value.int IntKind.u64 (RN.y N), Value.int IntKind.i64 (RN.q N), Value.int IntKind.i64 (RN.o N), Value.int IntKind.i64 (RN.s N), Value.slice (some (Addr.mk 9 0 none)) (RN.n N) (capBig + 9),
 Value.int IntKind.u64 (0 : Int), Value.int IntKind.u64 (0 : Int), Value.int IntKind.i64 (0 : Int), Value.int IntKind.i64 (0 : Int), Value.int IntKind.i64 (0 : Int), Value.slice none 0 0, Value.int IntKind.i64 (3 : Int),
 Value.bool true]), (0, Rw.mk Kd.old xs), (4, Rw.mk (Kd.held (Se.n e0)) (Se.R e0)), (5, Rw.mk (Kd.held (Se.n e1)) (Se.R e1))], 15, [2, 2, 2, 3, 8, 1, 1, 8, 8, 8, 1, 1, 1, 8, 1], []), [], [decide ((2 : Int) < k) = true,
 RS.B s = false, decide ((16 : Int) > (↑(RS.L s) : Int)) = false, RS.C s < 18446744073709551616, (0 : Int) ≤ (16 : Int) ∧ (16 : Int) ≤ (↑(RS.C s) : Int), (0 : Int) ≤ (16 : Int) ∧ (16 : Int) ≤ (16 : Int), RS.C s <
 18446744073709551616, (0 : Int) ≤ (16 : Int) ∧ (16 : Int) ≤ (↑(RS.L s) : Int), 16 ≤ 16 ∧ 16 ≤ 9223372036854775807, adN (loO none (RS.O s) 0 16 1) 16 ≤ List.length xs, Fl (tkD (loO none (RS.O s) 0 16 1) 16 xs), Byts (tkD
 (loO none (RS.O s) 0 16 1) 16 xs) ∧ 16 = 16 ∧ RN.x N = r8 (List.drop 8 (tkD (loO none (RS.O s) 0 16 1) 16 xs)) ∧ RN.y N = r8 (tkD (loO none (RS.O s) 0 16 1) 16 xs), NbF xs (RS.mk (loO (some (Value.int IntKind.i64 (16 :
 Int))) (RS.O s) 16 (RS.C s) 1) (RS.L s - 16) (RS.C s - 16) (RS.B s)) (RN.g N) (RN.q N), NbF xs (RS.mk (RS.O (RN.g N)) (RS.L (RN.g N)) (RS.C (RN.g N)) (RS.B (RN.g N))) (RN.g1 N) (RN.o N), NbF xs (RS.mk (RS.O (RN.g1 N))
 (RS.L (RN.g1 N)) (RS.C (RN.g1 N)) (RS.B (RN.g1 N))) (RN.g2 N) (RN.s N), NbF xs (RS.mk (RS.O (RN.g2 N)) (RS.L (RN.g2 N)) (RS.C (RN.g2 N)) (RS.B (RN.g2 N))) (RN.g3 N) (RN.z N), decide (RN.z N > (1024 : Int)) = false, w6
 (RN.x N) ∧ w6 (RN.y N) ∧ w6 a ∧ w6 b, decide (cmpN (RN.x N) (RN.y N) a b ≤ (0 : Int)) = false, decide (RN.q N > (1073741824 : Int)) = false, opB (RN.o N) = true, opB (RN.s N) = true, decide (RN.s N > RN.o N) = false, RS.B
 (RN.g3 N) = false, decide (RN.z N > (↑(RS.L (RN.g3 N)) : Int)) = false, RS.C (RN.g3 N) < 18446744073709551616, (0 : Int) ≤ RN.z N ∧ RN.z N ≤ (↑(RS.C (RN.g3 N)) : Int), (0 : Int) ≤ RN.z N ∧ RN.z N ≤ (↑(Int.toNat (RN.z N))
 : Int), RS.C (RN.g3 N) < 18446744073709551616, (0 : Int) ≤ RN.z N ∧ RN.z N ≤ (↑(RS.L (RN.g3 N)) : Int), Int.toNat (RN.z N) ≤ Int.toNat (RN.z N) ∧ Int.toNat (RN.z N) ≤ 9223372036854775807, adN (loO none (RS.O (RN.g3 N)) 0
 (Int.toNat (RN.z N)) 1) (Int.toNat (RN.z N)) ≤ List.length xs, Fl (tkD (loO none (RS.O (RN.g3 N)) 0 (Int.toNat (RN.z N)) 1) (Int.toNat (RN.z N)) xs), Byts (RN.R N) ∧ RN.n N ≤ 140737488355328 ∧ RN.R N = tkD (loO none (RS.O
 (RN.g3 N)) 0 (Int.toNat (RN.z N)) 1) (Int.toNat (RN.z N)) xs ∧ RN.n N = Int.toNat (RN.z N), w6 (Se.x e0) ∧ w6 (Se.y e0) ∧ w6 (RN.x N) ∧ w6 (RN.y N), decide (cmpN (Se.x e0) (Se.y e0) (RN.x N) (RN.y N) < (0 : Int)) = true,
 w6 (Se.x e1) ∧ w6 (Se.y e1) ∧ w6 (RN.x N) ∧ w6 (RN.y N), decide (cmpN (Se.x e1) (Se.y e1) (RN.x N) (RN.y N) < (0 : Int)) = true, rg IntKind.i64 (3 : Int)]) := by kernel_rfl
theorem sbb_2 (inr : Bool) (xs : List Value) (s : RS) (N : RN) (k a b : Int) (e0 e1 : Se) : prjZ [4, 5, 6, 7, 18, 19] (codeZ (sbV N noL) Try.prog (runZ (sbV N noL) Try.prog 9) 18 inr 100000 (sbB Try.prog) (SL 96 (sbS k 2)) (sbH xs (tab2 e0 e1) s a b [(4, seR e0), (5, seR e1)]) 8 [true, false, false, false, true, false, true, true, false, true, true, true, false, false, false, false, true, true, false, true, true, true]) =
  Res.ok ((Xt.normal, 96, [(4, Value.pointer (some (Addr.mk 1 0 none))), (5, Value.pointer (some (Addr.mk 2 0 none))), (6, Value.int IntKind.i64 k), (7, Value.pointer (some (Addr.mk 3 0 none))), (18, Value.int IntKind.i64
 k), (19, Value.int IntKind.i64 (3 : Int))], [(13, Rw.mk Kd.shut [Value.pointer (some (Addr.mk 2 0 none))]), (12, Rw.mk Kd.shut [Value.int IntKind.i64 (2 : Int)]), (11, Rw.mk Kd.shut [Value.int IntKind.u64 (RN.x N),
 Value.int IntKind.u64 (RN.y N), Value.int IntKind.i64 (RN.q N), Value.int IntKind.i64 (RN.o N), Value.int IntKind.i64 (RN.s N), Value.slice (some (Addr.mk 10 0 none)) (RN.n N) (capBig + 10)]), (10, Rw.mk (Kd.held (RN.n
 N)) (RN.R N)), (9, Rw.mk Kd.shut (zrep [Value.int IntKind.u8 (0 : Int)] (Int.toNat (if (16 : Int) < RN.z N then (16 : Int) else RN.z N)))), (1, Rw.mk Kd.shut [Value.slice (some (Addr.mk 0 (RS.O (RN.g3 N)) none)) (RS.L
 (RN.g3 N)) (RS.C (RN.g3 N)), Value.bool true]), (8, Rw.mk Kd.shut [Value.int IntKind.u64 (RN.x N), Value.int IntKind.u64 (RN.y N), Value.int IntKind.i64 (RN.q N), Value.int IntKind.i64 (RN.o N), Value.int IntKind.i64
 (RN.s N), Value.slice (some (Addr.mk 10 0 none)) (RN.n N) (capBig + 10)]), (3, Rw.mk Kd.shut [Value.int IntKind.u64 (RN.x N), Value.int IntKind.u64 (RN.y N)]), (2, Rw.mk Kd.shut [Value.int IntKind.u64 (Se.x e0), Value.int
 IntKind.u64 (Se.y e0), Value.int IntKind.i64 (Se.q e0), Value.int IntKind.i64 (Se.o e0), Value.int IntKind.i64 (Se.s e0), Value.slice (some (Addr.mk 4 0 none)) (Se.n e0) (capBig + 4), Value.int IntKind.u64 (Se.x e1),
 Value.int IntKind.u64 (Se.y e1), Value.int IntKind.i64 (Se.q e1), Value.int IntKind.i64 (Se.o e1), Value.int IntKind.i64 (Se.s e1), Value.slice (some (Addr.mk 5 0 none)) (Se.n e1) (capBig + 5), Value.int IntKind.u64 (RN.x
 N), Value.int IntKind.u64 (RN.y N), Value.int IntKind.i64 (RN.q N), Value.int IntKind.i64 (RN.o N), Value.int IntKind.i64 (RN.s N), Value.slice (some (Addr.mk 10 0 none)) (RN.n N) (capBig + 10), Value.int IntKind.u64 (0 :
 Int), Value.int IntKind.u64 (0 : Int), Value.int IntKind.i64 (0 : Int), Value.int IntKind.i64 (0 : Int), Value.int IntKind.i64 (0 : Int), Value.slice none 0 0, Value.int IntKind.i64 (3 : Int), Value.bool true]), (0, Rw.mk
 Kd.old xs), (4, Rw.mk (Kd.held (Se.n e0)) (Se.R e0)), (5, Rw.mk (Kd.held (Se.n e1)) (Se.R e1))], 16, [2, 2, 2, 3, 8, 1, 1, 8, 8, 8, 1, 1, 1, 8, 1], []), [], [decide ((2 : Int) < k) = true, RS.B s = false, decide ((16 :
 Int) > (↑(RS.L s) : Int)) = false, RS.C s < 18446744073709551616, (0 : Int) ≤ (16 : Int) ∧ (16 : Int) ≤ (↑(RS.C s) : Int), (0 : Int) ≤ (16 : Int) ∧ (16 : Int) ≤ (16 : Int), RS.C s < 18446744073709551616, (0 : Int) ≤ (16 :
 Int) ∧ (16 : Int) ≤ (↑(RS.L s) : Int), 16 ≤ 16 ∧ 16 ≤ 9223372036854775807, adN (loO none (RS.O s) 0 16 1) 16 ≤ List.length xs, Fl (tkD (loO none (RS.O s) 0 16 1) 16 xs), Byts (tkD (loO none (RS.O s) 0 16 1) 16 xs) ∧ 16 =
 16 ∧ RN.x N = r8 (List.drop 8 (tkD (loO none (RS.O s) 0 16 1) 16 xs)) ∧ RN.y N = r8 (tkD (loO none (RS.O s) 0 16 1) 16 xs), NbF xs (RS.mk (loO (some (Value.int IntKind.i64 (16 : Int))) (RS.O s) 16 (RS.C s) 1) (RS.L s -
 16) (RS.C s - 16) (RS.B s)) (RN.g N) (RN.q N), NbF xs (RS.mk (RS.O (RN.g N)) (RS.L (RN.g N)) (RS.C (RN.g N)) (RS.B (RN.g N))) (RN.g1 N) (RN.o N), NbF xs (RS.mk (RS.O (RN.g1 N)) (RS.L (RN.g1 N)) (RS.C (RN.g1 N)) (RS.B
 (RN.g1 N))) (RN.g2 N) (RN.s N), NbF xs (RS.mk (RS.O (RN.g2 N)) (RS.L (RN.g2 N)) (RS.C (RN.g2 N)) (RS.B (RN.g2 N))) (RN.g3 N) (RN.z N), decide (RN.z N > (1024 : Int)) = false, w6 (RN.x N) ∧ w6 (RN.y N) ∧ w6 a ∧ w6 b,
 decide (cmpN (RN.x N) (RN.y N) a b ≤ (0 : Int)) = false, decide (RN.q N > (1073741824 : Int)) = false, opB (RN.o N) = true, opB (RN.s N) = true, decide (RN.s N > RN.o N) = false, RS.B (RN.g3 N) = true, ((0 : Int) ≤ if (16
 : Int) < RN.z N then (16 : Int) else RN.z N) ∧ ((if (16 : Int) < RN.z N then (16 : Int) else RN.z N) ≤ if (16 : Int) < RN.z N then (16 : Int) else RN.z N) ∧ ((1 : Int) * if (16 : Int) < RN.z N then (16 : Int) else RN.z N)
 ≤ (281474976710656 : Int) ∧ (if (16 : Int) < RN.z N then (16 : Int) else RN.z N) ≤ (9223372036854775807 : Int), Int.toNat (if (16 : Int) < RN.z N then (16 : Int) else RN.z N) ≤ Int.toNat (if (16 : Int) < RN.z N then (16 :
 Int) else RN.z N) ∧ Int.toNat (if (16 : Int) < RN.z N then (16 : Int) else RN.z N) ≤ 9223372036854775807, Int.toNat (if (16 : Int) < RN.z N then (16 : Int) else RN.z N) ≤ List.length (zrep [Value.int IntKind.u8 (0 : Int)]
 (Int.toNat (if (16 : Int) < RN.z N then (16 : Int) else RN.z N))), Fl (List.take (Int.toNat (if (16 : Int) < RN.z N then (16 : Int) else RN.z N)) (zrep [Value.int IntKind.u8 (0 : Int)] (Int.toNat (if (16 : Int) < RN.z N
 then (16 : Int) else RN.z N)))), Byts (RN.R N) ∧ RN.n N ≤ 140737488355328 ∧ RN.R N = List.take (Int.toNat (if (16 : Int) < RN.z N then (16 : Int) else RN.z N)) (zrep [Value.int IntKind.u8 (0 : Int)] (Int.toNat (if (16 :
 Int) < RN.z N then (16 : Int) else RN.z N))) ∧ RN.n N = Int.toNat (if (16 : Int) < RN.z N then (16 : Int) else RN.z N), w6 (Se.x e0) ∧ w6 (Se.y e0) ∧ w6 (RN.x N) ∧ w6 (RN.y N), decide (cmpN (Se.x e0) (Se.y e0) (RN.x N)
 (RN.y N) < (0 : Int)) = true, w6 (Se.x e1) ∧ w6 (Se.y e1) ∧ w6 (RN.x N) ∧ w6 (RN.y N), decide (cmpN (Se.x e1) (Se.y e1) (RN.x N) (RN.y N) < (0 : Int)) = true, rg IntKind.i64 (3 : Int)]) := by kernel_rfl
theorem sbl_2 (inr : Bool) (xs : List Value) (s : RS) (N : RN) (k a b : Int) (e0 e1 : Se) : prjZ [4, 5, 6, 7, 18, 19] (codeZ (sbV N noL) Try.prog (runZ (sbV N noL) Try.prog 9) 18 inr 100000 (sbB Try.prog) (SL 96 (sbS k 2)) (sbH xs (tab2 e0 e1) s a b [(4, seR e0), (5, seR e1)]) 8 [true, false, false, false, true, false, true, true, false, true, true, true, false, false, false, false, true, true, false, false, true, true, true]) =
  Res.ok ((Xt.normal, 96, [(4, Value.pointer (some (Addr.mk 1 0 none))), (5, Value.pointer (some (Addr.mk 2 0 none))), (6, Value.int IntKind.i64 k), (7, Value.pointer (some (Addr.mk 3 0 none))), (18, Value.int IntKind.i64
 k), (19, Value.int IntKind.i64 (3 : Int))], [(13, Rw.mk Kd.shut [Value.pointer (some (Addr.mk 2 0 none))]), (12, Rw.mk Kd.shut [Value.int IntKind.i64 (2 : Int)]), (11, Rw.mk Kd.shut [Value.int IntKind.u64 (RN.x N),
 Value.int IntKind.u64 (RN.y N), Value.int IntKind.i64 (RN.q N), Value.int IntKind.i64 (RN.o N), Value.int IntKind.i64 (RN.s N), Value.slice (some (Addr.mk 10 0 none)) (RN.n N) (capBig + 10)]), (10, Rw.mk (Kd.held (RN.n
 N)) (RN.R N)), (9, Rw.mk Kd.shut (zrep [Value.int IntKind.u8 (0 : Int)] (Int.toNat (if (16 : Int) < RN.z N then (16 : Int) else RN.z N)))), (1, Rw.mk Kd.shut [Value.slice (some (Addr.mk 0 (RS.O (RN.g3 N)) none)) (RS.L
 (RN.g3 N)) (RS.C (RN.g3 N)), Value.bool true]), (8, Rw.mk Kd.shut [Value.int IntKind.u64 (RN.x N), Value.int IntKind.u64 (RN.y N), Value.int IntKind.i64 (RN.q N), Value.int IntKind.i64 (RN.o N), Value.int IntKind.i64
 (RN.s N), Value.slice (some (Addr.mk 10 0 none)) (RN.n N) (capBig + 10)]), (3, Rw.mk Kd.shut [Value.int IntKind.u64 (RN.x N), Value.int IntKind.u64 (RN.y N)]), (2, Rw.mk Kd.shut [Value.int IntKind.u64 (Se.x e0), Value.int
 IntKind.u64 (Se.y e0), Value.int IntKind.i64 (Se.q e0), Value.int IntKind.i64 (Se.o e0), Value.int IntKind.i64 (Se.s e0), Value.slice (some (Addr.mk 4 0 none)) (Se.n e0) (capBig + 4), Value.int IntKind.u64 (Se.x e1),
 Value.int IntKind.u64 (Se.y e1), Value.int IntKind.i64 (Se.q e1), Value.int IntKind.i64 (Se.o e1), Value.int IntKind.i64 (Se.s e1), Value.slice (some (Addr.mk 5 0 none)) (Se.n e1) (capBig + 5), Value.int IntKind.u64 (RN.x
 N), Value.int IntKind.u64 (RN.y N), Value.int IntKind.i64 (RN.q N), Value.int IntKind.i64 (RN.o N), Value.int IntKind.i64 (RN.s N), Value.slice (some (Addr.mk 10 0 none)) (RN.n N) (capBig + 10), Value.int IntKind.u64 (0 :
 Int), Value.int IntKind.u64 (0 : Int), Value.int IntKind.i64 (0 : Int), Value.int IntKind.i64 (0 : Int), Value.int IntKind.i64 (0 : Int), Value.slice none 0 0, Value.int IntKind.i64 (3 : Int), Value.bool true]), (0, Rw.mk
 Kd.old xs), (4, Rw.mk (Kd.held (Se.n e0)) (Se.R e0)), (5, Rw.mk (Kd.held (Se.n e1)) (Se.R e1))], 16, [2, 2, 2, 3, 8, 1, 1, 8, 8, 8, 1, 1, 1, 8, 1], []), [], [decide ((2 : Int) < k) = true, RS.B s = false, decide ((16 :
 Int) > (↑(RS.L s) : Int)) = false, RS.C s < 18446744073709551616, (0 : Int) ≤ (16 : Int) ∧ (16 : Int) ≤ (↑(RS.C s) : Int), (0 : Int) ≤ (16 : Int) ∧ (16 : Int) ≤ (16 : Int), RS.C s < 18446744073709551616, (0 : Int) ≤ (16 :
 Int) ∧ (16 : Int) ≤ (↑(RS.L s) : Int), 16 ≤ 16 ∧ 16 ≤ 9223372036854775807, adN (loO none (RS.O s) 0 16 1) 16 ≤ List.length xs, Fl (tkD (loO none (RS.O s) 0 16 1) 16 xs), Byts (tkD (loO none (RS.O s) 0 16 1) 16 xs) ∧ 16 =
 16 ∧ RN.x N = r8 (List.drop 8 (tkD (loO none (RS.O s) 0 16 1) 16 xs)) ∧ RN.y N = r8 (tkD (loO none (RS.O s) 0 16 1) 16 xs), NbF xs (RS.mk (loO (some (Value.int IntKind.i64 (16 : Int))) (RS.O s) 16 (RS.C s) 1) (RS.L s -
 16) (RS.C s - 16) (RS.B s)) (RN.g N) (RN.q N), NbF xs (RS.mk (RS.O (RN.g N)) (RS.L (RN.g N)) (RS.C (RN.g N)) (RS.B (RN.g N))) (RN.g1 N) (RN.o N), NbF xs (RS.mk (RS.O (RN.g1 N)) (RS.L (RN.g1 N)) (RS.C (RN.g1 N)) (RS.B
 (RN.g1 N))) (RN.g2 N) (RN.s N), NbF xs (RS.mk (RS.O (RN.g2 N)) (RS.L (RN.g2 N)) (RS.C (RN.g2 N)) (RS.B (RN.g2 N))) (RN.g3 N) (RN.z N), decide (RN.z N > (1024 : Int)) = false, w6 (RN.x N) ∧ w6 (RN.y N) ∧ w6 a ∧ w6 b,
 decide (cmpN (RN.x N) (RN.y N) a b ≤ (0 : Int)) = false, decide (RN.q N > (1073741824 : Int)) = false, opB (RN.o N) = true, opB (RN.s N) = true, decide (RN.s N > RN.o N) = false, RS.B (RN.g3 N) = false, decide (RN.z N >
 (↑(RS.L (RN.g3 N)) : Int)) = true, ((0 : Int) ≤ if (16 : Int) < RN.z N then (16 : Int) else RN.z N) ∧ ((if (16 : Int) < RN.z N then (16 : Int) else RN.z N) ≤ if (16 : Int) < RN.z N then (16 : Int) else RN.z N) ∧ ((1 :
 Int) * if (16 : Int) < RN.z N then (16 : Int) else RN.z N) ≤ (281474976710656 : Int) ∧ (if (16 : Int) < RN.z N then (16 : Int) else RN.z N) ≤ (9223372036854775807 : Int), Int.toNat (if (16 : Int) < RN.z N then (16 : Int)
 else RN.z N) ≤ Int.toNat (if (16 : Int) < RN.z N then (16 : Int) else RN.z N) ∧ Int.toNat (if (16 : Int) < RN.z N then (16 : Int) else RN.z N) ≤ 9223372036854775807, Int.toNat (if (16 : Int) < RN.z N then (16 : Int) else
 RN.z N) ≤ List.length (zrep [Value.int IntKind.u8 (0 : Int)] (Int.toNat (if (16 : Int) < RN.z N then (16 : Int) else RN.z N))), Fl (List.take (Int.toNat (if (16 : Int) < RN.z N then (16 : Int) else RN.z N)) (zrep
 [Value.int IntKind.u8 (0 : Int)] (Int.toNat (if (16 : Int) < RN.z N then (16 : Int) else RN.z N)))), Byts (RN.R N) ∧ RN.n N ≤ 140737488355328 ∧ RN.R N = List.take (Int.toNat (if (16 : Int) < RN.z N then (16 : Int) else
 RN.z N)) (zrep [Value.int IntKind.u8 (0 : Int)] (Int.toNat (if (16 : Int) < RN.z N then (16 : Int) else RN.z N))) ∧ RN.n N = Int.toNat (if (16 : Int) < RN.z N then (16 : Int) else RN.z N), w6 (Se.x e0) ∧ w6 (Se.y e0) ∧ w6
 (RN.x N) ∧ w6 (RN.y N), decide (cmpN (Se.x e0) (Se.y e0) (RN.x N) (RN.y N) < (0 : Int)) = true, w6 (Se.x e1) ∧ w6 (Se.y e1) ∧ w6 (RN.x N) ∧ w6 (RN.y N), decide (cmpN (Se.x e1) (Se.y e1) (RN.x N) (RN.y N) < (0 : Int)) =
 true, rg IntKind.i64 (3 : Int)]) := by kernel_rfl
theorem sbo_3 (inr : Bool) (xs : List Value) (s : RS) (N : RN) (k a b : Int) (e0 e1 e2 : Se) : prjZ [4, 5, 6, 7, 18, 19] (codeZ (sbV N noL) Try.prog (runZ (sbV N noL) Try.prog 9) 18 inr 100000 (sbB Try.prog) (SL 96 (sbS k 3)) (sbH xs (tab3 e0 e1 e2) s a b [(4, seR e0), (5, seR e1), (6, seR e2)]) 8 [true, false, false, false, true, false, true, true, false, true, true, true, false, false, false, false, true, true, false, false, false, true, true, true]) =
  Res.ok ((Xt.normal, 96, [(4, Value.pointer (some (Addr.mk 1 0 none))), (5, Value.pointer (some (Addr.mk 2 0 none))), (6, Value.int IntKind.i64 k), (7, Value.pointer (some (Addr.mk 3 0 none))), (18, Value.int IntKind.i64
 k), (19, Value.int IntKind.i64 (4 : Int))], [(12, Rw.mk Kd.shut [Value.pointer (some (Addr.mk 2 0 none))]), (11, Rw.mk Kd.shut [Value.int IntKind.i64 (3 : Int)]), (10, Rw.mk Kd.shut [Value.int IntKind.u64 (RN.x N),
 Value.int IntKind.u64 (RN.y N), Value.int IntKind.i64 (RN.q N), Value.int IntKind.i64 (RN.o N), Value.int IntKind.i64 (RN.s N), Value.slice (some (Addr.mk 9 0 none)) (RN.n N) (capBig + 9)]), (9, Rw.mk (Kd.held (RN.n N))
 (RN.R N)), (1, Rw.mk Kd.shut [Value.slice (some (Addr.mk 0 (loO (some (Value.int IntKind.i64 (RN.z N))) (RS.O (RN.g3 N)) (Int.toNat (RN.z N)) (RS.C (RN.g3 N)) 1) none)) (sbN (RS.L (RN.g3 N)) (Int.toNat (RN.z N))) (sbN
 (RS.C (RN.g3 N)) (Int.toNat (RN.z N))), Value.bool (RS.B (RN.g3 N))]), (8, Rw.mk Kd.shut [Value.int IntKind.u64 (RN.x N), Value.int IntKind.u64 (RN.y N), Value.int IntKind.i64 (RN.q N), Value.int IntKind.i64 (RN.o N),
 Value.int IntKind.i64 (RN.s N), Value.slice (some (Addr.mk 9 0 none)) (RN.n N) (capBig + 9)]), (3, Rw.mk Kd.shut [Value.int IntKind.u64 (RN.x N), Value.int IntKind.u64 (RN.y N)]), (2, Rw.mk Kd.shut [Value.int IntKind.u64
 (Se.x e0), Value.int IntKind.u64 (Se.y e0), Value.int IntKind.i64 (Se.q e0), Value.int IntKind.i64 (Se.o e0), Value.int IntKind.i64 (Se.s e0), Value.slice (some (Addr.mk 4 0 none)) (Se.n e0) (capBig + 4), Value.int
 IntKind.u64 (Se.x e1), Value.int IntKind.u64 (Se.y e1), Value.int IntKind.i64 (Se.q e1), Value.int IntKind.i64 (Se.o e1), Value.int IntKind.i64 (Se.s e1), Value.slice (some (Addr.mk 5 0 none)) (Se.n e1) (capBig + 5),
 Value.int IntKind.u64 (Se.x e2), Value.int IntKind.u64 (Se.y e2), Value.int IntKind.i64 (Se.q e2), Value.int IntKind.i64 (Se.o e2), Value.int IntKind.i64 (Se.s e2), Value.slice (some (Addr.mk 6 0 none)) (Se.n e2) (capBig
 + 6), Value.int IntKind.u64 (RN.x N), Value.int IntKind.u64 (RN.y N), Value.int IntKind.i64 (RN.q N), Value.int IntKind.i64 (RN.o N), Value.int IntKind.i64 (RN.s N), Value.slice (some (Addr.mk 9 0 none)) (RN.n N) (capBig
 + 9), Value.int IntKind.i64 (4 : Int), Value.bool true]), (0, Rw.mk Kd.old xs), (4, Rw.mk (Kd.held (Se.n e0)) (Se.R e0)), (5, Rw.mk (Kd.held (Se.n e1)) (Se.R e1)), (6, Rw.mk (Kd.held (Se.n e2)) (Se.R e2))], 15, [2, 2, 2,
 3, 8, 1, 1, 8, 8, 8, 1, 1, 1, 8, 1], []), [], [decide ((3 : Int) < k) = true, RS.B s = false, decide ((16 : Int) > (↑(RS.L s) : Int)) = false, RS.C s < 18446744073709551616, (0 : Int) ≤ (16 : Int) ∧ (16 : Int) ≤ (↑(RS.C
 s) : Int), (0 : Int) ≤ (16 : Int) ∧ (16 : Int) ≤ (16 : Int), RS.C s < 18446744073709551616, (0 : Int) ≤ (16 : Int) ∧ (16 : Int) ≤ (↑(RS.L s) : Int), 16 ≤ 16 ∧ 16 ≤ 9223372036854775807, adN (loO none (RS.O s) 0 16 1) 16 ≤
 List.length xs, Fl (tkD (loO none (RS.O s) 0 16 1) 16 xs), Byts (tkD (loO none (RS.O s) 0 16 1) 16 xs) ∧ 16 = 16 ∧ RN.x N = r8 (List.drop 8 (tkD (loO none (RS.O s) 0 16 1) 16 xs)) ∧ RN.y N = r8 (tkD (loO none (RS.O s) 0
 16 1) 16 xs), NbF xs (RS.mk (loO (some (Value.int IntKind.i64 (16 : Int))) (RS.O s) 16 (RS.C s) 1) (RS.L s - 16) (RS.C s - 16) (RS.B s)) (RN.g N) (RN.q N), NbF xs (RS.mk (RS.O (RN.g N)) (RS.L (RN.g N)) (RS.C (RN.g N))
 (RS.B (RN.g N))) (RN.g1 N) (RN.o N), NbF xs (RS.mk (RS.O (RN.g1 N)) (RS.L (RN.g1 N)) (RS.C (RN.g1 N)) (RS.B (RN.g1 N))) (RN.g2 N) (RN.s N), NbF xs (RS.mk (RS.O (RN.g2 N)) (RS.L (RN.g2 N)) (RS.C (RN.g2 N)) (RS.B (RN.g2
 N))) (RN.g3 N) (RN.z N), decide (RN.z N > (1024 : Int)) = false, w6 (RN.x N) ∧ w6 (RN.y N) ∧ w6 a ∧ w6 b, decide (cmpN (RN.x N) (RN.y N) a b ≤ (0 : Int)) = false, decide (RN.q N > (1073741824 : Int)) = false, opB (RN.o N)
 = true, opB (RN.s N) = true, decide (RN.s N > RN.o N) = false, RS.B (RN.g3 N) = false, decide (RN.z N > (↑(RS.L (RN.g3 N)) : Int)) = false, RS.C (RN.g3 N) < 18446744073709551616, (0 : Int) ≤ RN.z N ∧ RN.z N ≤ (↑(RS.C
 (RN.g3 N)) : Int), (0 : Int) ≤ RN.z N ∧ RN.z N ≤ (↑(Int.toNat (RN.z N)) : Int), RS.C (RN.g3 N) < 18446744073709551616, (0 : Int) ≤ RN.z N ∧ RN.z N ≤ (↑(RS.L (RN.g3 N)) : Int), Int.toNat (RN.z N) ≤ Int.toNat (RN.z N) ∧
 Int.toNat (RN.z N) ≤ 9223372036854775807, adN (loO none (RS.O (RN.g3 N)) 0 (Int.toNat (RN.z N)) 1) (Int.toNat (RN.z N)) ≤ List.length xs, Fl (tkD (loO none (RS.O (RN.g3 N)) 0 (Int.toNat (RN.z N)) 1) (Int.toNat (RN.z N))
 xs), Byts (RN.R N) ∧ RN.n N ≤ 140737488355328 ∧ RN.R N = tkD (loO none (RS.O (RN.g3 N)) 0 (Int.toNat (RN.z N)) 1) (Int.toNat (RN.z N)) xs ∧ RN.n N = Int.toNat (RN.z N), w6 (Se.x e0) ∧ w6 (Se.y e0) ∧ w6 (RN.x N) ∧ w6 (RN.y
 N), decide (cmpN (Se.x e0) (Se.y e0) (RN.x N) (RN.y N) < (0 : Int)) = true, w6 (Se.x e1) ∧ w6 (Se.y e1) ∧ w6 (RN.x N) ∧ w6 (RN.y N), decide (cmpN (Se.x e1) (Se.y e1) (RN.x N) (RN.y N) < (0 : Int)) = true, w6 (Se.x e2) ∧
 w6 (Se.y e2) ∧ w6 (RN.x N) ∧ w6 (RN.y N), decide (cmpN (Se.x e2) (Se.y e2) (RN.x N) (RN.y N) < (0 : Int)) = true, rg IntKind.i64 (4 : Int)]) := by kernel_rfl
theorem sbb_3 (inr : Bool) (xs : List Value) (s : RS) (N : RN) (k a b : Int) (e0 e1 e2 : Se) : prjZ [4, 5, 6, 7, 18, 19] (codeZ (sbV N noL) Try.prog (runZ (sbV N noL) Try.prog 9) 18 inr 100000 (sbB Try.prog) (SL 96 (sbS k 3)) (sbH xs (tab3 e0 e1 e2) s a b [(4, seR e0), (5, seR e1), (6, seR e2)]) 8 [true, false, false, false, true, false, true, true, false, true, true, true, false, false, false, false, true, true, false, true, true, true, true]) =
  Res.ok ((Xt.normal, 96, [(4, Value.pointer (some (Addr.mk 1 0 none))), (5, Value.pointer (some (Addr.mk 2 0 none))), (6, Value.int IntKind.i64 k), (7, Value.pointer (some (Addr.mk 3 0 none))), (18, Value.int IntKind.i64
 k), (19, Value.int IntKind.i64 (4 : Int))], [(13, Rw.mk Kd.shut [Value.pointer (some (Addr.mk 2 0 none))]), (12, Rw.mk Kd.shut [Value.int IntKind.i64 (3 : Int)]), (11, Rw.mk Kd.shut [Value.int IntKind.u64 (RN.x N),
 Value.int IntKind.u64 (RN.y N), Value.int IntKind.i64 (RN.q N), Value.int IntKind.i64 (RN.o N), Value.int IntKind.i64 (RN.s N), Value.slice (some (Addr.mk 10 0 none)) (RN.n N) (capBig + 10)]), (10, Rw.mk (Kd.held (RN.n
 N)) (RN.R N)), (9, Rw.mk Kd.shut (zrep [Value.int IntKind.u8 (0 : Int)] (Int.toNat (if (16 : Int) < RN.z N then (16 : Int) else RN.z N)))), (1, Rw.mk Kd.shut [Value.slice (some (Addr.mk 0 (RS.O (RN.g3 N)) none)) (RS.L
 (RN.g3 N)) (RS.C (RN.g3 N)), Value.bool true]), (8, Rw.mk Kd.shut [Value.int IntKind.u64 (RN.x N), Value.int IntKind.u64 (RN.y N), Value.int IntKind.i64 (RN.q N), Value.int IntKind.i64 (RN.o N), Value.int IntKind.i64
 (RN.s N), Value.slice (some (Addr.mk 10 0 none)) (RN.n N) (capBig + 10)]), (3, Rw.mk Kd.shut [Value.int IntKind.u64 (RN.x N), Value.int IntKind.u64 (RN.y N)]), (2, Rw.mk Kd.shut [Value.int IntKind.u64 (Se.x e0), Value.int
 IntKind.u64 (Se.y e0), Value.int IntKind.i64 (Se.q e0), Value.int IntKind.i64 (Se.o e0), Value.int IntKind.i64 (Se.s e0), Value.slice (some (Addr.mk 4 0 none)) (Se.n e0) (capBig + 4), Value.int IntKind.u64 (Se.x e1),
 Value.int IntKind.u64 (Se.y e1), Value.int IntKind.i64 (Se.q e1), Value.int IntKind.i64 (Se.o e1), Value.int IntKind.i64 (Se.s e1), Value.slice (some (Addr.mk 5 0 none)) (Se.n e1) (capBig + 5), Value.int IntKind.u64 (Se.x
 e2), Value.int IntKind.u64 (Se.y e2), Value.int IntKind.i64 (Se.q e2), Value.int IntKind.i64 (Se.o e2), Value.int IntKind.i64 (Se.s e2), Value.slice (some (Addr.mk 6 0 none)) (Se.n e2) (capBig + 6), Value.int IntKind.u64
 (RN.x N), Value.int IntKind.u64 (RN.y N), Value.int IntKind.i64 (RN.q N), Value.int IntKind.i64 (RN.o N), Value.int IntKind.i64 (RN.s N), Value.slice (some (Addr.mk 10 0 none)) (RN.n N) (capBig + 10), Value.int
 IntKind.i64 (4 : Int), Value.bool true]), (0, Rw.mk Kd.old xs), (4, Rw.mk (Kd.held (Se.n e0)) (Se.R e0)), (5, Rw.mk (Kd.held (Se.n e1)) (Se.R e1)), (6, Rw.mk (Kd.held (Se.n e2)) (Se.R e2))], 16, [2, 2, 2, 3, 8, 1, 1, 8,
 8, 8, 1, 1, 1, 8, 1], []), [], [decide ((3 : Int) < k) = true, RS.B s = false, decide ((16 : Int) > (↑(RS.L s) : Int)) = false, RS.C s < 18446744073709551616, (0 : Int) ≤ (16 : Int) ∧ (16 : Int) ≤ (↑(RS.C s) : Int), (0 :
 Int) ≤ (16 : Int) ∧ (16 : Int) ≤ (16 : Int), RS.C s < 18446744073709551616, (0 : Int) ≤ (16 : Int) ∧ (16 : Int) ≤ (↑(RS.L s) : Int), 16 ≤ 16 ∧ 16 ≤ 9223372036854775807, adN (loO none (RS.O s) 0 16 1) 16 ≤ List.length xs,
 Fl (tkD (loO none (RS.O s) 0 16 1) 16 xs), Byts (tkD (loO none (RS.O s) 0 16 1) 16 xs) ∧ 16 = 16 ∧ RN.x N = r8 (List.drop 8 (tkD (loO none (RS.O s) 0 16 1) 16 xs)) ∧ RN.y N = r8 (tkD (loO none (RS.O s) 0 16 1) 16 xs), NbF
 xs (RS.mk (loO (some (Value.int IntKind.i64 (16 : Int))) (RS.O s) 16 (RS.C s) 1) (RS.L s - 16) (RS.C s - 16) (RS.B s)) (RN.g N) (RN.q N), NbF xs (RS.mk (RS.O (RN.g N)) (RS.L (RN.g N)) (RS.C (RN.g N)) (RS.B (RN.g N)))
 (RN.g1 N) (RN.o N), NbF xs (RS.mk (RS.O (RN.g1 N)) (RS.L (RN.g1 N)) (RS.C (RN.g1 N)) (RS.B (RN.g1 N))) (RN.g2 N) (RN.s N), NbF xs (RS.mk (RS.O (RN.g2 N)) (RS.L (RN.g2 N)) (RS.C (RN.g2 N)) (RS.B (RN.g2 N))) (RN.g3 N) (RN.z
 N), decide (RN.z N > (1024 : Int)) = false, w6 (RN.x N) ∧ w6 (RN.y N) ∧ w6 a ∧ w6 b, decide (cmpN (RN.x N) (RN.y N) a b ≤ (0 : Int)) = false, decide (RN.q N > (1073741824 : Int)) = false, opB (RN.o N) = true, opB (RN.s N)
 = true, decide (RN.s N > RN.o N) = false, RS.B (RN.g3 N) = true, ((0 : Int) ≤ if (16 : Int) < RN.z N then (16 : Int) else RN.z N) ∧ ((if (16 : Int) < RN.z N then (16 : Int) else RN.z N) ≤ if (16 : Int) < RN.z N then (16 :
 Int) else RN.z N) ∧ ((1 : Int) * if (16 : Int) < RN.z N then (16 : Int) else RN.z N) ≤ (281474976710656 : Int) ∧ (if (16 : Int) < RN.z N then (16 : Int) else RN.z N) ≤ (9223372036854775807 : Int), Int.toNat (if (16 : Int)
 < RN.z N then (16 : Int) else RN.z N) ≤ Int.toNat (if (16 : Int) < RN.z N then (16 : Int) else RN.z N) ∧ Int.toNat (if (16 : Int) < RN.z N then (16 : Int) else RN.z N) ≤ 9223372036854775807, Int.toNat (if (16 : Int) <
 RN.z N then (16 : Int) else RN.z N) ≤ List.length (zrep [Value.int IntKind.u8 (0 : Int)] (Int.toNat (if (16 : Int) < RN.z N then (16 : Int) else RN.z N))), Fl (List.take (Int.toNat (if (16 : Int) < RN.z N then (16 : Int)
 else RN.z N)) (zrep [Value.int IntKind.u8 (0 : Int)] (Int.toNat (if (16 : Int) < RN.z N then (16 : Int) else RN.z N)))), Byts (RN.R N) ∧ RN.n N ≤ 140737488355328 ∧ RN.R N = List.take (Int.toNat (if (16 : Int) < RN.z N
 then (16 : Int) else RN.z N)) (zrep [Value.int IntKind.u8 (0 : Int)] (Int.toNat (if (16 : Int) < RN.z N then (16 : Int) else RN.z N))) ∧ RN.n N = Int.toNat (if (16 : Int) < RN.z N then (16 : Int) else RN.z N), w6 (Se.x
 e0) ∧ w6 (Se.y e0) ∧ w6 (RN.x N) ∧ w6 (RN.y N), decide (cmpN (Se.x e0) (Se.y e0) (RN.x N) (RN.y N) < (0 : Int)) = true, w6 (Se.x e1) ∧ w6 (Se.y e1) ∧ w6 (RN.x N) ∧ w6 (RN.y N), decide (cmpN (Se.x e1) (Se.y e1) (RN.x N)
 (RN.y N) < (0 : Int)) = true, w6 (Se.x e2) ∧ w6 (Se.y e2) ∧ w6 (RN.x N) ∧ w6 (RN.y N), decide (cmpN (Se.x e2) (Se.y e2) (RN.x N) (RN.y N) < (0 : Int)) = true, rg IntKind.i64 (4 : Int)]) := by kernel_rfl
theorem sbl_3 (inr : Bool) (xs : List Value) (s : RS) (N : RN) (k a b : Int) (e0 e1 e2 : Se) : prjZ [4, 5, 6, 7, 18, 19] (codeZ (sbV N noL) Try.prog (runZ (sbV N noL) Try.prog 9) 18 inr 100000 (sbB Try.prog) (SL 96 (sbS k 3)) (sbH xs (tab3 e0 e1 e2) s a b [(4, seR e0), (5, seR e1), (6, seR e2)]) 8 [true, false, false, false, true, false, true, true, false, true, true, true, false, false, false, false, true, true, false, false, true, true, true, true]) =
  Res.ok ((Xt.normal, 96, [(4, Value.pointer (some (Addr.mk 1 0 none))), (5, Value.pointer (some (Addr.mk 2 0 none))), (6, Value.int IntKind.i64 k), (7, Value.pointer (some (Addr.mk 3 0 none))), (18, Value.int IntKind.i64
 k), (19, Value.int IntKind.i64 (4 : Int))], [(13, Rw.mk Kd.shut [Value.pointer (some (Addr.mk 2 0 none))]), (12, Rw.mk Kd.shut [Value.int IntKind.i64 (3 : Int)]), (11, Rw.mk Kd.shut [Value.int IntKind.u64 (RN.x N),
 Value.int IntKind.u64 (RN.y N), Value.int IntKind.i64 (RN.q N), Value.int IntKind.i64 (RN.o N), Value.int IntKind.i64 (RN.s N), Value.slice (some (Addr.mk 10 0 none)) (RN.n N) (capBig + 10)]), (10, Rw.mk (Kd.held (RN.n
 N)) (RN.R N)), (9, Rw.mk Kd.shut (zrep [Value.int IntKind.u8 (0 : Int)] (Int.toNat (if (16 : Int) < RN.z N then (16 : Int) else RN.z N)))), (1, Rw.mk Kd.shut [Value.slice (some (Addr.mk 0 (RS.O (RN.g3 N)) none)) (RS.L
 (RN.g3 N)) (RS.C (RN.g3 N)), Value.bool true]), (8, Rw.mk Kd.shut [Value.int IntKind.u64 (RN.x N), Value.int IntKind.u64 (RN.y N), Value.int IntKind.i64 (RN.q N), Value.int IntKind.i64 (RN.o N), Value.int IntKind.i64
 (RN.s N), Value.slice (some (Addr.mk 10 0 none)) (RN.n N) (capBig + 10)]), (3, Rw.mk Kd.shut [Value.int IntKind.u64 (RN.x N), Value.int IntKind.u64 (RN.y N)]), (2, Rw.mk Kd.shut [Value.int IntKind.u64 (Se.x e0), Value.int
 IntKind.u64 (Se.y e0), Value.int IntKind.i64 (Se.q e0), Value.int IntKind.i64 (Se.o e0), Value.int IntKind.i64 (Se.s e0), Value.slice (some (Addr.mk 4 0 none)) (Se.n e0) (capBig + 4), Value.int IntKind.u64 (Se.x e1),
 Value.int IntKind.u64 (Se.y e1), Value.int IntKind.i64 (Se.q e1), Value.int IntKind.i64 (Se.o e1), Value.int IntKind.i64 (Se.s e1), Value.slice (some (Addr.mk 5 0 none)) (Se.n e1) (capBig + 5), Value.int IntKind.u64 (Se.x
 e2), Value.int IntKind.u64 (Se.y e2), Value.int IntKind.i64 (Se.q e2), Value.int IntKind.i64 (Se.o e2), Value.int IntKind.i64 (Se.s e2), Value.slice (some (Addr.mk 6 0 none)) (Se.n e2) (capBig + 6), Value.int IntKind.u64
 (RN.x N), Value.int IntKind.u64 (RN.y N), Value.int IntKind.i64 (RN.q N), Value.int IntKind.i64 (RN.o N), Value.int IntKind.i64 (RN.s N), Value.slice (some (Addr.mk 10 0 none)) (RN.n N) (capBig + 10), Value.int
 IntKind.i64 (4 : Int), Value.bool true]), (0, Rw.mk Kd.old xs), (4, Rw.mk (Kd.held (Se.n e0)) (Se.R e0)), (5, Rw.mk (Kd.held (Se.n e1)) (Se.R e1)), (6, Rw.mk (Kd.held (Se.n e2)) (Se.R e2))], 16, [2, 2, 2, 3, 8, 1, 1, 8,
 8, 8, 1, 1, 1, 8, 1], []), [], [decide ((3 : Int) < k) = true, RS.B s = false, decide ((16 : Int) > (↑(RS.L s) : Int)) = false, RS.C s < 18446744073709551616, (0 : Int) ≤ (16 : Int) ∧ (16 : Int) ≤ (↑(RS.C s) : Int), (0 :
 Int) ≤ (16 : Int) ∧ (16 : Int) ≤ (16 : Int), RS.C s < 18446744073709551616, (0 : Int) ≤ (16 : Int) ∧ (16 : Int) ≤ (↑(RS.L s) : Int), 16 ≤ 16 ∧ 16 ≤ 9223372036854775807, adN (loO none (RS.O s) 0 16 1) 16 ≤ List.length xs,
 Fl (tkD (loO none (RS.O s) 0 16 1) 16 xs), Byts (tkD (loO none (RS.O s) 0 16 1) 16 xs) ∧ 16 = 16 ∧ RN.x N = r8 (List.drop 8 (tkD (loO none (RS.O s) 0 16 1) 16 xs)) ∧ RN.y N = r8 (tkD (loO none (RS.O s) 0 16 1) 16 xs), NbF
 xs (RS.mk (loO (some (Value.int IntKind.i64 (16 : Int))) (RS.O s) 16 (RS.C s) 1) (RS.L s - 16) (RS.C s - 16) (RS.B s)) (RN.g N) (RN.q N), NbF xs (RS.mk (RS.O (RN.g N)) (RS.L (RN.g N)) (RS.C (RN.g N)) (RS.B (RN.g N)))
 (RN.g1 N) (RN.o N), NbF xs (RS.mk (RS.O (RN.g1 N)) (RS.L (RN.g1 N)) (RS.C (RN.g1 N)) (RS.B (RN.g1 N))) (RN.g2 N) (RN.s N), NbF xs (RS.mk (RS.O (RN.g2 N)) (RS.L (RN.g2 N)) (RS.C (RN.g2 N)) (RS.B (RN.g2 N))) (RN.g3 N) (RN.z
 N), decide (RN.z N > (1024 : Int)) = false, w6 (RN.x N) ∧ w6 (RN.y N) ∧ w6 a ∧ w6 b, decide (cmpN (RN.x N) (RN.y N) a b ≤ (0 : Int)) = false, decide (RN.q N > (1073741824 : Int)) = false, opB (RN.o N) = true, opB (RN.s N)
 = true, decide (RN.s N > RN.o N) = false, RS.B (RN.g3 N) = false, decide (RN.z N > (↑(RS.L (RN.g3 N)) : Int)) = true, ((0 : Int) ≤ if (16 : Int) < RN.z N then (16 : Int) else RN.z N) ∧ ((if (16 : Int) < RN.z N then (16 :
 Int) else RN.z N) ≤ if (16 : Int) < RN.z N then (16 : Int) else RN.z N) ∧ ((1 : Int) * if (16 : Int) < RN.z N then (16 : Int) else RN.z N) ≤ (281474976710656 : Int) ∧ (if (16 : Int) < RN.z N then (16 : Int) else RN.z N) ≤
 (9223372036854775807 : Int), Int.toNat (if (16 : Int) < RN.z N then (16 : Int) else RN.z N) ≤ Int.toNat (if (16 : Int) < RN.z N then (16 : Int) else RN.z N) ∧ Int.toNat (if (16 : Int) < RN.z N then (16 : Int) else RN.z N)
 ≤ 9223372036854775807, Int.toNat (if (16 : Int) < RN.z N then (16 : Int) else RN.z N) ≤ List.length (zrep [Value.int IntKind.u8 (0 : Int)] (Int.toNat (if (16 : Int) < RN.z N then (16 : Int) else RN.z N))), Fl (List.take
 (Int.toNat (if (16 : Int) < RN.z N then (16 : Int) else RN.z N)) (zrep [Value.int IntKind.u8 (0 : Int)] (Int.toNat (if (16 : Int) < RN.z N then (16 : Int) else RN.z N)))), Byts (RN.R N) ∧ RN.n N ≤ 140737488355328 ∧ RN.R N
 = List.take (Int.toNat (if (16 : Int) < RN.z N then (16 : Int) else RN.z N)) (zrep [Value.int IntKind.u8 (0 : Int)] (Int.toNat (if (16 : Int) < RN.z N then (16 : Int) else RN.z N))) ∧ RN.n N = Int.toNat (if (16 : Int) <
 RN.z N then (16 : Int) else RN.z N), w6 (Se.x e0) ∧ w6 (Se.y e0) ∧ w6 (RN.x N) ∧ w6 (RN.y N), decide (cmpN (Se.x e0) (Se.y e0) (RN.x N) (RN.y N) < (0 : Int)) = true, w6 (Se.x e1) ∧ w6 (Se.y e1) ∧ w6 (RN.x N) ∧ w6 (RN.y
 N), decide (cmpN (Se.x e1) (Se.y e1) (RN.x N) (RN.y N) < (0 : Int)) = true, w6 (Se.x e2) ∧ w6 (Se.y e2) ∧ w6 (RN.x N) ∧ w6 (RN.y N), decide (cmpN (Se.x e2) (Se.y e2) (RN.x N) (RN.y N) < (0 : Int)) = true, rg IntKind.i64
 (4 : Int)]) := by kernel_rfl
end Go.Proofs.Ytdcakhahagbedaa
