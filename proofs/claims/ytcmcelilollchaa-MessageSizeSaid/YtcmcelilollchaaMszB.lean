/-
  Chapter 23: which bodies a command has: the program's function, by contract.
-/
import Derived.Test.YtcmcelilollchaaMszA
namespace Go.Proofs.Ytcmcelilollchaa
set_option linter.unusedSimpArgs false
set_option linter.unusedVariables false
set_option linter.unusedSectionVars false
open Go Go.RowKit

def entBd (xs : List Value) (n : Nat) : Bool := decide (n % 12 = 0) && (decide (n = 0) || enOk xs n)
def bodB (c : Int) (xs : List Value) (n : Nat) : Bool := bif (c == 3) then true else bif (c == 2) then true else bif (c == 5) then true else bif (c == 8) then entBd xs n else bif (c == 9) then entBd xs n else bif (c == 13) then ((n : Int) == 1024) else ((n : Int) == 0)
def boV : Tv := ⟨entT, noXz, noL, fun f => bif Nat.beq f 33 then [9, 10, 11, 13, 14, 23] else [], allSy 33 [], fun _ => [], fun _ => 0⟩
theorem bo_3 (c : Int) (xs : List Value) (n d : Nat) : prjV (runZ boV Try.prog 5 33 [.int .i64 c, .slice (some ⟨1, 0, none⟩) n d] [(1, ⟨.old, xs⟩)] 2 [true]) =
Res.ok (Value.bool true, [], [(c == (3 : Int)) = true]) := by kernel_rfl
theorem bn_3 (c : Int) : prjV (runZ boV Try.prog 5 33 [.int .i64 c, .slice none 0 0] [] 2 [true]) =
Res.ok (Value.bool true, [], [(c == (3 : Int)) = true]) := by kernel_rfl
theorem bo_2 (c : Int) (xs : List Value) (n d : Nat) : prjV (runZ boV Try.prog 5 33 [.int .i64 c, .slice (some ⟨1, 0, none⟩) n d] [(1, ⟨.old, xs⟩)] 2 [false, true]) =
Res.ok (Value.bool true, [], [(c == (3 : Int)) = false, (c == (2 : Int)) = true]) := by kernel_rfl
theorem bn_2 (c : Int) : prjV (runZ boV Try.prog 5 33 [.int .i64 c, .slice none 0 0] [] 2 [false, true]) =
Res.ok (Value.bool true, [], [(c == (3 : Int)) = false, (c == (2 : Int)) = true]) := by kernel_rfl
theorem bo_5 (c : Int) (xs : List Value) (n d : Nat) : prjV (runZ boV Try.prog 5 33 [.int .i64 c, .slice (some ⟨1, 0, none⟩) n d] [(1, ⟨.old, xs⟩)] 2 [false, false, true]) =
Res.ok (Value.bool true, [], [(c == (3 : Int)) = false, (c == (2 : Int)) = false, (c == (5 : Int)) = true]) := by kernel_rfl
theorem bn_5 (c : Int) : prjV (runZ boV Try.prog 5 33 [.int .i64 c, .slice none 0 0] [] 2 [false, false, true]) =
Res.ok (Value.bool true, [], [(c == (3 : Int)) = false, (c == (2 : Int)) = false, (c == (5 : Int)) = true]) := by kernel_rfl
theorem bo_13 (c : Int) (xs : List Value) (n d : Nat) : prjV (runZ boV Try.prog 5 33 [.int .i64 c, .slice (some ⟨1, 0, none⟩) n d] [(1, ⟨.old, xs⟩)] 2 [false, false, false, false, false, true]) =
Res.ok
  (Value.bool ((↑n : Int) == (1024 : Int)), [],
    [(c == (3 : Int)) = false, (c == (2 : Int)) = false, (c == (5 : Int)) = false, (c == (8 : Int)) = false,
      (c == (9 : Int)) = false, (c == (13 : Int)) = true]) := by kernel_rfl
theorem bn_13 (c : Int) : prjV (runZ boV Try.prog 5 33 [.int .i64 c, .slice none 0 0] [] 2 [false, false, false, false, false, true]) =
Res.ok
  (Value.bool false, [],
    [(c == (3 : Int)) = false, (c == (2 : Int)) = false, (c == (5 : Int)) = false, (c == (8 : Int)) = false,
      (c == (9 : Int)) = false, (c == (13 : Int)) = true]) := by kernel_rfl
theorem bo_no (c : Int) (xs : List Value) (n d : Nat) : prjV (runZ boV Try.prog 5 33 [.int .i64 c, .slice (some ⟨1, 0, none⟩) n d] [(1, ⟨.old, xs⟩)] 2 [false, false, false, false, false, false]) =
Res.ok
  (Value.bool ((↑n : Int) == (0 : Int)), [],
    [(c == (3 : Int)) = false, (c == (2 : Int)) = false, (c == (5 : Int)) = false, (c == (8 : Int)) = false,
      (c == (9 : Int)) = false, (c == (13 : Int)) = false]) := by kernel_rfl
theorem bn_no (c : Int) : prjV (runZ boV Try.prog 5 33 [.int .i64 c, .slice none 0 0] [] 2 [false, false, false, false, false, false]) =
Res.ok
  (Value.bool true, [],
    [(c == (3 : Int)) = false, (c == (2 : Int)) = false, (c == (5 : Int)) = false, (c == (8 : Int)) = false,
      (c == (9 : Int)) = false, (c == (13 : Int)) = false]) := by kernel_rfl
theorem bo_8bad (c : Int) (xs : List Value) (n d : Nat) : prjV (runZ boV Try.prog 5 33 [.int .i64 c, .slice (some ⟨1, 0, none⟩) n d] [(1, ⟨.old, xs⟩)] 2 ([false, false, false, true] ++ [true])) =
Res.ok
  (Value.bool false, [],
    [(c == (3 : Int)) = false, (c == (2 : Int)) = false, (c == (5 : Int)) = false, (c == (8 : Int)) = true,
      n ≤ d ∧ d ≤ (9223372036854775807 : Nat), n ≤ List.length xs, Fl (List.take n xs), Byts (List.take n xs),
      decide (avLen (Av.sl (List.take n xs) n) % (12 : Nat) = (0 : Nat)) = false]) := by kernel_rfl
theorem bo_9bad (c : Int) (xs : List Value) (n d : Nat) : prjV (runZ boV Try.prog 5 33 [.int .i64 c, .slice (some ⟨1, 0, none⟩) n d] [(1, ⟨.old, xs⟩)] 2 ([false, false, false, false, true] ++ [true])) =
Res.ok
  (Value.bool false, [],
    [(c == (3 : Int)) = false, (c == (2 : Int)) = false, (c == (5 : Int)) = false, (c == (8 : Int)) = false,
      (c == (9 : Int)) = true, n ≤ d ∧ d ≤ (9223372036854775807 : Nat), n ≤ List.length xs, Fl (List.take n xs),
      Byts (List.take n xs), decide (avLen (Av.sl (List.take n xs) n) % (12 : Nat) = (0 : Nat)) = false]) := by kernel_rfl
theorem bo_8nil (c : Int) (xs : List Value) (n d : Nat) : prjV (runZ boV Try.prog 5 33 [.int .i64 c, .slice (some ⟨1, 0, none⟩) n d] [(1, ⟨.old, xs⟩)] 2 ([false, false, false, true] ++ [false, true])) =
Res.ok
  (Value.bool true, [],
    [(c == (3 : Int)) = false, (c == (2 : Int)) = false, (c == (5 : Int)) = false, (c == (8 : Int)) = true,
      n ≤ d ∧ d ≤ (9223372036854775807 : Nat), n ≤ List.length xs, Fl (List.take n xs), Byts (List.take n xs),
      avLen (Av.sl (List.take n xs) n) = (0 : Nat)]) := by kernel_rfl
theorem bo_9nil (c : Int) (xs : List Value) (n d : Nat) : prjV (runZ boV Try.prog 5 33 [.int .i64 c, .slice (some ⟨1, 0, none⟩) n d] [(1, ⟨.old, xs⟩)] 2 ([false, false, false, false, true] ++ [false, true])) =
Res.ok
  (Value.bool true, [],
    [(c == (3 : Int)) = false, (c == (2 : Int)) = false, (c == (5 : Int)) = false, (c == (8 : Int)) = false,
      (c == (9 : Int)) = true, n ≤ d ∧ d ≤ (9223372036854775807 : Nat), n ≤ List.length xs, Fl (List.take n xs),
      Byts (List.take n xs), avLen (Av.sl (List.take n xs) n) = (0 : Nat)]) := by kernel_rfl
theorem bo_8not (c : Int) (xs : List Value) (n d : Nat) : prjV (runZ boV Try.prog 5 33 [.int .i64 c, .slice (some ⟨1, 0, none⟩) n d] [(1, ⟨.old, xs⟩)] 2 ([false, false, false, true] ++ [false, false, true])) =
Res.ok
  (Value.bool false, [],
    [(c == (3 : Int)) = false, (c == (2 : Int)) = false, (c == (5 : Int)) = false, (c == (8 : Int)) = true,
      n ≤ d ∧ d ≤ (9223372036854775807 : Nat), n ≤ List.length xs, Fl (List.take n xs), Byts (List.take n xs),
      avLen (Av.sl (List.take n xs) n) % (12 : Nat) = (0 : Nat),
      decide (avLen (Av.sl (List.take n xs) n) = (0 : Nat)) = false, avLen (Av.sl (List.take n xs) n) ≤ (4096 : Nat),
      enOk (List.take n xs) (avLen (Av.sl (List.take n xs) n)) = false]) := by kernel_rfl
theorem bo_9not (c : Int) (xs : List Value) (n d : Nat) : prjV (runZ boV Try.prog 5 33 [.int .i64 c, .slice (some ⟨1, 0, none⟩) n d] [(1, ⟨.old, xs⟩)] 2 ([false, false, false, false, true] ++ [false, false, true])) =
Res.ok
  (Value.bool false, [],
    [(c == (3 : Int)) = false, (c == (2 : Int)) = false, (c == (5 : Int)) = false, (c == (8 : Int)) = false,
      (c == (9 : Int)) = true, n ≤ d ∧ d ≤ (9223372036854775807 : Nat), n ≤ List.length xs, Fl (List.take n xs),
      Byts (List.take n xs), avLen (Av.sl (List.take n xs) n) % (12 : Nat) = (0 : Nat),
      decide (avLen (Av.sl (List.take n xs) n) = (0 : Nat)) = false, avLen (Av.sl (List.take n xs) n) ≤ (4096 : Nat),
      enOk (List.take n xs) (avLen (Av.sl (List.take n xs) n)) = false]) := by kernel_rfl
theorem bo_8ok (c : Int) (xs : List Value) (n d : Nat) : prjV (runZ boV Try.prog 5 33 [.int .i64 c, .slice (some ⟨1, 0, none⟩) n d] [(1, ⟨.old, xs⟩)] 2 ([false, false, false, true] ++ [false, false, false])) =
Res.ok
  (Value.bool true, [],
    [(c == (3 : Int)) = false, (c == (2 : Int)) = false, (c == (5 : Int)) = false, (c == (8 : Int)) = true,
      n ≤ d ∧ d ≤ (9223372036854775807 : Nat), n ≤ List.length xs, Fl (List.take n xs), Byts (List.take n xs),
      avLen (Av.sl (List.take n xs) n) % (12 : Nat) = (0 : Nat),
      decide (avLen (Av.sl (List.take n xs) n) = (0 : Nat)) = false, avLen (Av.sl (List.take n xs) n) ≤ (4096 : Nat),
      enOk (List.take n xs) (avLen (Av.sl (List.take n xs) n)) = true]) := by kernel_rfl
theorem bo_9ok (c : Int) (xs : List Value) (n d : Nat) : prjV (runZ boV Try.prog 5 33 [.int .i64 c, .slice (some ⟨1, 0, none⟩) n d] [(1, ⟨.old, xs⟩)] 2 ([false, false, false, false, true] ++ [false, false, false])) =
Res.ok
  (Value.bool true, [],
    [(c == (3 : Int)) = false, (c == (2 : Int)) = false, (c == (5 : Int)) = false, (c == (8 : Int)) = false,
      (c == (9 : Int)) = true, n ≤ d ∧ d ≤ (9223372036854775807 : Nat), n ≤ List.length xs, Fl (List.take n xs),
      Byts (List.take n xs), avLen (Av.sl (List.take n xs) n) % (12 : Nat) = (0 : Nat),
      decide (avLen (Av.sl (List.take n xs) n) = (0 : Nat)) = false, avLen (Av.sl (List.take n xs) n) ≤ (4096 : Nat),
      enOk (List.take n xs) (avLen (Av.sl (List.take n xs) n)) = true]) := by kernel_rfl
theorem bn_8nil (c : Int) : prjV (runZ boV Try.prog 5 33 [.int .i64 c, .slice none 0 0] [] 2 ([false, false, false, true] ++ [false, true])) =
Res.ok
  (Value.bool true, [],
    [(c == (3 : Int)) = false, (c == (2 : Int)) = false, (c == (5 : Int)) = false, (c == (8 : Int)) = true, Byts [],
      (0 : Nat) = (0 : Nat)]) := by kernel_rfl
theorem bn_9nil (c : Int) : prjV (runZ boV Try.prog 5 33 [.int .i64 c, .slice none 0 0] [] 2 ([false, false, false, false, true] ++ [false, true])) =
Res.ok
  (Value.bool true, [],
    [(c == (3 : Int)) = false, (c == (2 : Int)) = false, (c == (5 : Int)) = false, (c == (8 : Int)) = false,
      (c == (9 : Int)) = true, Byts [], (0 : Nat) = (0 : Nat)]) := by kernel_rfl
def gBod : GSpec := fun av tp => match av with
  | [.fl (.int .i64 c), b] => (match bytsA b with | some xs => some (⟨fun _ => .bool (bodB c xs (avLen b)), []⟩, tp, [Byts xs, avLen b ≤ 4096]) | none => none)
  | _ => none
theorem bodied_gok : GOk Try.prog 33 [.f, .s 1] gBod := by
  have hX : XOkZ boV Try.prog := noXz_ok rfl
  have hT : TOkZ boV Try.prog := T_okV rfl entT_one
  have hL : LOkZ boV Try.prog := noL_okV rfl
  intro av tp gr tp' ob hG ho hP caps hcap
  obtain ⟨a, b, rfl, pa, pb⟩ := avps2 hP
  obtain ⟨c0, d, rfl⟩ := caps2 hcap
  unfold gBod at hG
  split at hG
  case h_2 => cases hG
  rename_i c b' e
  simp only [List.cons.injEq, and_true] at e
  obtain ⟨rfl, rfl⟩ := e
  split at hG
  case h_2 => cases hG
  rename_i xs hx
  simp only [Option.some.injEq, Prod.mk.injEq] at hG
  obtain ⟨rfl, rfl, rfl⟩ := hG
  obtain ⟨hb, hn, _⟩ := ho
  cases b with
  | ag p zs m => simp [AvP] at pb
  | sc zs l m => simp [AvP] at pb
  | fl v =>
    simp only [AvP] at pb
    subst pb
    simp only [bytsA, Option.some.injEq] at hx
    subst hx
    by_cases h3 : c = 3
    · subst h3
      exact ran_flat (run_val hX hT hL (bn_3 3) (by simp [Alls]) rfl) rfl (fun σ => rfl)
    by_cases h2 : c = 2
    · subst h2
      exact ran_flat (run_val hX hT hL (bn_2 2) (by simp [Alls]) rfl) rfl (fun σ => rfl)
    by_cases h5 : c = 5
    · subst h5
      exact ran_flat (run_val hX hT hL (bn_5 5) (by simp [Alls]) rfl) rfl (fun σ => rfl)
    by_cases h8 : c = 8
    · subst h8
      exact ran_flat (run_val hX hT hL (bn_8nil 8) (by simp [Alls, hb]) rfl) rfl (fun σ => rfl)
    by_cases h9 : c = 9
    · subst h9
      exact ran_flat (run_val hX hT hL (bn_9nil 9) (by simp [Alls, hb]) rfl) rfl (fun σ => rfl)
    by_cases h13 : c = 13
    · subst h13
      exact ran_flat (run_val hX hT hL (bn_13 13) (by simp [Alls]) rfl) rfl (fun σ => rfl)
    exact ran_flat (run_val hX hT hL (bn_no c) (by simp [Alls, h3, h2, h5, h8, h9, h13]) rfl) (by simp only [bodB, eqF h3, eqF h2, eqF h5, eqF h8, eqF h9, eqF h13, cond_false, avLen]; rfl) (fun σ => by simp only [renV])
  | sl zs n =>
    simp only [bytsA, Option.some.injEq] at hx
    subst hx
    simp only [avLen] at hn ⊢
    have hl : zs.length = n := by have := pb.2; omega
    have ex : zs.take n = zs := take_len hl
    have f1 := fl_byts hb
    have hc := hcap.1
    by_cases h3 : c = 3
    · subst h3
      exact ran_flat (run_val hX hT hL (bo_3 3 zs n d) (by simp [Alls]) rfl) rfl (fun σ => rfl)
    by_cases h2 : c = 2
    · subst h2
      exact ran_flat (run_val hX hT hL (bo_2 2 zs n d) (by simp [Alls]) rfl) rfl (fun σ => rfl)
    by_cases h5 : c = 5
    · subst h5
      exact ran_flat (run_val hX hT hL (bo_5 5 zs n d) (by simp [Alls]) rfl) rfl (fun σ => rfl)
    by_cases h8 : c = 8
    · subst h8
      have e8 : bodB 8 zs n = entBd zs n := rfl
      rw [e8]
      cases k0 : decide (n % 12 = 0)
      ·
        refine ran_flat (run_val hX hT hL (bo_8bad 8 zs n d) ?_ rfl) ?_ (fun σ => by simp only [renV])
        · simp only [Alls, avLen, ex]
          repeat' (first | with_reducible exact trivial | with_reducible apply And.intro)
          all_goals first | with_reducible assumption | omega | with_reducible rfl | (first | exact k0 | exact k1 | rfl)
        · first
            | (simp only [entBd, k0, Bool.false_and]; done)
            | (simp only [entBd, k0, k1, Bool.true_and, Bool.true_or]; done)
            | (simp only [entBd, k0, k1, k2, Bool.true_and, Bool.false_or]; done)
      have k0' : n % 12 = 0 := by simpa using k0
      cases k1 : decide (n = 0)
      case true =>
        have k1' : n = 0 := by simpa using k1
        refine ran_flat (run_val hX hT hL (bo_8nil 8 zs n d) ?_ rfl) ?_ (fun σ => by simp only [renV])
        · simp only [Alls, avLen, ex]
          repeat' (first | with_reducible exact trivial | with_reducible apply And.intro)
          all_goals first | with_reducible assumption | omega | with_reducible rfl | (first | exact k0 | exact k1 | rfl)
        · first
            | (simp only [entBd, k0, Bool.false_and]; done)
            | (simp only [entBd, k0, k1, Bool.true_and, Bool.true_or]; done)
            | (simp only [entBd, k0, k1, k2, Bool.true_and, Bool.false_or]; done)
      cases k2 : enOk zs n
      ·
        refine ran_flat (run_val hX hT hL (bo_8not 8 zs n d) ?_ rfl) ?_ (fun σ => by simp only [renV])
        · simp only [Alls, avLen, ex]
          repeat' (first | with_reducible exact trivial | with_reducible apply And.intro)
          all_goals first | with_reducible assumption | omega | with_reducible rfl | (first | exact k0 | exact k1 | rfl)
        · first
            | (simp only [entBd, k0, Bool.false_and]; done)
            | (simp only [entBd, k0, k1, Bool.true_and, Bool.true_or]; done)
            | (simp only [entBd, k0, k1, k2, Bool.true_and, Bool.false_or]; done)
      ·
        refine ran_flat (run_val hX hT hL (bo_8ok 8 zs n d) ?_ rfl) ?_ (fun σ => by simp only [renV])
        · simp only [Alls, avLen, ex]
          repeat' (first | with_reducible exact trivial | with_reducible apply And.intro)
          all_goals first | with_reducible assumption | omega | with_reducible rfl | (first | exact k0 | exact k1 | rfl)
        · first
            | (simp only [entBd, k0, Bool.false_and]; done)
            | (simp only [entBd, k0, k1, Bool.true_and, Bool.true_or]; done)
            | (simp only [entBd, k0, k1, k2, Bool.true_and, Bool.false_or]; done)
    by_cases h9 : c = 9
    · subst h9
      have e9 : bodB 9 zs n = entBd zs n := rfl
      rw [e9]
      cases k0 : decide (n % 12 = 0)
      ·
        refine ran_flat (run_val hX hT hL (bo_9bad 9 zs n d) ?_ rfl) ?_ (fun σ => by simp only [renV])
        · simp only [Alls, avLen, ex]
          repeat' (first | with_reducible exact trivial | with_reducible apply And.intro)
          all_goals first | with_reducible assumption | omega | with_reducible rfl | (first | exact k0 | exact k1 | rfl)
        · first
            | (simp only [entBd, k0, Bool.false_and]; done)
            | (simp only [entBd, k0, k1, Bool.true_and, Bool.true_or]; done)
            | (simp only [entBd, k0, k1, k2, Bool.true_and, Bool.false_or]; done)
      have k0' : n % 12 = 0 := by simpa using k0
      cases k1 : decide (n = 0)
      case true =>
        have k1' : n = 0 := by simpa using k1
        refine ran_flat (run_val hX hT hL (bo_9nil 9 zs n d) ?_ rfl) ?_ (fun σ => by simp only [renV])
        · simp only [Alls, avLen, ex]
          repeat' (first | with_reducible exact trivial | with_reducible apply And.intro)
          all_goals first | with_reducible assumption | omega | with_reducible rfl | (first | exact k0 | exact k1 | rfl)
        · first
            | (simp only [entBd, k0, Bool.false_and]; done)
            | (simp only [entBd, k0, k1, Bool.true_and, Bool.true_or]; done)
            | (simp only [entBd, k0, k1, k2, Bool.true_and, Bool.false_or]; done)
      cases k2 : enOk zs n
      ·
        refine ran_flat (run_val hX hT hL (bo_9not 9 zs n d) ?_ rfl) ?_ (fun σ => by simp only [renV])
        · simp only [Alls, avLen, ex]
          repeat' (first | with_reducible exact trivial | with_reducible apply And.intro)
          all_goals first | with_reducible assumption | omega | with_reducible rfl | (first | exact k0 | exact k1 | rfl)
        · first
            | (simp only [entBd, k0, Bool.false_and]; done)
            | (simp only [entBd, k0, k1, Bool.true_and, Bool.true_or]; done)
            | (simp only [entBd, k0, k1, k2, Bool.true_and, Bool.false_or]; done)
      ·
        refine ran_flat (run_val hX hT hL (bo_9ok 9 zs n d) ?_ rfl) ?_ (fun σ => by simp only [renV])
        · simp only [Alls, avLen, ex]
          repeat' (first | with_reducible exact trivial | with_reducible apply And.intro)
          all_goals first | with_reducible assumption | omega | with_reducible rfl | (first | exact k0 | exact k1 | rfl)
        · first
            | (simp only [entBd, k0, Bool.false_and]; done)
            | (simp only [entBd, k0, k1, Bool.true_and, Bool.true_or]; done)
            | (simp only [entBd, k0, k1, k2, Bool.true_and, Bool.false_or]; done)
    by_cases h13 : c = 13
    · subst h13
      exact ran_flat (run_val hX hT hL (bo_13 13 zs n d) (by simp [Alls]) rfl) rfl (fun σ => by simp only [renV])
    exact ran_flat (run_val hX hT hL (bo_no c zs n d) (by simp [Alls, h3, h2, h5, h8, h9, h13]) rfl) (by simp only [bodB, eqF h3, eqF h2, eqF h5, eqF h8, eqF h9, eqF h13, cond_false]) (fun σ => by simp only [renV])
end Go.Proofs.Ytcmcelilollchaa
