/-
  Chapter 30: packets; headers that may be; Delete.
-/
import Derived.Test.YtcahhoemlmbnaaaDelA
namespace Go.Proofs.Ytcahhoemlmbnaaa
set_option linter.unusedSimpArgs false
set_option linter.unusedVariables false
set_option linter.unusedSectionVars false
open Go Go.RowKit

def hdrL (x : Int) : List Value := [.int .i64 3, .int .i64 0, .int .i64 0, .int .i64 0, .int .i64 0, .int .i64 x, .int .i64 0, .int .i64 0, .int .i64 0, .int .u64 0, .int .u64 0, .int .i64 0, .int .i64 0, .int .u64 0, .int .i64 0, .int .i64 0]
/-- A packet: op, from, to. -/
abbrev Pq : Type := Int × Int × Int
def pk (x : Pq) : List Value := .int .i64 x.2.1 :: .int .i64 x.2.2 :: (hdrL x.1 ++ [.slice none 0 0])
def pks : List Pq → List Value
  | [] => []
  | x :: l => pk x ++ pks l
def hkV : Tv := ⟨noTz, noXz, noL, tbl 29 [26, 31], noSy, fun _ => [], fun _ => 0⟩
theorem hk_run (x : Int) : prjV (runZ hkV Try.prog 9 29 [.agg ⟨hdrL x⟩] [] 1 [false, false, false, false, false, false, false, false, false, false, false, false, false, false, false, false, false, false, false, false]) =
  Res.ok (Value.int IntKind.i64 (0 : Int), [], [false = false, false = false, false = false, false = false, decide (x < (0 : Int)) = false, decide (x > (1073741824 : Int)) = false, false = false, false = false, false =
 false, false = false, false = false, false = false, false = false, false = false, false = false, false = false, false = false, false = false, false = false, false = false]) := by kernel_rfl
/-! ### packets -/
theorem pk_len (x : Pq) : (pk x).length = 19 := rfl
theorem pk_fl (x : Pq) : Fl (pk x) := Fl.of rfl
theorem pk_one (x : Pq) : all1 (pk x) = true := rfl
theorem pks_len : ∀ l, (pks l).length = l.length * 19
  | [] => rfl
  | x :: l => by simp only [pks, List.length_append, pk_len, pks_len l, List.length_cons]; omega
theorem pks_fl : ∀ l, Fl (pks l)
  | [] => Fl.of rfl
  | x :: l => (pk_fl x).app (pks_fl l)
theorem pks_one : ∀ l, all1 (pks l) = true
  | [] => rfl
  | x :: l => by simp only [pks]; exact all1_app.2 ⟨pk_one x, pks_one l⟩
theorem pks_app : ∀ a b, pks (a ++ b) = pks a ++ pks b
  | [], b => rfl
  | x :: a, b => by simp only [List.cons_append, pks, pks_app a b, List.append_assoc]
theorem pks_take : ∀ (l : List Pq) (i : Nat), (pks l).take (i * 19) = pks (l.take i)
  | l, 0 => by simp [pks]
  | [], i + 1 => by simp [pks]
  | x :: l, i + 1 => by
      simp only [pks, List.take_succ_cons]
      rw [List.take_append, List.take_of_length_le (by rw [pk_len]; omega), pk_len, show (i + 1) * 19 - 19 = i * 19 by omega, pks_take l i]
theorem pks_drop : ∀ (l : List Pq) (i : Nat), (pks l).drop (i * 19) = pks (l.drop i)
  | l, 0 => by simp [pks]
  | [], i + 1 => by simp [pks]
  | x :: l, i + 1 => by
      simp only [pks, List.drop_succ_cons]
      rw [List.drop_append, List.drop_of_length_le (by rw [pk_len]; omega), List.nil_append, pk_len, show (i + 1) * 19 - 19 = i * 19 by omega, pks_drop l i]
theorem pks_del (l : List Pq) (i : Nat) : delP (pks l) (i : Int) = pks (l.take i ++ l.drop (i + 1)) := by
  unfold delP
  rw [Int.toNat_natCast, pks_take, pks_drop, pks_app]
theorem pks_row {l : List Pq} {i : Nat} (h : i < l.length) : ((pks l).drop (i * 19)).take 19 = pk (l.getD i (0, 0, 0)) := by
  have e : l.drop i = l.getD i (0, 0, 0) :: l.drop (i + 1) := by rw [List.drop_eq_getElem_cons h]; simp [h]
  rw [pks_drop, e]
  simp only [pks]
  exact List.take_left' (pk_len _)
theorem pks_at {l : List Pq} {i j : Nat} (h : i < l.length) (hj : j < 19) : (pks l)[i * 19 + j]? = (pk (l.getD i (0, 0, 0)))[j]? := by
  rw [← pks_row h, List.getElem?_take, if_pos hj, List.getElem?_drop]
theorem pks_op {l : List Pq} {i : Nat} (h : i < l.length) : (pks l)[i * 19 + 7]? = some (.int .i64 (l.getD i (0, 0, 0)).1) ∧ (pks l)[i * 19]? = some (.int .i64 (l.getD i (0, 0, 0)).2.1) ∧ (pks l)[i * 19 + 1]? = some (.int .i64 (l.getD i (0, 0, 0)).2.2) := by
  refine ⟨?_, ?_, ?_⟩
  · rw [pks_at h (by omega)]; rfl
  · have := pks_at (j := 0) h (by omega); rw [Nat.add_zero] at this; rw [this]; rfl
  · rw [pks_at h (by omega)]; rfl

/-! ### headers -/
def gChk : GSpec := fun av tp => match av with
  | [.fl (.agg ⟨_ :: _ :: _ :: _ :: _ :: .int _ x :: _⟩)] => some (⟨fun _ => .int .i64 0, []⟩, tp, [av = [.fl (.agg ⟨hdrL x⟩)] ∧ 0 ≤ x ∧ x ≤ 1073741824])
  | _ => none
theorem chk_gok : GOk Try.prog 29 [.f] gChk := by
  have hX : XOkZ hkV Try.prog := noXz_ok rfl
  have hT : TOkZ hkV Try.prog := noTz_okV rfl
  have hL : LOkZ hkV Try.prog := noL_okV rfl
  intro av tp gr tp' ob hG ho hP caps hcap
  unfold gChk at hG
  split at hG
  case h_2 => cases hG
  rename_i x _
  simp only [Option.some.injEq, Prod.mk.injEq] at hG
  obtain ⟨rfl, rfl, rfl⟩ := hG
  obtain ⟨⟨ha, x0, x1⟩, _⟩ := ho
  rw [ha]
  obtain ⟨h', nx', dd, T⟩ := run_val hX hT hL (hk_run x) (by
    simp only [Alls, decide_eq_false_iff_not]
    repeat' apply And.intro
    all_goals first | omega | (with_reducible exact trivial)) rfl
  exact ⟨_, _, _, _, fun n => n, T, GrIs.flat fun σ => rfl⟩

/-! ### Delete -/
def delT : TFun := fun f args h nx tp => bif Nat.beq f 33 then (match args with
  | [.slice (some ⟨m, 0, none⟩) n c, .int .i64 i, .int .i64 j] => match lk h m with
    | some ⟨.room 19 z, cs⟩ => some (.ok ((.slice (some ⟨nx, 0, none⟩) (n - 1) (capBig + nx), (nx, ⟨.room 19 zPk, delP cs i⟩) :: delH h m, nx + 1, [m]), tp, [c = capBig + m ∧ z = zPk ∧ 0 ≤ i ∧ i < (n : Int) ∧ j = i + 1 ∧ cs.length = n * 19 ∧ Fl cs ∧ all1 cs = true]))
    | _ => none
  | _ => none) else none
theorem delT_one : TOneZ Try.prog delT := by
  intro f args h nx tp out tp' ob e ho
  unfold delT at e
  rcases bif_or e with ⟨hf, e1⟩ | ⟨_, e1⟩
  case inr => cases e1
  clear e
  obtain rfl := Nat.eq_of_beq_eq_true hf
  split at e1
  case h_2 => cases e1
  rename_i m n c i j
  split at e1
  case h_2 => cases e1
  rename_i z cs hl
  simp only [Option.some.injEq, Res.ok.injEq, Prod.mk.injEq] at e1
  obtain ⟨rfl, rfl, rfl⟩ := e1
  obtain ⟨⟨rfl, rfl, g1, g2, g3, g4, g5, g6⟩, _⟩ := ho
  exact del_tri hl g1 g2 g3 g4 g5 g6

end Go.Proofs.Ytcahhoemlmbnaaa
