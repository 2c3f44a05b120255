/-
  Chapter 12: slices.Insert of a pair ahead of the only one, as the chapter's examples do it.
-/
import Derived.Test.YtojakfnljopjbaaInsG
import Derived.Test.YtojakfnljopjbaaMtA
import Derived.Test.YtojakfnljopjbaaKitX
import Derived.Test.YtojakfnljopjbaaKitW
namespace Go.Proofs.Ytojakfnljopjbaa
set_option linter.unusedSimpArgs false
set_option linter.unusedVariables false
set_option linter.unusedSectionVars false
open Go Go.RowKit

def zP : List Value := [.slice none 0 0, .slice none 0 0, .bool false]
def b1 (x : Int) : Rw := ⟨.room 1 [.int .u8 0], [.int .u8 x]⟩
def cP (k v : Nat) : List Value := [.slice (some ⟨k, 0, none⟩) 1 (capBig + k), .slice (some ⟨v, 0, none⟩) 1 (capBig + v), .bool false]
def sP (k v : Nat) : List Value := [.slice (some ⟨k, 0, none⟩) 1 1, .slice (some ⟨v, 0, none⟩) 1 1, .bool false]
/-- The memory at the second call. -/
def inH (r : Rw) : Hp := [(14, ⟨.shut, sP 12 13⟩), (13, ⟨.lent, [.int .u8 50]⟩), (12, ⟨.lent, [.int .u8 97]⟩), (3, ⟨.shut, sP 1 2⟩), (2, ⟨.lent, [.int .u8 49]⟩), (1, ⟨.lent, [.int .u8 98]⟩), (0, ⟨.shut, [.bool true, .slice (some ⟨11, 0, none⟩) 1 (capBig + 11)]⟩), (9, b1 49), (8, b1 98), (7, ⟨.shut, []⟩), (5, ⟨.shut, sP 1 2⟩), (6, ⟨.shut, cP 8 9⟩), (10, ⟨.shut, cP 8 9⟩), (11, r), (22, b1 50), (21, b1 97), (20, ⟨.shut, []⟩), (18, ⟨.shut, sP 12 13⟩), (19, ⟨.shut, cP 21 22⟩), (23, ⟨.shut, cP 21 22⟩)]
def inV : Tv := ⟨noTz, mtX, noL, tbl 49 [31], lsSy 49 [(12, 0), (30, 0), (60, 0), (66, 0), (73, 0), (76, 0), (77, 0), (80, 0), (82, 0)], fun _ => [], fun _ => 0⟩
theorem ins_in (k : Nat) (x y z : Value) (rest : List Value) : runZ inV Try.prog 5 49 [.slice (some ⟨11, 0, none⟩) 1 (k + 2), .int .i64 0, .slice (some ⟨23, 0, none⟩) 1 1] (inH ⟨.shut, cP 8 9 ++ x :: y :: z :: rest⟩) 24 [false] =
  Res.ok ((Value.slice (some (Addr.mk 11 0 none)) 2 (k + 2), [(14, Rw.mk Kd.shut [Value.slice (some (Addr.mk 12 0 none)) 1 1, Value.slice (some (Addr.mk 13 0 none)) 1 1, Value.bool false]), (13, Rw.mk Kd.lent [Value.int
 IntKind.u8 (50 : Int)]), (12, Rw.mk Kd.lent [Value.int IntKind.u8 (97 : Int)]), (3, Rw.mk Kd.shut [Value.slice (some (Addr.mk 1 0 none)) 1 1, Value.slice (some (Addr.mk 2 0 none)) 1 1, Value.bool false]), (2, Rw.mk
 Kd.lent [Value.int IntKind.u8 (49 : Int)]), (1, Rw.mk Kd.lent [Value.int IntKind.u8 (98 : Int)]), (0, Rw.mk Kd.shut [Value.bool true, Value.slice (some (Addr.mk 11 0 none)) 1 (capBig + 11)]), (9, Rw.mk (Kd.room 1
 [Value.int IntKind.u8 (0 : Int)]) [Value.int IntKind.u8 (49 : Int)]), (8, Rw.mk (Kd.room 1 [Value.int IntKind.u8 (0 : Int)]) [Value.int IntKind.u8 (98 : Int)]), (7, Rw.mk Kd.shut []), (5, Rw.mk Kd.shut [Value.slice (some
 (Addr.mk 1 0 none)) 1 1, Value.slice (some (Addr.mk 2 0 none)) 1 1, Value.bool false]), (6, Rw.mk Kd.shut [Value.slice (some (Addr.mk 8 0 none)) 1 (capBig + 8), Value.slice (some (Addr.mk 9 0 none)) 1 (capBig + 9),
 Value.bool false]), (10, Rw.mk Kd.shut [Value.slice (some (Addr.mk 8 0 none)) 1 (capBig + 8), Value.slice (some (Addr.mk 9 0 none)) 1 (capBig + 9), Value.bool false]), (11, Rw.mk Kd.shut (Value.slice (some (Addr.mk 21 0
 none)) 1 (capBig + 21) :: Value.slice (some (Addr.mk 22 0 none)) 1 (capBig + 22) :: Value.bool false :: Value.slice (some (Addr.mk 8 0 none)) 1 (capBig + 8) :: Value.slice (some (Addr.mk 9 0 none)) 1 (capBig + 9) ::
 Value.bool false :: rest)), (22, Rw.mk (Kd.room 1 [Value.int IntKind.u8 (0 : Int)]) [Value.int IntKind.u8 (50 : Int)]), (21, Rw.mk (Kd.room 1 [Value.int IntKind.u8 (0 : Int)]) [Value.int IntKind.u8 (97 : Int)]), (20,
 Rw.mk Kd.shut []), (18, Rw.mk Kd.shut [Value.slice (some (Addr.mk 12 0 none)) 1 1, Value.slice (some (Addr.mk 13 0 none)) 1 1, Value.bool false]), (19, Rw.mk Kd.shut [Value.slice (some (Addr.mk 21 0 none)) 1 (capBig +
 21), Value.slice (some (Addr.mk 22 0 none)) 1 (capBig + 22), Value.bool false]), (23, Rw.mk Kd.shut [Value.slice (some (Addr.mk 21 0 none)) 1 (capBig + 21), Value.slice (some (Addr.mk 22 0 none)) 1 (capBig + 22),
 Value.bool false])], 24, [11, 11]), [], ((fun (q0 q1 q2 q3 : Prop) => [q0, (0 : Int) ≤ (0 : Int) ∧ (0 : Int) ≤ (1 : Int), q0, false = false, q0, (0 : Int) ≤ (2 : Int) ∧ (2 : Int) ≤ (↑(k + 2) : Int), q0, q1, q0, q1, q0,
 q2, q3, q3, all1 [Value.slice (some (Addr.mk 8 0 none)) 1 (capBig + 8), Value.slice (some (Addr.mk 9 0 none)) 1 (capBig + 9), Value.bool false, x, y, z] = true, q0, q2, 3 ≤ List.length (splice ([Value.slice (some (Addr.mk
 8 0 none)) 1 (capBig + 8), Value.slice (some (Addr.mk 9 0 none)) 1 (capBig + 9), Value.bool false] ++ x :: y :: z :: rest) 3 [Value.slice (some (Addr.mk 8 0 none)) 1 (capBig + 8), Value.slice (some (Addr.mk 9 0 none)) 1
 (capBig + 9), Value.bool false]), 3 ≤ 3, true = true]) (k + 2 < 18446744073709551616) ((0 : Int) ≤ (1 : Int) ∧ (1 : Int) ≤ (2 : Int)) ((0 : Int) ≤ (0 : Int) ∧ (0 : Int) ≤ (2 : Int)) (6 ≤ List.length ([Value.slice (some
 (Addr.mk 8 0 none)) 1 (capBig + 8), Value.slice (some (Addr.mk 9 0 none)) 1 (capBig + 9), Value.bool false] ++ x :: y :: z :: rest)))) := by kernel_rfl
theorem ins_out  : runZ inV Try.prog 5 49 [.slice (some ⟨11, 0, none⟩) 1 1, .int .i64 0, .slice (some ⟨23, 0, none⟩) 1 1] (inH ⟨.shut, cP 8 9⟩) 24 [true] =
  Res.ok ((Value.slice (some (Addr.mk 24 0 none)) 2 (capBig + 24), [(24, Rw.mk (Kd.room 3 [Value.slice none 0 0, Value.slice none 0 0, Value.bool false]) [Value.slice (some (Addr.mk 21 0 none)) 1 (capBig + 21), Value.slice
 (some (Addr.mk 22 0 none)) 1 (capBig + 22), Value.bool false, Value.slice (some (Addr.mk 8 0 none)) 1 (capBig + 8), Value.slice (some (Addr.mk 9 0 none)) 1 (capBig + 9), Value.bool false]), (14, Rw.mk Kd.shut [Value.slice
 (some (Addr.mk 12 0 none)) 1 1, Value.slice (some (Addr.mk 13 0 none)) 1 1, Value.bool false]), (13, Rw.mk Kd.lent [Value.int IntKind.u8 (50 : Int)]), (12, Rw.mk Kd.lent [Value.int IntKind.u8 (97 : Int)]), (3, Rw.mk
 Kd.shut [Value.slice (some (Addr.mk 1 0 none)) 1 1, Value.slice (some (Addr.mk 2 0 none)) 1 1, Value.bool false]), (2, Rw.mk Kd.lent [Value.int IntKind.u8 (49 : Int)]), (1, Rw.mk Kd.lent [Value.int IntKind.u8 (98 :
 Int)]), (0, Rw.mk Kd.shut [Value.bool true, Value.slice (some (Addr.mk 11 0 none)) 1 (capBig + 11)]), (9, Rw.mk (Kd.room 1 [Value.int IntKind.u8 (0 : Int)]) [Value.int IntKind.u8 (49 : Int)]), (8, Rw.mk (Kd.room 1
 [Value.int IntKind.u8 (0 : Int)]) [Value.int IntKind.u8 (98 : Int)]), (7, Rw.mk Kd.shut []), (5, Rw.mk Kd.shut [Value.slice (some (Addr.mk 1 0 none)) 1 1, Value.slice (some (Addr.mk 2 0 none)) 1 1, Value.bool false]), (6,
 Rw.mk Kd.shut [Value.slice (some (Addr.mk 8 0 none)) 1 (capBig + 8), Value.slice (some (Addr.mk 9 0 none)) 1 (capBig + 9), Value.bool false]), (10, Rw.mk Kd.shut [Value.slice (some (Addr.mk 8 0 none)) 1 (capBig + 8),
 Value.slice (some (Addr.mk 9 0 none)) 1 (capBig + 9), Value.bool false]), (11, Rw.mk Kd.shut [Value.slice (some (Addr.mk 8 0 none)) 1 (capBig + 8), Value.slice (some (Addr.mk 9 0 none)) 1 (capBig + 9), Value.bool false]),
 (22, Rw.mk (Kd.room 1 [Value.int IntKind.u8 (0 : Int)]) [Value.int IntKind.u8 (50 : Int)]), (21, Rw.mk (Kd.room 1 [Value.int IntKind.u8 (0 : Int)]) [Value.int IntKind.u8 (97 : Int)]), (20, Rw.mk Kd.shut []), (18, Rw.mk
 Kd.shut [Value.slice (some (Addr.mk 12 0 none)) 1 1, Value.slice (some (Addr.mk 13 0 none)) 1 1, Value.bool false]), (19, Rw.mk Kd.shut [Value.slice (some (Addr.mk 21 0 none)) 1 (capBig + 21), Value.slice (some (Addr.mk
 22 0 none)) 1 (capBig + 22), Value.bool false]), (23, Rw.mk Kd.shut [Value.slice (some (Addr.mk 21 0 none)) 1 (capBig + 21), Value.slice (some (Addr.mk 22 0 none)) 1 (capBig + 22), Value.bool false])], 27, []), [], [1 <
 18446744073709551616, (0 : Int) ≤ (0 : Int) ∧ (0 : Int) ≤ (1 : Int), 1 < 18446744073709551616, true = true]) := by kernel_rfl
theorem inX {V : Tv} (h : V.X = mtX) : XOkZ V Try.prog := XOneZ.ok mtX_ok h
theorem zP_no : ∀ x ∈ zP, noAd x = true := fun x hx => by
  simp only [zP, List.mem_cons, List.not_mem_nil, or_false] at hx
  rcases hx with rfl | rfl | rfl <;> rfl
theorem zP_one {x : Value} (h : x ∈ zP) : one1 x = true := by
  simp only [zP, List.mem_cons, List.not_mem_nil, or_false] at h
  rcases h with rfl | rfl | rfl <;> rfl
theorem list3 {l : List Value} (h : 3 ≤ l.length) : ∃ x y z r, l = x :: y :: z :: r := by
  rcases l with _ | ⟨x, _ | ⟨y, _ | ⟨z, r⟩⟩⟩
  · simp at h
  · simp at h
  · simp at h
  · exact ⟨x, y, z, r, rfl⟩
theorem ins_in_tri : Tri Try.prog 49 [.slice (some ⟨11, 0, none⟩) 1 (capBig + 11), .int .i64 0, .slice (some ⟨23, 0, none⟩) 1 1] (inH ⟨.room 3 zP, cP 8 9⟩) 24 (.slice (some ⟨24 + 3, 0, none⟩) (1 + 1) (capBig + (24 + 3)), (24 + 3, ⟨.room 3 zP, cP 21 22 ++ cP 8 9⟩) :: delH (inH ⟨.room 3 zP, cP 8 9⟩) 11, 24 + 3 + 1, [11]) := by
  have hX : XOkZ inV Try.prog := inX rfl
  have hT : TOkZ inV Try.prog := noTz_okV rfl
  have hL : LOkZ inV Try.prog := noL_okV rfl
  refine ins_tri (m := 11) (n := 1) (K := 3) (sz := 3) (z := zP) (cs := cP 8 9) (by omega) rfl (by omega) rfl zP_no (fun k rest hm hr hz => ?_) ?_
  · obtain ⟨x, y, z, rest, rfl⟩ := list3 (by omega : 3 ≤ rest.length)
    · have hk : 1 + 1 + k = k + 2 := by omega
      rw [hk] at hm ⊢
      have hlow := Nat.lt_of_le_of_lt hm maxLen_low
      have h1 : one1 x = true := zP_one (hz x (by simp))
      have h2 : one1 y = true := zP_one (hz y (by simp))
      have h3 : one1 z = true := zP_one (hz z (by simp))
      have T := run_tri hX hT hL (ins_in k x y z rest) ?_ rfl
      · refine ⟨_, _, _, rest, T, ?_, rfl, ?_, fun v hv => hz v (by simp [hv]), fun j hj => by simpa using hj⟩
        · omega
        · simp only [List.length_cons] at hr
          simp only [cP, List.cons_append, List.nil_append, List.length_cons]
          omega
      · simp only [capBig] at hlow ⊢
        have ha : ∀ o1 l1 c1 o2 l2 c2, all1 [.slice o1 l1 c1, .slice o2 l2 c2, .bool false, x, y, z] = true := fun o1 l1 c1 o2 l2 c2 => by
          show (bif one1 x then (bif one1 y then (bif one1 z then true else false) else false) else false) = true
          rw [h1, h2, h3]; rfl
        simp only [Alls, ha, List.length_append, List.length_cons, List.length_nil, splice, List.length_set, List.cons_append, List.nil_append]
        repeat' apply And.intro
        all_goals first | trivial | omega | skip
  · exact ⟨_, _, _, run_tri hX hT hL ins_out (by simp [Alls]) rfl, by omega, rfl, fun j hj => by cases hj⟩
/-- The second Insert of the chapter's examples. -/
def inT : TFun := fun f args h nx tp => bif Nat.beq f 49 then (match args with
  | [.slice (some ⟨11, 0, none⟩) 1 _, .int _ 0, .slice (some ⟨23, 0, none⟩) 1 1] => frc h fun h => some (.ok ((.slice (some ⟨27, 0, none⟩) 2 (capBig + 27), (27, ⟨.room 3 zP, cP 21 22 ++ cP 8 9⟩) :: delH h 11, 28, [11]), tp, [h = inH ⟨.room 3 zP, cP 8 9⟩ ∧ args = [.slice (some ⟨11, 0, none⟩) 1 (capBig + 11), .int .i64 0, .slice (some ⟨23, 0, none⟩) 1 1] ∧ nx = 24]))
  | _ => none) else none
theorem inT_one : TOneZ Try.prog inT := by
  intro f args h nx tp out tp' ob e ho
  unfold inT at e
  rcases bif_or e with ⟨hf, e1⟩ | ⟨_, e1⟩
  case inr => cases e1
  clear e
  obtain rfl := Nat.eq_of_beq_eq_true hf
  split at e1
  case h_2 => cases e1
  rw [frc_eq] at e1
  simp only [Option.some.injEq, Res.ok.injEq, Prod.mk.injEq] at e1
  obtain ⟨rfl, rfl, rfl⟩ := e1
  obtain ⟨⟨rfl, ha, rfl⟩, _⟩ := ho
  rw [ha]
  exact ins_in_tri
def awV : Tv := ⟨inT, mtX, noL, fun _ => [], noSy, fun _ => [], fun _ => 0⟩
theorem mt_aw  : prjV (runZ awV Try.prog 30 16 [] [] 0 []) =
  Res.ok (Value.bool true, [], [[(14, Rw.mk Kd.shut [Value.slice (some (Addr.mk 12 0 none)) 1 1, Value.slice (some (Addr.mk 13 0 none)) 1 1, Value.bool false]), (13, Rw.mk Kd.lent [Value.int IntKind.u8 (50 : Int)]), (12,
 Rw.mk Kd.lent [Value.int IntKind.u8 (97 : Int)]), (3, Rw.mk Kd.shut [Value.slice (some (Addr.mk 1 0 none)) 1 1, Value.slice (some (Addr.mk 2 0 none)) 1 1, Value.bool false]), (2, Rw.mk Kd.lent [Value.int IntKind.u8 (49 :
 Int)]), (1, Rw.mk Kd.lent [Value.int IntKind.u8 (98 : Int)]), (0, Rw.mk Kd.shut [Value.bool true, Value.slice (some (Addr.mk 11 0 none)) 1 (capBig + 11)]), (9, Rw.mk (Kd.room 1 [Value.int IntKind.u8 (0 : Int)]) [Value.int
 IntKind.u8 (49 : Int)]), (8, Rw.mk (Kd.room 1 [Value.int IntKind.u8 (0 : Int)]) [Value.int IntKind.u8 (98 : Int)]), (7, Rw.mk Kd.shut []), (5, Rw.mk Kd.shut [Value.slice (some (Addr.mk 1 0 none)) 1 1, Value.slice (some
 (Addr.mk 2 0 none)) 1 1, Value.bool false]), (6, Rw.mk Kd.shut [Value.slice (some (Addr.mk 8 0 none)) 1 (capBig + 8), Value.slice (some (Addr.mk 9 0 none)) 1 (capBig + 9), Value.bool false]), (10, Rw.mk Kd.shut
 [Value.slice (some (Addr.mk 8 0 none)) 1 (capBig + 8), Value.slice (some (Addr.mk 9 0 none)) 1 (capBig + 9), Value.bool false]), (11, Rw.mk (Kd.room 3 [Value.slice none 0 0, Value.slice none 0 0, Value.bool false])
 [Value.slice (some (Addr.mk 8 0 none)) 1 (capBig + 8), Value.slice (some (Addr.mk 9 0 none)) 1 (capBig + 9), Value.bool false]), (22, Rw.mk (Kd.room 1 [Value.int IntKind.u8 (0 : Int)]) [Value.int IntKind.u8 (50 : Int)]),
 (21, Rw.mk (Kd.room 1 [Value.int IntKind.u8 (0 : Int)]) [Value.int IntKind.u8 (97 : Int)]), (20, Rw.mk Kd.shut []), (18, Rw.mk Kd.shut [Value.slice (some (Addr.mk 12 0 none)) 1 1, Value.slice (some (Addr.mk 13 0 none)) 1
 1, Value.bool false]), (19, Rw.mk Kd.shut [Value.slice (some (Addr.mk 21 0 none)) 1 (capBig + 21), Value.slice (some (Addr.mk 22 0 none)) 1 (capBig + 22), Value.bool false]), (23, Rw.mk Kd.shut [Value.slice (some (Addr.mk
 21 0 none)) 1 (capBig + 21), Value.slice (some (Addr.mk 22 0 none)) 1 (capBig + 22), Value.bool false])] = inH (Rw.mk (Kd.room 3 [Value.slice none 0 0, Value.slice none 0 0, Value.bool false]) [Value.slice (some (Addr.mk
 8 0 none)) 1 (capBig + 8), Value.slice (some (Addr.mk 9 0 none)) 1 (capBig + 9), Value.bool false]) ∧ [Value.slice (some (Addr.mk 11 0 none)) 1 (capBig + 11), Value.int IntKind.i64 (0 : Int), Value.slice (some (Addr.mk 23
 0 none)) 1 1] = [Value.slice (some (Addr.mk 11 0 none)) 1 (capBig + 11), Value.int IntKind.i64 (0 : Int), Value.slice (some (Addr.mk 23 0 none)) 1 1] ∧ 24 = 24]) := by kernel_rfl
theorem inT_okV {V : Tv} (h : V.T = inT) : TOkZ V Try.prog := fun f args hp nx tp out tp' ob e ho => by rw [h] at e; exact inT_one f args hp nx tp out tp' ob e ho
theorem aw_gok : GOk Try.prog 16 [] gTrueY :=
  gTrueY_tri (run_val (inX rfl) (inT_okV rfl) (noL_okV rfl) mt_aw ⟨⟨rfl, rfl, rfl⟩, trivial⟩ rfl)
end Go.Proofs.Ytojakfnljopjbaa
