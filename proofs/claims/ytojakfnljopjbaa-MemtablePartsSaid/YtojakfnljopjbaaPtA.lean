/-
  Chapter 12: the statement MemtableParts: the rounds of its loop.
-/
import Derived.Test.YtojakfnljopjbaaTbS
import Derived.Test.YtojakfnljopjbaaInsD
import Derived.Test.YtojakfnljopjbaaMtK
namespace Go.Proofs.Ytojakfnljopjbaa
set_option linter.unusedSimpArgs false
set_option linter.unusedVariables false
set_option linter.unusedSectionVars false
open Go Go.RowKit
theorem kn_gok : GOk Try.prog 4 [] gTrueY :=
  gTrueY_tri (run_val (inX rfl) (T_okV rfl mkTT_one) (noL_okV rfl) mt_known ⟨⟨rfl, rfl, rfl⟩, trivial⟩ rfl)
/-- Insert into a list of pairs. -/
def insT9 : TFun := fun f args h nx tp => bif Nat.beq f 49 then (match args with
  | [.slice (some ⟨m, 0, none⟩) n c, .int .i64 i, .slice (some ⟨v, 0, none⟩) 1 1] => frc h fun h => match lk h m, lk h v with
    | some ⟨.dp 3 z ds, _⟩, some ⟨.shut, xs⟩ => frc xs fun xs => (match elD h xs with
      | some (es, ob) => some (.ok ((.slice (some ⟨nx, 0, none⟩) (n + 1) (capBig + nx), (nx, ⟨.dp 3 zPr (insD ds i.toNat es), []⟩) :: delH (delH h m) v, nx + 1, [m, v]), tp, (c = capBig + m ∧ z = zPr ∧ 0 ≤ i ∧ i ≤ (n : Int) ∧ n ≤ 1000 ∧ ds.length = n * 3 ∧ xs.length = 3 ∧ DVones ds ∧ DVones es) :: ob))
      | none => none)
    | _, _ => none
  | _ => none) else none
theorem insT9_one : TOneZ Try.prog insT9 := by
  intro f args h nx tp out tp' ob e ho
  unfold insT9 at e
  rcases bif_or e with ⟨hf, e1⟩ | ⟨_, e1⟩
  case inr => cases e1
  clear e
  obtain rfl := Nat.eq_of_beq_eq_true hf
  split at e1
  case h_2 => cases e1
  rename_i m n c i v
  rw [frc_eq] at e1
  split at e1
  case h_2 => cases e1
  rename_i z ds cs0 xs hlm hlv
  rw [frc_eq] at e1
  split at e1
  case h_2 => cases e1
  rename_i es ob1 hel
  simp only [Option.some.injEq, Res.ok.injEq, Prod.mk.injEq] at e1
  obtain ⟨rfl, rfl, rfl⟩ := e1
  obtain ⟨⟨rfl, rfl, g1, g2, g3, g4, g5, g6, g7⟩, g8⟩ := ho
  refine ⟨⟨by simp only; omega, fun j hj hd => ?_, fun hb j hj => ?_⟩, fun hB W σ w args' hR hfr ha => ?_⟩
  · simp only at hj hd ⊢
    rw [lk_cons, if_neg (by omega), lk_delH, if_neg (fun e => hd (by simp [e])), lk_delH, if_neg (fun e => hd (by simp [e]))]
  · simp only at hj ⊢
    rw [lk_cons, if_neg (by omega), lk_delH]
    split
    · rfl
    · rw [lk_delH]
      split
      · rfl
      · exact hb j (by omega)
  · have hcs0 : cs0 = [] := by
      obtain ⟨b, s, vs, hb, hv, hk⟩ := hR.row m _ hlm
      obtain ⟨_, _, rfl, _⟩ := hk
      have := renL_len hv
      exact List.eq_nil_of_length_eq_zero this.symm
    subst hcs0
    refine (insD_step hR hfr hlm hlv hel g8 g1 g2 g3 g4 g5 g6 g7 ha).mono ?_
    rintro e w' ⟨σ', v', S, hv, rfl⟩
    exact ⟨σ', v', S, hv, rfl⟩
def ptTab : FuncId → List Nat := fun f => bif Nat.beq f 5 then [57] else bif Nat.beq f 11 then [6, 11, 17, 21, 26] else bif Nat.beq f 38 then [50] else []
def ptSy : FuncId → Nat → Option Nat := orSy (lsSy 5 [(63, 0), (65, 32), (68, 0), (70, 32), (59, 0)]) (orSy (lsSy 38 [(43, 0), (100043, 1004)]) (orSy (lsSy 49 [(25, 44)]) (orSy (lsSy 37 [(8, 43)]) (lsSy 48 [(4, 0), (7, 43)]))))
def ptV (L : LFun) (T : TFun) : Tv := ⟨T, cmpY, L, ptTab, ptSy, fun _ => [], fun _ => 0⟩
def ptT0 : TFun := orTz bsT insT9
def ptS (n c c1 m1 c2 m2 c3 m3 i : Nat) : List (Nat × Value) := [(0, .slice (some ⟨0, 0, none⟩) n c), (1, .slice (some ⟨1, 0, none⟩) m1 c1), (2, .slice (some ⟨2, 0, none⟩) m2 c2), (3, .slice (some ⟨3, 0, none⟩) m3 c3), (9, .bool true), (10, .pointer (some ⟨4, 0, none⟩)), (11, iV i)]
def ptN (ds : List DV) (k1 k2 k3 : List Value) : Hp := [(4, ⟨.shut, [.bool true, .slice none 0 0]⟩), (0, ⟨.sd ds, []⟩), (1, ⟨.old, k1⟩), (2, ⟨.old, k2⟩), (3, ⟨.old, k3⟩)]
def ptW (k : Nat) (es ds : List DV) (k1 k2 k3 : List Value) : Hp := [(80, ⟨.dp 3 zPr es, []⟩), (4, ⟨.shut, [.bool true, .slice (some ⟨80, 0, none⟩) k (capBig + 80)]⟩), (0, ⟨.sd ds, []⟩), (1, ⟨.old, k1⟩), (2, ⟨.old, k2⟩), (3, ⟨.old, k3⟩)]
theorem pt_rk0 (inr : Bool) (n c c1 m1 c2 m2 c3 m3 i : Nat) (k : Nat) (es : List DV) (ds : List DV) (k1 k2 k3 : List Value) : prjP [0, 1, 2, 3, 9, 10, 11] 100 (codeZ (ptV noL ptT0) Try.prog (runZ (ptV noL ptT0) Try.prog 12) 5 inr 100000 (bodyIn Try.prog 5 6) (SL 101 (ptS n c c1 m1 c2 m2 c3 m3 i)) (ptW k es ds k1 k2 k3) 100 [true, true]) =
  Res.ok ((Xt.normal, 101, [(0, Value.slice (some (Addr.mk 0 0 none)) n c), (1, Value.slice (some (Addr.mk 1 0 none)) m1 c1), (2, Value.slice (some (Addr.mk 2 0 none)) m2 c2), (3, Value.slice (some (Addr.mk 3 0 none)) m3
 c3), (9, Value.bool true), (10, Value.pointer (some (Addr.mk 4 0 none))), (11, Value.int IntKind.i64 (↑(i + 1) : Int))], [(80, Rw.mk (Kd.dp 3 [Value.slice none 0 0, Value.slice none 0 0, Value.bool false] es) []), (4,
 Rw.mk Kd.shut [Value.bool true, Value.slice (some (Addr.mk 80 0 none)) k (capBig + 80)]), (0, Rw.mk (Kd.sd ds) []), (1, Rw.mk Kd.old k1), (2, Rw.mk Kd.old k2), (3, Rw.mk Kd.old k3)], 104, [], []), [], [decide ((↑i : Int)
 < (↑n : Int)) = true, (0 : Int) ≤ (↑i : Int) ∧ (↑i : Int) < (↑n : Int), ShOb Try.prog 27 false true ds (i * 3 + 0) 100, (0 : Int) ≤ (↑i : Int) ∧ (↑i : Int) < (↑n : Int), ShOb Try.prog 27 false true ds (i * 3 + 1) 101,
 decide ((↑(dLen ds (i * 3 + 0 + 0)) : Int) < (1 : Int)) = true, rg IntKind.i64 (↑(i + 1) : Int)]) := by kernel_rfl
theorem pt_rk32 (inr : Bool) (n c c1 m1 c2 m2 c3 m3 i : Nat) (k : Nat) (es : List DV) (ds : List DV) (k1 k2 k3 : List Value) : prjP [0, 1, 2, 3, 9, 10, 11] 100 (codeZ (ptV noL ptT0) Try.prog (runZ (ptV noL ptT0) Try.prog 12) 5 inr 100000 (bodyIn Try.prog 5 6) (SL 101 (ptS n c c1 m1 c2 m2 c3 m3 i)) (ptW k es ds k1 k2 k3) 100 [true, false, true]) =
  Res.ok ((Xt.normal, 101, [(0, Value.slice (some (Addr.mk 0 0 none)) n c), (1, Value.slice (some (Addr.mk 1 0 none)) m1 c1), (2, Value.slice (some (Addr.mk 2 0 none)) m2 c2), (3, Value.slice (some (Addr.mk 3 0 none)) m3
 c3), (9, Value.bool true), (10, Value.pointer (some (Addr.mk 4 0 none))), (11, Value.int IntKind.i64 (↑(i + 1) : Int))], [(80, Rw.mk (Kd.dp 3 [Value.slice none 0 0, Value.slice none 0 0, Value.bool false] es) []), (4,
 Rw.mk Kd.shut [Value.bool true, Value.slice (some (Addr.mk 80 0 none)) k (capBig + 80)]), (0, Rw.mk (Kd.sd ds) []), (1, Rw.mk Kd.old k1), (2, Rw.mk Kd.old k2), (3, Rw.mk Kd.old k3)], 104, [], []), [], [decide ((↑i : Int)
 < (↑n : Int)) = true, (0 : Int) ≤ (↑i : Int) ∧ (↑i : Int) < (↑n : Int), ShOb Try.prog 27 false true ds (i * 3 + 0) 100, (0 : Int) ≤ (↑i : Int) ∧ (↑i : Int) < (↑n : Int), ShOb Try.prog 27 false true ds (i * 3 + 1) 101,
 decide ((↑(dLen ds (i * 3 + 0 + 0)) : Int) < (1 : Int)) = false, decide ((↑(dLen ds (i * 3 + 0 + 0)) : Int) > (32 : Int)) = true, rg IntKind.i64 (↑(i + 1) : Int)]) := by kernel_rfl
theorem pt_rv (inr : Bool) (n c c1 m1 c2 m2 c3 m3 i : Nat) (k : Nat) (es : List DV) (ds : List DV) (k1 k2 k3 : List Value) : prjP [0, 1, 2, 3, 9, 10, 11] 100 (codeZ (ptV noL ptT0) Try.prog (runZ (ptV noL ptT0) Try.prog 12) 5 inr 100000 (bodyIn Try.prog 5 6) (SL 101 (ptS n c c1 m1 c2 m2 c3 m3 i)) (ptW k es ds k1 k2 k3) 100 [true, false, false, true]) =
  Res.ok ((Xt.normal, 101, [(0, Value.slice (some (Addr.mk 0 0 none)) n c), (1, Value.slice (some (Addr.mk 1 0 none)) m1 c1), (2, Value.slice (some (Addr.mk 2 0 none)) m2 c2), (3, Value.slice (some (Addr.mk 3 0 none)) m3
 c3), (9, Value.bool true), (10, Value.pointer (some (Addr.mk 4 0 none))), (11, Value.int IntKind.i64 (↑(i + 1) : Int))], [(80, Rw.mk (Kd.dp 3 [Value.slice none 0 0, Value.slice none 0 0, Value.bool false] es) []), (4,
 Rw.mk Kd.shut [Value.bool true, Value.slice (some (Addr.mk 80 0 none)) k (capBig + 80)]), (0, Rw.mk (Kd.sd ds) []), (1, Rw.mk Kd.old k1), (2, Rw.mk Kd.old k2), (3, Rw.mk Kd.old k3)], 104, [], []), [], [decide ((↑i : Int)
 < (↑n : Int)) = true, (0 : Int) ≤ (↑i : Int) ∧ (↑i : Int) < (↑n : Int), ShOb Try.prog 27 false true ds (i * 3 + 0) 100, (0 : Int) ≤ (↑i : Int) ∧ (↑i : Int) < (↑n : Int), ShOb Try.prog 27 false true ds (i * 3 + 1) 101,
 decide ((↑(dLen ds (i * 3 + 0 + 0)) : Int) < (1 : Int)) = false, decide ((↑(dLen ds (i * 3 + 0 + 0)) : Int) > (32 : Int)) = false, decide ((↑(dLen ds (i * 3 + 1 + 0)) : Int) > (128 : Int)) = true, rg IntKind.i64 (↑(i + 1)
 : Int)]) := by kernel_rfl
theorem pt_rup (inr : Bool) (n c c1 m1 c2 m2 c3 m3 i : Nat) (k : Nat) (es : List DV) (ds : List DV) (k1 k2 k3 : List Value) : prjP [0, 1, 2, 3, 9, 10, 11] 100 (codeZ (ptV noL ptT0) Try.prog (runZ (ptV noL ptT0) Try.prog 12) 5 inr 100000 (bodyIn Try.prog 5 6) (SL 101 (ptS n c c1 m1 c2 m2 c3 m3 i)) (ptW k es ds k1 k2 k3) 100 [true, false, false, false, false, true]) =
  Res.ok ((Xt.normal, 101, [(0, Value.slice (some (Addr.mk 0 0 none)) n c), (1, Value.slice (some (Addr.mk 1 0 none)) m1 c1), (2, Value.slice (some (Addr.mk 2 0 none)) m2 c2), (3, Value.slice (some (Addr.mk 3 0 none)) m3
 c3), (9, Value.bool true), (10, Value.pointer (some (Addr.mk 4 0 none))), (11, Value.int IntKind.i64 (↑(i + 1) : Int))], [(4, Rw.mk Kd.shut [Value.bool true, Value.slice (some (Addr.mk 111 0 none)) k (capBig + 111)]), (0,
 Rw.mk (Kd.sd ds) []), (1, Rw.mk Kd.old k1), (2, Rw.mk Kd.old k2), (3, Rw.mk Kd.old k3), (111, Rw.mk (Kd.dp 3 [Value.slice none 0 0, Value.slice none 0 0, Value.bool false] (setD es (lbP (prsOf es) (intsOf (dVals ds (i * 3
 + 0 + 0))) * 3) [DV.sl (dLen ds (i * 3 + 0 + 0)) none (List.map DV.fl (List.take (dLen ds (i * 3 + 0 + 0)) (dVals ds (i * 3 + 0 + 0)))), DV.sl (dLen ds (i * 3 + 1 + 0)) none (List.map DV.fl (List.take (dLen ds (i * 3 + 1
 + 0)) (dVals ds (i * 3 + 1 + 0)))), DV.fl (Value.bool false)])) [])], 112, [80, 4], []), [], [decide ((↑i : Int) < (↑n : Int)) = true, (0 : Int) ≤ (↑i : Int) ∧ (↑i : Int) < (↑n : Int), ShOb Try.prog 27 false true ds (i *
 3 + 0) 100, (0 : Int) ≤ (↑i : Int) ∧ (↑i : Int) < (↑n : Int), ShOb Try.prog 27 false true ds (i * 3 + 1) 101, decide ((↑(dLen ds (i * 3 + 0 + 0)) : Int) < (1 : Int)) = false, decide ((↑(dLen ds (i * 3 + 0 + 0)) : Int) >
 (32 : Int)) = false, decide ((↑(dLen ds (i * 3 + 1 + 0)) : Int) > (128 : Int)) = false, false = false, k = 0 → es = [], (∀ (τ : Sg), renL τ (dVals ds (i * 3 + 0 + 0)) = some (dVals ds (i * 3 + 0 + 0))) ∧ (dLen ds (ixO 0
 (Int.toNat (↑i : Int)) 3 + 0 + 0) = 0 → dVals ds (i * 3 + 0 + 0) = []), BsOk es (dVals ds (i * 3 + 0 + 0)) k (dLen ds (i * 3 + 0 + 0)) ∧ hitP (prsOf es) (intsOf (dVals ds (i * 3 + 0 + 0))) = true ∧ Value.func (Fn.func 47)
 (Array.mk []) (Array.mk []) = Value.func (Fn.func 47) #[] #[], 0 < dLen ds (i * 3 + 0 + 0), dLen ds (i * 3 + 0 + 0) * 1 ≤ 140737488355328 ∧ dLen ds (i * 3 + 0 + 0) ≤ 9223372036854775807, List.length (List.take (dLen ds (i
 * 3 + 0 + 0)) (dVals ds (i * 3 + 0 + 0))) = dLen ds (i * 3 + 0 + 0) * 1, ∀ (τ : Sg), renL τ (List.take (dLen ds (i * 3 + 0 + 0)) (dVals ds (i * 3 + 0 + 0))) = some (List.take (dLen ds (i * 3 + 0 + 0)) (dVals ds (i * 3 + 0
 + 0))), dLen ds (i * 3 + 0 + 0) ≤ List.length (dVals ds (i * 3 + 0 + 0)), all1 (List.take (dLen ds (i * 3 + 0 + 0)) (dVals ds (i * 3 + 0 + 0))) = true, dLen ds (i * 3 + 1 + 0) * 1 ≤ 140737488355328 ∧ dLen ds (i * 3 + 1 +
 0) ≤ 9223372036854775807, List.length (List.take (dLen ds (i * 3 + 1 + 0)) (dVals ds (i * 3 + 1 + 0))) = dLen ds (i * 3 + 1 + 0) * 1, ∀ (τ : Sg), renL τ (List.take (dLen ds (i * 3 + 1 + 0)) (dVals ds (i * 3 + 1 + 0))) =
 some (List.take (dLen ds (i * 3 + 1 + 0)) (dVals ds (i * 3 + 1 + 0))), dLen ds (i * 3 + 1 + 0) ≤ List.length (dVals ds (i * 3 + 1 + 0)), all1 (List.take (dLen ds (i * 3 + 1 + 0)) (dVals ds (i * 3 + 1 + 0))) = true, (0 :
 Int) ≤ (↑(lbP (prsOf es) (intsOf (dVals ds (i * 3 + 0 + 0)))) : Int) ∧ (↑(lbP (prsOf es) (intsOf (dVals ds (i * 3 + 0 + 0)))) : Int) < (↑k : Int), lbP (prsOf es) (intsOf (dVals ds (i * 3 + 0 + 0))) * 3 + 3 ≤ List.length
 es, (∀ (τ : Sg), renL τ (List.take (dLen ds (i * 3 + 0 + 0)) (dVals ds (i * 3 + 0 + 0))) = some (List.take (dLen ds (i * 3 + 0 + 0)) (dVals ds (i * 3 + 0 + 0)))) ∧ (dLen ds (ixO 0 (Int.toNat (↑i : Int)) 3 + 0 + 0) = 0 →
 List.take (dLen ds (i * 3 + 0 + 0)) (dVals ds (i * 3 + 0 + 0)) = []), (∀ (τ : Sg), renL τ (List.take (dLen ds (i * 3 + 1 + 0)) (dVals ds (i * 3 + 1 + 0))) = some (List.take (dLen ds (i * 3 + 1 + 0)) (dVals ds (i * 3 + 1 +
 0)))) ∧ (dLen ds (ixO 0 (Int.toNat (↑i : Int)) 3 + 1 + 0) = 0 → List.take (dLen ds (i * 3 + 1 + 0)) (dVals ds (i * 3 + 1 + 0)) = []), rg IntKind.i64 (↑(i + 1) : Int)]) := by kernel_rfl
theorem pt_rfull (inr : Bool) (n c c1 m1 c2 m2 c3 m3 i : Nat) (k : Nat) (es : List DV) (ds : List DV) (k1 k2 k3 : List Value) : prjP [0, 1, 2, 3, 9, 10, 11] 100 (codeZ (ptV noL ptT0) Try.prog (runZ (ptV noL ptT0) Try.prog 12) 5 inr 100000 (bodyIn Try.prog 5 6) (SL 101 (ptS n c c1 m1 c2 m2 c3 m3 i)) (ptW k es ds k1 k2 k3) 100 [true, false, false, false, false, false, true]) =
  Res.ok ((Xt.normal, 101, [(0, Value.slice (some (Addr.mk 0 0 none)) n c), (1, Value.slice (some (Addr.mk 1 0 none)) m1 c1), (2, Value.slice (some (Addr.mk 2 0 none)) m2 c2), (3, Value.slice (some (Addr.mk 3 0 none)) m3
 c3), (9, Value.bool true), (10, Value.pointer (some (Addr.mk 4 0 none))), (11, Value.int IntKind.i64 (↑(i + 1) : Int))], [(80, Rw.mk (Kd.dp 3 [Value.slice none 0 0, Value.slice none 0 0, Value.bool false] es) []), (4,
 Rw.mk Kd.shut [Value.bool true, Value.slice (some (Addr.mk 80 0 none)) k (capBig + 80)]), (0, Rw.mk (Kd.sd ds) []), (1, Rw.mk Kd.old k1), (2, Rw.mk Kd.old k2), (3, Rw.mk Kd.old k3)], 104, [], []), [], [decide ((↑i : Int)
 < (↑n : Int)) = true, (0 : Int) ≤ (↑i : Int) ∧ (↑i : Int) < (↑n : Int), ShOb Try.prog 27 false true ds (i * 3 + 0) 100, (0 : Int) ≤ (↑i : Int) ∧ (↑i : Int) < (↑n : Int), ShOb Try.prog 27 false true ds (i * 3 + 1) 101,
 decide ((↑(dLen ds (i * 3 + 0 + 0)) : Int) < (1 : Int)) = false, decide ((↑(dLen ds (i * 3 + 0 + 0)) : Int) > (32 : Int)) = false, decide ((↑(dLen ds (i * 3 + 1 + 0)) : Int) > (128 : Int)) = false, false = false, k = 0 →
 es = [], (∀ (τ : Sg), renL τ (dVals ds (i * 3 + 0 + 0)) = some (dVals ds (i * 3 + 0 + 0))) ∧ (dLen ds (ixO 0 (Int.toNat (↑i : Int)) 3 + 0 + 0) = 0 → dVals ds (i * 3 + 0 + 0) = []), BsOk es (dVals ds (i * 3 + 0 + 0)) k
 (dLen ds (i * 3 + 0 + 0)) ∧ hitP (prsOf es) (intsOf (dVals ds (i * 3 + 0 + 0))) = false ∧ Value.func (Fn.func 47) (Array.mk []) (Array.mk []) = Value.func (Fn.func 47) #[] #[], decide ((↑k : Int) ≥ (64 : Int)) = true, rg
 IntKind.i64 (↑(i + 1) : Int)]) := by kernel_rfl
theorem pt_rins (inr : Bool) (n c c1 m1 c2 m2 c3 m3 i : Nat) (k : Nat) (es : List DV) (ds : List DV) (k1 k2 k3 : List Value) : prjP [0, 1, 2, 3, 9, 10, 11] 100 (codeZ (ptV noL ptT0) Try.prog (runZ (ptV noL ptT0) Try.prog 12) 5 inr 100000 (bodyIn Try.prog 5 6) (SL 101 (ptS n c c1 m1 c2 m2 c3 m3 i)) (ptW k es ds k1 k2 k3) 100 [true, false, false, false, false, false, false]) =
  Res.ok ((Xt.normal, 101, [(0, Value.slice (some (Addr.mk 0 0 none)) n c), (1, Value.slice (some (Addr.mk 1 0 none)) m1 c1), (2, Value.slice (some (Addr.mk 2 0 none)) m2 c2), (3, Value.slice (some (Addr.mk 3 0 none)) m3
 c3), (9, Value.bool true), (10, Value.pointer (some (Addr.mk 4 0 none))), (11, Value.int IntKind.i64 (↑(i + 1) : Int))], [(4, Rw.mk Kd.shut [Value.bool true, Value.slice (some (Addr.mk 112 0 none)) (k + 1) (capBig +
 112)]), (0, Rw.mk (Kd.sd ds) []), (1, Rw.mk Kd.old k1), (2, Rw.mk Kd.old k2), (3, Rw.mk Kd.old k3), (112, Rw.mk (Kd.dp 3 [Value.slice none 0 0, Value.slice none 0 0, Value.bool false] (insD es (lbP (prsOf es) (intsOf
 (dVals ds (i * 3 + 0 + 0)))) [DV.sl (dLen ds (i * 3 + 0 + 0)) none (List.map DV.fl (List.take (dLen ds (i * 3 + 0 + 0)) (dVals ds (i * 3 + 0 + 0)))), DV.sl (dLen ds (i * 3 + 1 + 0)) none (List.map DV.fl (List.take (dLen
 ds (i * 3 + 1 + 0)) (dVals ds (i * 3 + 1 + 0)))), DV.fl (Value.bool false)])) [])], 113, [80, 4], []), [], [decide ((↑i : Int) < (↑n : Int)) = true, (0 : Int) ≤ (↑i : Int) ∧ (↑i : Int) < (↑n : Int), ShOb Try.prog 27 false
 true ds (i * 3 + 0) 100, (0 : Int) ≤ (↑i : Int) ∧ (↑i : Int) < (↑n : Int), ShOb Try.prog 27 false true ds (i * 3 + 1) 101, decide ((↑(dLen ds (i * 3 + 0 + 0)) : Int) < (1 : Int)) = false, decide ((↑(dLen ds (i * 3 + 0 +
 0)) : Int) > (32 : Int)) = false, decide ((↑(dLen ds (i * 3 + 1 + 0)) : Int) > (128 : Int)) = false, false = false, k = 0 → es = [], (∀ (τ : Sg), renL τ (dVals ds (i * 3 + 0 + 0)) = some (dVals ds (i * 3 + 0 + 0))) ∧
 (dLen ds (ixO 0 (Int.toNat (↑i : Int)) 3 + 0 + 0) = 0 → dVals ds (i * 3 + 0 + 0) = []), BsOk es (dVals ds (i * 3 + 0 + 0)) k (dLen ds (i * 3 + 0 + 0)) ∧ hitP (prsOf es) (intsOf (dVals ds (i * 3 + 0 + 0))) = false ∧
 Value.func (Fn.func 47) (Array.mk []) (Array.mk []) = Value.func (Fn.func 47) #[] #[], decide ((↑k : Int) ≥ (64 : Int)) = false, 0 < dLen ds (i * 3 + 0 + 0), dLen ds (i * 3 + 0 + 0) * 1 ≤ 140737488355328 ∧ dLen ds (i * 3
 + 0 + 0) ≤ 9223372036854775807, List.length (List.take (dLen ds (i * 3 + 0 + 0)) (dVals ds (i * 3 + 0 + 0))) = dLen ds (i * 3 + 0 + 0) * 1, ∀ (τ : Sg), renL τ (List.take (dLen ds (i * 3 + 0 + 0)) (dVals ds (i * 3 + 0 +
 0))) = some (List.take (dLen ds (i * 3 + 0 + 0)) (dVals ds (i * 3 + 0 + 0))), dLen ds (i * 3 + 0 + 0) ≤ List.length (dVals ds (i * 3 + 0 + 0)), all1 (List.take (dLen ds (i * 3 + 0 + 0)) (dVals ds (i * 3 + 0 + 0))) = true,
 dLen ds (i * 3 + 1 + 0) * 1 ≤ 140737488355328 ∧ dLen ds (i * 3 + 1 + 0) ≤ 9223372036854775807, List.length (List.take (dLen ds (i * 3 + 1 + 0)) (dVals ds (i * 3 + 1 + 0))) = dLen ds (i * 3 + 1 + 0) * 1, ∀ (τ : Sg), renL τ
 (List.take (dLen ds (i * 3 + 1 + 0)) (dVals ds (i * 3 + 1 + 0))) = some (List.take (dLen ds (i * 3 + 1 + 0)) (dVals ds (i * 3 + 1 + 0))), dLen ds (i * 3 + 1 + 0) ≤ List.length (dVals ds (i * 3 + 1 + 0)), all1 (List.take
 (dLen ds (i * 3 + 1 + 0)) (dVals ds (i * 3 + 1 + 0))) = true, capBig + 80 = capBig + 80 ∧ [Value.slice none 0 0, Value.slice none 0 0, Value.bool false] = [Value.slice none 0 0, Value.slice none 0 0, Value.bool false] ∧
 (0 : Int) ≤ (↑(lbP (prsOf es) (intsOf (dVals ds (i * 3 + 0 + 0)))) : Int) ∧ (↑(lbP (prsOf es) (intsOf (dVals ds (i * 3 + 0 + 0)))) : Int) ≤ (↑k : Int) ∧ k ≤ 1000 ∧ List.length es = k * 3 ∧ 3 = 3 ∧ DVones es ∧ DVones
 [DV.sl (dLen ds (i * 3 + 0 + 0)) none (List.map DV.fl (List.take (dLen ds (i * 3 + 0 + 0)) (dVals ds (i * 3 + 0 + 0)))), DV.sl (dLen ds (i * 3 + 1 + 0)) none (List.map DV.fl (List.take (dLen ds (i * 3 + 1 + 0)) (dVals ds
 (i * 3 + 1 + 0)))), DV.fl (Value.bool false)], (∀ (τ : Sg), renL τ (List.take (dLen ds (i * 3 + 0 + 0)) (dVals ds (i * 3 + 0 + 0))) = some (List.take (dLen ds (i * 3 + 0 + 0)) (dVals ds (i * 3 + 0 + 0)))) ∧ (dLen ds (ixO
 0 (Int.toNat (↑i : Int)) 3 + 0 + 0) = 0 → List.take (dLen ds (i * 3 + 0 + 0)) (dVals ds (i * 3 + 0 + 0)) = []), (∀ (τ : Sg), renL τ (List.take (dLen ds (i * 3 + 1 + 0)) (dVals ds (i * 3 + 1 + 0))) = some (List.take (dLen
 ds (i * 3 + 1 + 0)) (dVals ds (i * 3 + 1 + 0)))) ∧ (dLen ds (ixO 0 (Int.toNat (↑i : Int)) 3 + 1 + 0) = 0 → List.take (dLen ds (i * 3 + 1 + 0)) (dVals ds (i * 3 + 1 + 0)) = []), rg IntKind.i64 (↑(i + 1) : Int)]) := by kernel_rfl
theorem pt_rend (inr : Bool) (n c c1 m1 c2 m2 c3 m3 i : Nat) (k : Nat) (es : List DV) (ds : List DV) (k1 k2 k3 : List Value) : prjP [1, 2, 3, 9, 10] 100 (codeZ (ptV noL ptT0) Try.prog (runZ (ptV noL ptT0) Try.prog 12) 5 inr 100000 (bodyIn Try.prog 5 6) (SL 101 (ptS n c c1 m1 c2 m2 c3 m3 i)) (ptW k es ds k1 k2 k3) 100 [false]) =
  Res.ok ((Xt.exit 0, 101, [(1, Value.slice (some (Addr.mk 1 0 none)) m1 c1), (2, Value.slice (some (Addr.mk 2 0 none)) m2 c2), (3, Value.slice (some (Addr.mk 3 0 none)) m3 c3), (9, Value.bool true), (10, Value.pointer
 (some (Addr.mk 4 0 none)))], [(80, Rw.mk (Kd.dp 3 [Value.slice none 0 0, Value.slice none 0 0, Value.bool false] es) []), (4, Rw.mk Kd.shut [Value.bool true, Value.slice (some (Addr.mk 80 0 none)) k (capBig + 80)]), (0,
 Rw.mk (Kd.sd ds) []), (1, Rw.mk Kd.old k1), (2, Rw.mk Kd.old k2), (3, Rw.mk Kd.old k3)], 100, [], []), [], [decide ((↑i : Int) < (↑n : Int)) = false]) := by kernel_rfl
theorem pt_nk0 (inr : Bool) (n c c1 m1 c2 m2 c3 m3 i : Nat) (ds : List DV) (k1 k2 k3 : List Value) : prjP [0, 1, 2, 3, 9, 10, 11] 100 (codeZ (ptV noL ptT0) Try.prog (runZ (ptV noL ptT0) Try.prog 12) 5 inr 100000 (bodyIn Try.prog 5 6) (SL 101 (ptS n c c1 m1 c2 m2 c3 m3 i)) (ptN ds k1 k2 k3) 100 [true, true]) =
  Res.ok ((Xt.normal, 101, [(0, Value.slice (some (Addr.mk 0 0 none)) n c), (1, Value.slice (some (Addr.mk 1 0 none)) m1 c1), (2, Value.slice (some (Addr.mk 2 0 none)) m2 c2), (3, Value.slice (some (Addr.mk 3 0 none)) m3
 c3), (9, Value.bool true), (10, Value.pointer (some (Addr.mk 4 0 none))), (11, Value.int IntKind.i64 (↑(i + 1) : Int))], [(4, Rw.mk Kd.shut [Value.bool true, Value.slice none 0 0]), (0, Rw.mk (Kd.sd ds) []), (1, Rw.mk
 Kd.old k1), (2, Rw.mk Kd.old k2), (3, Rw.mk Kd.old k3)], 104, [], []), [], [decide ((↑i : Int) < (↑n : Int)) = true, (0 : Int) ≤ (↑i : Int) ∧ (↑i : Int) < (↑n : Int), ShOb Try.prog 27 false true ds (i * 3 + 0) 100, (0 :
 Int) ≤ (↑i : Int) ∧ (↑i : Int) < (↑n : Int), ShOb Try.prog 27 false true ds (i * 3 + 1) 101, decide ((↑(dLen ds (i * 3 + 0 + 0)) : Int) < (1 : Int)) = true, rg IntKind.i64 (↑(i + 1) : Int)]) := by kernel_rfl
theorem pt_nk32 (inr : Bool) (n c c1 m1 c2 m2 c3 m3 i : Nat) (ds : List DV) (k1 k2 k3 : List Value) : prjP [0, 1, 2, 3, 9, 10, 11] 100 (codeZ (ptV noL ptT0) Try.prog (runZ (ptV noL ptT0) Try.prog 12) 5 inr 100000 (bodyIn Try.prog 5 6) (SL 101 (ptS n c c1 m1 c2 m2 c3 m3 i)) (ptN ds k1 k2 k3) 100 [true, false, true]) =
  Res.ok ((Xt.normal, 101, [(0, Value.slice (some (Addr.mk 0 0 none)) n c), (1, Value.slice (some (Addr.mk 1 0 none)) m1 c1), (2, Value.slice (some (Addr.mk 2 0 none)) m2 c2), (3, Value.slice (some (Addr.mk 3 0 none)) m3
 c3), (9, Value.bool true), (10, Value.pointer (some (Addr.mk 4 0 none))), (11, Value.int IntKind.i64 (↑(i + 1) : Int))], [(4, Rw.mk Kd.shut [Value.bool true, Value.slice none 0 0]), (0, Rw.mk (Kd.sd ds) []), (1, Rw.mk
 Kd.old k1), (2, Rw.mk Kd.old k2), (3, Rw.mk Kd.old k3)], 104, [], []), [], [decide ((↑i : Int) < (↑n : Int)) = true, (0 : Int) ≤ (↑i : Int) ∧ (↑i : Int) < (↑n : Int), ShOb Try.prog 27 false true ds (i * 3 + 0) 100, (0 :
 Int) ≤ (↑i : Int) ∧ (↑i : Int) < (↑n : Int), ShOb Try.prog 27 false true ds (i * 3 + 1) 101, decide ((↑(dLen ds (i * 3 + 0 + 0)) : Int) < (1 : Int)) = false, decide ((↑(dLen ds (i * 3 + 0 + 0)) : Int) > (32 : Int)) =
 true, rg IntKind.i64 (↑(i + 1) : Int)]) := by kernel_rfl
theorem pt_nv (inr : Bool) (n c c1 m1 c2 m2 c3 m3 i : Nat) (ds : List DV) (k1 k2 k3 : List Value) : prjP [0, 1, 2, 3, 9, 10, 11] 100 (codeZ (ptV noL ptT0) Try.prog (runZ (ptV noL ptT0) Try.prog 12) 5 inr 100000 (bodyIn Try.prog 5 6) (SL 101 (ptS n c c1 m1 c2 m2 c3 m3 i)) (ptN ds k1 k2 k3) 100 [true, false, false, true]) =
  Res.ok ((Xt.normal, 101, [(0, Value.slice (some (Addr.mk 0 0 none)) n c), (1, Value.slice (some (Addr.mk 1 0 none)) m1 c1), (2, Value.slice (some (Addr.mk 2 0 none)) m2 c2), (3, Value.slice (some (Addr.mk 3 0 none)) m3
 c3), (9, Value.bool true), (10, Value.pointer (some (Addr.mk 4 0 none))), (11, Value.int IntKind.i64 (↑(i + 1) : Int))], [(4, Rw.mk Kd.shut [Value.bool true, Value.slice none 0 0]), (0, Rw.mk (Kd.sd ds) []), (1, Rw.mk
 Kd.old k1), (2, Rw.mk Kd.old k2), (3, Rw.mk Kd.old k3)], 104, [], []), [], [decide ((↑i : Int) < (↑n : Int)) = true, (0 : Int) ≤ (↑i : Int) ∧ (↑i : Int) < (↑n : Int), ShOb Try.prog 27 false true ds (i * 3 + 0) 100, (0 :
 Int) ≤ (↑i : Int) ∧ (↑i : Int) < (↑n : Int), ShOb Try.prog 27 false true ds (i * 3 + 1) 101, decide ((↑(dLen ds (i * 3 + 0 + 0)) : Int) < (1 : Int)) = false, decide ((↑(dLen ds (i * 3 + 0 + 0)) : Int) > (32 : Int)) =
 false, decide ((↑(dLen ds (i * 3 + 1 + 0)) : Int) > (128 : Int)) = true, rg IntKind.i64 (↑(i + 1) : Int)]) := by kernel_rfl
theorem pt_nins (inr : Bool) (n c c1 m1 c2 m2 c3 m3 i : Nat) (ds : List DV) (k1 k2 k3 : List Value) : prjP [0, 1, 2, 3, 9, 10, 11] 100 (codeZ (ptV noL ptT0) Try.prog (runZ (ptV noL ptT0) Try.prog 12) 5 inr 100000 (bodyIn Try.prog 5 6) (SL 101 (ptS n c c1 m1 c2 m2 c3 m3 i)) (ptN ds k1 k2 k3) 100 [true, false, false, false, false, false, false]) =
  Res.ok ((Xt.normal, 101, [(0, Value.slice (some (Addr.mk 0 0 none)) n c), (1, Value.slice (some (Addr.mk 1 0 none)) m1 c1), (2, Value.slice (some (Addr.mk 2 0 none)) m2 c2), (3, Value.slice (some (Addr.mk 3 0 none)) m3
 c3), (9, Value.bool true), (10, Value.pointer (some (Addr.mk 4 0 none))), (11, Value.int IntKind.i64 (↑(i + 1) : Int))], [(4, Rw.mk Kd.shut [Value.bool true, Value.slice (some (Addr.mk 113 0 none)) 1 (capBig + 113)]), (0,
 Rw.mk (Kd.sd ds) []), (1, Rw.mk Kd.old k1), (2, Rw.mk Kd.old k2), (3, Rw.mk Kd.old k3), (113, Rw.mk (Kd.dp 3 [Value.slice none 0 0, Value.slice none 0 0, Value.bool false] [DV.sl (dLen ds (i * 3 + 0 + 0)) none (List.map
 DV.fl (List.take (dLen ds (i * 3 + 0 + 0)) (dVals ds (i * 3 + 0 + 0)))), DV.sl (dLen ds (i * 3 + 1 + 0)) none (List.map DV.fl (List.take (dLen ds (i * 3 + 1 + 0)) (dVals ds (i * 3 + 1 + 0)))), DV.fl (Value.bool false)])
 [])], 114, [4], []), [], [decide ((↑i : Int) < (↑n : Int)) = true, (0 : Int) ≤ (↑i : Int) ∧ (↑i : Int) < (↑n : Int), ShOb Try.prog 27 false true ds (i * 3 + 0) 100, (0 : Int) ≤ (↑i : Int) ∧ (↑i : Int) < (↑n : Int), ShOb
 Try.prog 27 false true ds (i * 3 + 1) 101, decide ((↑(dLen ds (i * 3 + 0 + 0)) : Int) < (1 : Int)) = false, decide ((↑(dLen ds (i * 3 + 0 + 0)) : Int) > (32 : Int)) = false, decide ((↑(dLen ds (i * 3 + 1 + 0)) : Int) >
 (128 : Int)) = false, false = false, (∀ (τ : Sg), renL τ (dVals ds (i * 3 + 0 + 0)) = some (dVals ds (i * 3 + 0 + 0))) ∧ (dLen ds (ixO 0 (Int.toNat (↑i : Int)) 3 + 0 + 0) = 0 → dVals ds (i * 3 + 0 + 0) = []), BsOk []
 (dVals ds (i * 3 + 0 + 0)) 0 (dLen ds (i * 3 + 0 + 0)) ∧ false = false ∧ Value.func (Fn.func 47) (Array.mk []) (Array.mk []) = Value.func (Fn.func 47) #[] #[], false = false, 0 < dLen ds (i * 3 + 0 + 0), dLen ds (i * 3 +
 0 + 0) * 1 ≤ 140737488355328 ∧ dLen ds (i * 3 + 0 + 0) ≤ 9223372036854775807, List.length (List.take (dLen ds (i * 3 + 0 + 0)) (dVals ds (i * 3 + 0 + 0))) = dLen ds (i * 3 + 0 + 0) * 1, ∀ (τ : Sg), renL τ (List.take (dLen
 ds (i * 3 + 0 + 0)) (dVals ds (i * 3 + 0 + 0))) = some (List.take (dLen ds (i * 3 + 0 + 0)) (dVals ds (i * 3 + 0 + 0))), dLen ds (i * 3 + 0 + 0) ≤ List.length (dVals ds (i * 3 + 0 + 0)), all1 (List.take (dLen ds (i * 3 +
 0 + 0)) (dVals ds (i * 3 + 0 + 0))) = true, dLen ds (i * 3 + 1 + 0) * 1 ≤ 140737488355328 ∧ dLen ds (i * 3 + 1 + 0) ≤ 9223372036854775807, List.length (List.take (dLen ds (i * 3 + 1 + 0)) (dVals ds (i * 3 + 1 + 0))) =
 dLen ds (i * 3 + 1 + 0) * 1, ∀ (τ : Sg), renL τ (List.take (dLen ds (i * 3 + 1 + 0)) (dVals ds (i * 3 + 1 + 0))) = some (List.take (dLen ds (i * 3 + 1 + 0)) (dVals ds (i * 3 + 1 + 0))), dLen ds (i * 3 + 1 + 0) ≤
 List.length (dVals ds (i * 3 + 1 + 0)), all1 (List.take (dLen ds (i * 3 + 1 + 0)) (dVals ds (i * 3 + 1 + 0))) = true, 56 ≤ 140737488355328, (∀ (τ : Sg), renL τ (List.take (dLen ds (i * 3 + 0 + 0)) (dVals ds (i * 3 + 0 +
 0))) = some (List.take (dLen ds (i * 3 + 0 + 0)) (dVals ds (i * 3 + 0 + 0)))) ∧ (dLen ds (ixO 0 (Int.toNat (↑i : Int)) 3 + 0 + 0) = 0 → List.take (dLen ds (i * 3 + 0 + 0)) (dVals ds (i * 3 + 0 + 0)) = []), (∀ (τ : Sg),
 renL τ (List.take (dLen ds (i * 3 + 1 + 0)) (dVals ds (i * 3 + 1 + 0))) = some (List.take (dLen ds (i * 3 + 1 + 0)) (dVals ds (i * 3 + 1 + 0)))) ∧ (dLen ds (ixO 0 (Int.toNat (↑i : Int)) 3 + 1 + 0) = 0 → List.take (dLen ds
 (i * 3 + 1 + 0)) (dVals ds (i * 3 + 1 + 0)) = []), 3 ≤ 3, true = true, rg IntKind.i64 (↑(i + 1) : Int)]) := by kernel_rfl
theorem pt_nend (inr : Bool) (n c c1 m1 c2 m2 c3 m3 i : Nat) (ds : List DV) (k1 k2 k3 : List Value) : prjP [1, 2, 3, 9, 10] 100 (codeZ (ptV noL ptT0) Try.prog (runZ (ptV noL ptT0) Try.prog 12) 5 inr 100000 (bodyIn Try.prog 5 6) (SL 101 (ptS n c c1 m1 c2 m2 c3 m3 i)) (ptN ds k1 k2 k3) 100 [false]) =
  Res.ok ((Xt.exit 0, 101, [(1, Value.slice (some (Addr.mk 1 0 none)) m1 c1), (2, Value.slice (some (Addr.mk 2 0 none)) m2 c2), (3, Value.slice (some (Addr.mk 3 0 none)) m3 c3), (9, Value.bool true), (10, Value.pointer
 (some (Addr.mk 4 0 none)))], [(4, Rw.mk Kd.shut [Value.bool true, Value.slice none 0 0]), (0, Rw.mk (Kd.sd ds) []), (1, Rw.mk Kd.old k1), (2, Rw.mk Kd.old k2), (3, Rw.mk Kd.old k3)], 100, [], []), [], [decide ((↑i : Int)
 < (↑n : Int)) = false]) := by kernel_rfl
end Go.Proofs.Ytojakfnljopjbaa
