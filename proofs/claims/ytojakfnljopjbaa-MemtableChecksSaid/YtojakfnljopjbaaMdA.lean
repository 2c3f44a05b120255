/-
  Chapter 12: bytes compared, told; the rounds of loops over lists of pairs.
-/
import Derived.Test.YtojakfnljopjbaaOpenDq
import Derived.Test.YtojakfnljopjbaaKitP
import Derived.Test.YtojakfnljopjbaaKitX
import Derived.Test.YtojakfnljopjbaaProg
import Derived.Test.YtojakfnljopjbaaMtA
namespace Go.Proofs.Ytojakfnljopjbaa
set_option linter.unusedSimpArgs false
set_option linter.unusedVariables false
set_option linter.unusedSectionVars false
open Go Go.RowKit

/-- A row is so many bytes. -/
def BytI (n : Nat) (cs : List Value) : Prop := cs = (intsOf cs).map (Value.int .u8) ∧ (∀ x ∈ intsOf cs, 0 ≤ x ∧ x < 256) ∧ cs.length = n
theorem intsV_of : ∀ {l : List Int}, (∀ x ∈ l, 0 ≤ x ∧ x < 256) → intsV l.length (l.map (Value.int .u8)) = some l
  | [], _ => rfl
  | x :: l, h => by
      have ih := intsV_of (l := l) fun y hy => h y (List.mem_cons_of_mem _ hy)
      have hx := h x (List.mem_cons_self ..)
      simp only [List.length_cons, List.map_cons, intsV, hx, and_self, decide_true, cond_true, ih]
theorem BytI.bytes {h : Hp} {a n c : Nat} {r : Rw} (hl : lk h a = some r) (hb : BytI n r.cs) : bytesV h (.slice (some ⟨a, 0, none⟩) n c) = some (intsOf r.cs) := by
  obtain ⟨h1, h2, h3⟩ := hb
  have e : (intsOf r.cs).length = n := by
    have := congrArg List.length h1
    rw [List.length_map] at this
    omega
  have := intsV_of h2
  rw [e, ← h1] at this
  simp only [bytesV, hl, List.drop_zero, this]
def cmpY : XFun := fun f args h => bif Nat.beq f 45 then (match args with
  | [.slice (some ⟨a, 0, none⟩) n c, .slice (some ⟨b, 0, none⟩) m d] => match lk h a, lk h b with
    | some r, some s => some (.int .i64 (cmpI (intsOf r.cs) (intsOf s.cs)), [BytI n r.cs, BytI m s.cs])
    | _, _ => none
  | _ => none) else none
theorem cmpY_ok : XOneZ Try.prog cmpY := by
  intro f args h v ob e ho
  unfold cmpY at e
  obtain ⟨hf, e1⟩ := bif_of e
  clear e
  split at e1
  case h_2 => cases e1
  rename_i a n c b m d
  split at e1
  case h_2 => cases e1
  rename_i r s hl hm
  simp only [Option.some.injEq, Prod.mk.injEq] at e1
  obtain ⟨rfl, rfl⟩ := e1
  obtain ⟨g1, g2, _⟩ := ho
  exact cmp_one (f0 := 45) (fun args w => run_callFunc_extern Try.func45 (by kernel_rfl) (by kernel_rfl) (by kernel_rfl) (e := Extern.BytealgCompare.compare) (by kernel_rfl) args w) f _ h _ (by
    simp only [cmpX, hf, cond_true, g1.bytes hl, g2.bytes hm])

/-! ### rounds -/
def mdTab : FuncId → List Nat := fun f => bif Nat.beq f 10 then [8] else bif Nat.beq f 9 then [9, 13, 22, 30] else bif Nat.beq f 13 then [7, 22] else bif Nat.beq f 14 then [7] else bif Nat.beq f 34 then [9] else bif Nat.beq f 15 then [10, 14] else bif Nat.beq f 31 then [9] else bif Nat.beq f 20 then [22] else bif Nat.beq f 11 then [6, 11, 17, 21, 26] else bif Nat.beq f 12 then [6, 11, 17, 21, 26] else bif Nat.beq f 3 then [12] else []
def mdSy : FuncId → Nat → Option Nat := orSy (lsSy 10 [(14, 0), (16, 32), (20, 0), (22, 32), (26, 0), (28, 32), (31, 44), (10, 0)]) (orSy (lsSy 32 [(5, 43)]) (orSy (lsSy 9 [(18, 0), (20, 32), (26, 0), (28, 32), (15, 0), (13, 0)]) (orSy (lsSy 13 [(12, 0), (13, 0), (15, 32), (18, 0), (20, 32), (9, 0)]) (orSy (lsSy 14 [(12, 0), (13, 0), (15, 32), (18, 0), (20, 32), (9, 0)]) (orSy (lsSy 34 [(6, 0), (8, 0), (9, 0)]) (orSy (lsSy 15 [(19, 0), (20, 32), (23, 0), (24, 32), (16, 0)]) (orSy (lsSy 31 [(6, 0), (8, 0), (9, 0)]) (lsSy 3 [(17, 0), (18, 32), (22, 0), (23, 32), (14, 0)]))))))))
def mdV (L : LFun) (T : TFun) : Tv := ⟨T, cmpY, L, mdTab, mdSy, fun _ => [], fun _ => 0⟩
def zPr : List Value := [.slice none 0 0, .slice none 0 0, .bool false]
def sdV (n c : Nat) : Value := .slice (some ⟨0, 0, none⟩) n c
def dpV (n : Nat) : Value := .slice (some ⟨80, 0, none⟩) n (capBig + 80)
def mdH (ds es : List DV) : Hp := [(0, ⟨.sd ds, []⟩), (80, ⟨.dp 3 zPr es, []⟩)]
def iV (i : Nat) : Value := .int .i64 (i : Int)
theorem md_lp_go (inr : Bool) (n c i : Nat) (ds es : List DV) : prjP [0, 5] 2 (codeZ (mdV noL noTz) Try.prog (runZ (mdV noL noTz) Try.prog 9) 9 inr 100000 (bodyIn Try.prog 9 4) (SL 32 [(0, sdV n c), (5, iV i)]) ([(0, ⟨.sd ds, []⟩)]) 2 [true, false, false]) =
  Res.ok ((Xt.normal, 32, [(0, Value.slice (some (Addr.mk 0 0 none)) n c), (5, Value.int IntKind.i64 (↑(i + 1) : Int))], [(0, Rw.mk (Kd.sd ds) [])], 4, [], []), [], [decide ((↑i : Int) < (↑n : Int)) = true, (0 : Int) ≤ (↑i
 : Int) ∧ (↑i : Int) < (↑n : Int), ShOb Try.prog 27 false true ds (i * 3 + 0) 2, decide ((↑(dLen ds (i * 3 + 0 + 0)) : Int) > (200 : Int)) = false, (0 : Int) ≤ (↑i : Int) ∧ (↑i : Int) < (↑n : Int), ShOb Try.prog 27 false
 true ds (i * 3 + 1) 3, decide ((↑(dLen ds (i * 3 + 1 + 0)) : Int) > (200 : Int)) = false, rg IntKind.i64 (↑(i + 1) : Int)]) := by kernel_rfl
theorem md_lp_a (inr : Bool) (n c i : Nat) (ds es : List DV) : prjP [4] 2 (codeZ (mdV noL noTz) Try.prog (runZ (mdV noL noTz) Try.prog 9) 9 inr 100000 (bodyIn Try.prog 9 4) (SL 32 [(0, sdV n c), (5, iV i)]) ([(0, ⟨.sd ds, []⟩)]) 2 [true, true]) =
  Res.ok ((Xt.ret, 32, [(4, Value.bool true)], [(0, Rw.mk (Kd.sd ds) [])], 3, [], []), [], [decide ((↑i : Int) < (↑n : Int)) = true, (0 : Int) ≤ (↑i : Int) ∧ (↑i : Int) < (↑n : Int), ShOb Try.prog 27 false true ds (i * 3 +
 0) 2, decide ((↑(dLen ds (i * 3 + 0 + 0)) : Int) > (200 : Int)) = true]) := by kernel_rfl
theorem md_lp_b (inr : Bool) (n c i : Nat) (ds es : List DV) : prjP [4] 2 (codeZ (mdV noL noTz) Try.prog (runZ (mdV noL noTz) Try.prog 9) 9 inr 100000 (bodyIn Try.prog 9 4) (SL 32 [(0, sdV n c), (5, iV i)]) ([(0, ⟨.sd ds, []⟩)]) 2 [true, false, true]) =
  Res.ok ((Xt.ret, 32, [(4, Value.bool true)], [(0, Rw.mk (Kd.sd ds) [])], 4, [], []), [], [decide ((↑i : Int) < (↑n : Int)) = true, (0 : Int) ≤ (↑i : Int) ∧ (↑i : Int) < (↑n : Int), ShOb Try.prog 27 false true ds (i * 3 +
 0) 2, decide ((↑(dLen ds (i * 3 + 0 + 0)) : Int) > (200 : Int)) = false, (0 : Int) ≤ (↑i : Int) ∧ (↑i : Int) < (↑n : Int), ShOb Try.prog 27 false true ds (i * 3 + 1) 3, decide ((↑(dLen ds (i * 3 + 1 + 0)) : Int) > (200 :
 Int)) = true]) := by kernel_rfl
theorem md_lp_end (inr : Bool) (n c i : Nat) (ds es : List DV) : prjP [] 2 (codeZ (mdV noL noTz) Try.prog (runZ (mdV noL noTz) Try.prog 9) 9 inr 100000 (bodyIn Try.prog 9 4) (SL 32 [(0, sdV n c), (5, iV i)]) ([(0, ⟨.sd ds, []⟩)]) 2 [false]) =
  Res.ok ((Xt.exit 0, 32, [], [(0, Rw.mk (Kd.sd ds) [])], 2, [], []), [], [decide ((↑i : Int) < (↑n : Int)) = false]) := by kernel_rfl
theorem md_so_go (inr : Bool) (n c i : Nat) (ds es : List DV) : prjP [0, 3] 121 (codeZ (mdV noL noTz) Try.prog (runZ (mdV noL noTz) Try.prog 9) 13 inr 100000 (bodyIn Try.prog 13 2) (SL 23 [(0, dpV n), (3, iV (i + 1))]) (mdH ds es) 121 [true, false]) =
  Res.ok ((Xt.normal, 23, [(0, Value.slice (some (Addr.mk 80 0 none)) n (capBig + 80)), (3, Value.int IntKind.i64 (↑(i + 1 + 1) : Int))], [(0, Rw.mk (Kd.sd ds) []), (80, Rw.mk (Kd.dp 3 [Value.slice none 0 0, Value.slice
 none 0 0, Value.bool false] es) [])], 123, [], []), [], [decide ((↑(i + 1) : Int) < (↑n : Int)) = true, rg IntKind.i64 ((↑(i + 1) : Int) - (1 : Int)), (0 : Int) ≤ (↑(i + 1) : Int) - (1 : Int) ∧ (↑(i + 1) : Int) - (1 :
 Int) < (↑n : Int), ShOb Try.prog 27 false true es (Int.toNat ((↑(i + 1) : Int) - (1 : Int)) * 3 + 0) 121, (0 : Int) ≤ (↑(i + 1) : Int) ∧ (↑(i + 1) : Int) < (↑n : Int), ShOb Try.prog 27 false true es ((i + 1) * 3 + 0) 122,
 BytI (dLen es (Int.toNat ((↑(i + 1) : Int) - (1 : Int)) * 3 + 0 + 0)) (dVals es (Int.toNat ((↑(i + 1) : Int) - (1 : Int)) * 3 + 0 + 0)), BytI (dLen es ((i + 1) * 3 + 0 + 0)) (dVals es ((i + 1) * 3 + 0 + 0)), decide (cmpI
 (intsOf (dVals es (Int.toNat ((↑(i + 1) : Int) - (1 : Int)) * 3 + 0 + 0))) (intsOf (dVals es ((i + 1) * 3 + 0 + 0))) ≥ (0 : Int)) = false, rg IntKind.i64 (↑(i + 1 + 1) : Int)]) := by kernel_rfl
theorem md_so_no (inr : Bool) (n c i : Nat) (ds es : List DV) : prjP [2] 121 (codeZ (mdV noL noTz) Try.prog (runZ (mdV noL noTz) Try.prog 9) 13 inr 100000 (bodyIn Try.prog 13 2) (SL 23 [(0, dpV n), (3, iV (i + 1))]) (mdH ds es) 121 [true, true]) =
  Res.ok ((Xt.ret, 23, [(2, Value.bool false)], [(0, Rw.mk (Kd.sd ds) []), (80, Rw.mk (Kd.dp 3 [Value.slice none 0 0, Value.slice none 0 0, Value.bool false] es) [])], 123, [], []), [], [decide ((↑(i + 1) : Int) < (↑n :
 Int)) = true, rg IntKind.i64 ((↑(i + 1) : Int) - (1 : Int)), (0 : Int) ≤ (↑(i + 1) : Int) - (1 : Int) ∧ (↑(i + 1) : Int) - (1 : Int) < (↑n : Int), ShOb Try.prog 27 false true es (Int.toNat ((↑(i + 1) : Int) - (1 : Int)) *
 3 + 0) 121, (0 : Int) ≤ (↑(i + 1) : Int) ∧ (↑(i + 1) : Int) < (↑n : Int), ShOb Try.prog 27 false true es ((i + 1) * 3 + 0) 122, BytI (dLen es (Int.toNat ((↑(i + 1) : Int) - (1 : Int)) * 3 + 0 + 0)) (dVals es (Int.toNat
 ((↑(i + 1) : Int) - (1 : Int)) * 3 + 0 + 0)), BytI (dLen es ((i + 1) * 3 + 0 + 0)) (dVals es ((i + 1) * 3 + 0 + 0)), decide (cmpI (intsOf (dVals es (Int.toNat ((↑(i + 1) : Int) - (1 : Int)) * 3 + 0 + 0))) (intsOf (dVals
 es ((i + 1) * 3 + 0 + 0))) ≥ (0 : Int)) = true]) := by kernel_rfl
theorem md_so_end (inr : Bool) (n c i : Nat) (ds es : List DV) : prjP [] 121 (codeZ (mdV noL noTz) Try.prog (runZ (mdV noL noTz) Try.prog 9) 13 inr 100000 (bodyIn Try.prog 13 2) (SL 23 [(0, dpV n), (3, iV (i + 1))]) (mdH ds es) 121 [false]) =
  Res.ok ((Xt.exit 0, 23, [], [(0, Rw.mk (Kd.sd ds) []), (80, Rw.mk (Kd.dp 3 [Value.slice none 0 0, Value.slice none 0 0, Value.bool false] es) [])], 121, [], []), [], [decide ((↑(i + 1) : Int) < (↑n : Int)) = false]) := by kernel_rfl
theorem md_sr_go (inr : Bool) (n c i : Nat) (ds es : List DV) : prjP [0, 3] 141 (codeZ (mdV noL noTz) Try.prog (runZ (mdV noL noTz) Try.prog 9) 14 inr 100000 (bodyIn Try.prog 14 2) (SL 23 [(0, sdV n c), (3, iV (i + 1))]) (mdH ds es) 141 [true, true]) =
  Res.ok ((Xt.normal, 23, [(0, Value.slice (some (Addr.mk 0 0 none)) n c), (3, Value.int IntKind.i64 (↑(i + 1 + 1) : Int))], [(0, Rw.mk (Kd.sd ds) []), (80, Rw.mk (Kd.dp 3 [Value.slice none 0 0, Value.slice none 0 0,
 Value.bool false] es) [])], 143, [], []), [], [decide ((↑(i + 1) : Int) < (↑n : Int)) = true, rg IntKind.i64 ((↑(i + 1) : Int) - (1 : Int)), (0 : Int) ≤ (↑(i + 1) : Int) - (1 : Int) ∧ (↑(i + 1) : Int) - (1 : Int) < (↑n :
 Int), ShOb Try.prog 27 false true ds (Int.toNat ((↑(i + 1) : Int) - (1 : Int)) * 3 + 0) 141, (0 : Int) ≤ (↑(i + 1) : Int) ∧ (↑(i + 1) : Int) < (↑n : Int), ShOb Try.prog 27 false true ds ((i + 1) * 3 + 0) 142, dLen ds
 (Int.toNat ((↑(i + 1) : Int) - (1 : Int)) * 3 + 0 + 0) ≤ List.length (dVals ds (Int.toNat ((↑(i + 1) : Int) - (1 : Int)) * 3 + 0 + 0)), List.take (dLen ds (Int.toNat ((↑(i + 1) : Int) - (1 : Int)) * 3 + 0 + 0)) (dVals ds
 (Int.toNat ((↑(i + 1) : Int) - (1 : Int)) * 3 + 0 + 0)) = List.map (Value.int IntKind.u8) (intsOf (List.take (dLen ds (Int.toNat ((↑(i + 1) : Int) - (1 : Int)) * 3 + 0 + 0)) (dVals ds (Int.toNat ((↑(i + 1) : Int) - (1 :
 Int)) * 3 + 0 + 0)))), dLen ds ((i + 1) * 3 + 0 + 0) ≤ List.length (dVals ds ((i + 1) * 3 + 0 + 0)), List.take (dLen ds ((i + 1) * 3 + 0 + 0)) (dVals ds ((i + 1) * 3 + 0 + 0)) = List.map (Value.int IntKind.u8) (intsOf
 (List.take (dLen ds ((i + 1) * 3 + 0 + 0)) (dVals ds ((i + 1) * 3 + 0 + 0)))), Op.bytesLess (List.map (fun n => UInt8.ofNat (Int.toNat n)) (intsOf (List.take (dLen ds (Int.toNat ((↑(i + 1) : Int) - (1 : Int)) * 3 + 0 +
 0)) (dVals ds (Int.toNat ((↑(i + 1) : Int) - (1 : Int)) * 3 + 0 + 0))))) (List.map (fun n => UInt8.ofNat (Int.toNat n)) (intsOf (List.take (dLen ds ((i + 1) * 3 + 0 + 0)) (dVals ds ((i + 1) * 3 + 0 + 0))))) = true, rg
 IntKind.i64 (↑(i + 1 + 1) : Int)]) := by kernel_rfl
theorem md_sr_no (inr : Bool) (n c i : Nat) (ds es : List DV) : prjP [2] 141 (codeZ (mdV noL noTz) Try.prog (runZ (mdV noL noTz) Try.prog 9) 14 inr 100000 (bodyIn Try.prog 14 2) (SL 23 [(0, sdV n c), (3, iV (i + 1))]) (mdH ds es) 141 [true, false]) =
  Res.ok ((Xt.ret, 23, [(2, Value.bool false)], [(0, Rw.mk (Kd.sd ds) []), (80, Rw.mk (Kd.dp 3 [Value.slice none 0 0, Value.slice none 0 0, Value.bool false] es) [])], 143, [], []), [], [decide ((↑(i + 1) : Int) < (↑n :
 Int)) = true, rg IntKind.i64 ((↑(i + 1) : Int) - (1 : Int)), (0 : Int) ≤ (↑(i + 1) : Int) - (1 : Int) ∧ (↑(i + 1) : Int) - (1 : Int) < (↑n : Int), ShOb Try.prog 27 false true ds (Int.toNat ((↑(i + 1) : Int) - (1 : Int)) *
 3 + 0) 141, (0 : Int) ≤ (↑(i + 1) : Int) ∧ (↑(i + 1) : Int) < (↑n : Int), ShOb Try.prog 27 false true ds ((i + 1) * 3 + 0) 142, dLen ds (Int.toNat ((↑(i + 1) : Int) - (1 : Int)) * 3 + 0 + 0) ≤ List.length (dVals ds
 (Int.toNat ((↑(i + 1) : Int) - (1 : Int)) * 3 + 0 + 0)), List.take (dLen ds (Int.toNat ((↑(i + 1) : Int) - (1 : Int)) * 3 + 0 + 0)) (dVals ds (Int.toNat ((↑(i + 1) : Int) - (1 : Int)) * 3 + 0 + 0)) = List.map (Value.int
 IntKind.u8) (intsOf (List.take (dLen ds (Int.toNat ((↑(i + 1) : Int) - (1 : Int)) * 3 + 0 + 0)) (dVals ds (Int.toNat ((↑(i + 1) : Int) - (1 : Int)) * 3 + 0 + 0)))), dLen ds ((i + 1) * 3 + 0 + 0) ≤ List.length (dVals ds
 ((i + 1) * 3 + 0 + 0)), List.take (dLen ds ((i + 1) * 3 + 0 + 0)) (dVals ds ((i + 1) * 3 + 0 + 0)) = List.map (Value.int IntKind.u8) (intsOf (List.take (dLen ds ((i + 1) * 3 + 0 + 0)) (dVals ds ((i + 1) * 3 + 0 + 0)))),
 Op.bytesLess (List.map (fun n => UInt8.ofNat (Int.toNat n)) (intsOf (List.take (dLen ds (Int.toNat ((↑(i + 1) : Int) - (1 : Int)) * 3 + 0 + 0)) (dVals ds (Int.toNat ((↑(i + 1) : Int) - (1 : Int)) * 3 + 0 + 0)))))
 (List.map (fun n => UInt8.ofNat (Int.toNat n)) (intsOf (List.take (dLen ds ((i + 1) * 3 + 0 + 0)) (dVals ds ((i + 1) * 3 + 0 + 0))))) = false]) := by kernel_rfl
theorem md_sr_end (inr : Bool) (n c i : Nat) (ds es : List DV) : prjP [] 141 (codeZ (mdV noL noTz) Try.prog (runZ (mdV noL noTz) Try.prog 9) 14 inr 100000 (bodyIn Try.prog 14 2) (SL 23 [(0, sdV n c), (3, iV (i + 1))]) (mdH ds es) 141 [false]) =
  Res.ok ((Xt.exit 0, 23, [], [(0, Rw.mk (Kd.sd ds) []), (80, Rw.mk (Kd.dp 3 [Value.slice none 0 0, Value.slice none 0 0, Value.bool false] es) [])], 141, [], []), [], [decide ((↑(i + 1) : Int) < (↑n : Int)) = false]) := by kernel_rfl
theorem md_sp_go (inr : Bool) (n c i : Nat) (ds es : List DV) : prjP [0, 1, 5] 161 (codeZ (mdV noL noTz) Try.prog (runZ (mdV noL noTz) Try.prog 9) 15 inr 100000 (bodyIn Try.prog 15 4) (SL 27 [(0, dpV n), (1, sdV n c), (5, iV i)]) (mdH ds es) 161 [true, true, true, true]) =
  Res.ok ((Xt.normal, 27, [(0, Value.slice (some (Addr.mk 80 0 none)) n (capBig + 80)), (1, Value.slice (some (Addr.mk 0 0 none)) n c), (5, Value.int IntKind.i64 (↑(i + 1) : Int))], [(0, Rw.mk (Kd.sd ds) []), (80, Rw.mk
 (Kd.dp 3 [Value.slice none 0 0, Value.slice none 0 0, Value.bool false] es) [])], 167, [], []), [], [decide ((↑i : Int) < (↑n : Int)) = true, (0 : Int) ≤ (↑i : Int) ∧ (↑i : Int) < (↑n : Int), ShOb Try.prog 29 false true
 es (i * 3) 161, (0 : Int) ≤ (↑i : Int) ∧ (↑i : Int) < (↑n : Int), ShOb Try.prog 29 false true ds (i * 3) 163, dLen es (i * 3 + 0) ≤ List.length (dVals es (i * 3 + 0)), List.take (dLen es (i * 3 + 0)) (dVals es (i * 3 +
 0)) = List.map (Value.int IntKind.u8) (intsOf (List.take (dLen es (i * 3 + 0)) (dVals es (i * 3 + 0)))), dLen ds (i * 3 + 0) ≤ List.length (dVals ds (i * 3 + 0)), List.take (dLen ds (i * 3 + 0)) (dVals ds (i * 3 + 0)) =
 List.map (Value.int IntKind.u8) (intsOf (List.take (dLen ds (i * 3 + 0)) (dVals ds (i * 3 + 0)))), strEq (strOfI (intsOf (List.take (dLen es (i * 3 + 0)) (dVals es (i * 3 + 0))))) (strOfI (intsOf (List.take (dLen ds (i *
 3 + 0)) (dVals ds (i * 3 + 0))))) = true, dLen es (i * 3 + 1) ≤ List.length (dVals es (i * 3 + 1)), List.take (dLen es (i * 3 + 1)) (dVals es (i * 3 + 1)) = List.map (Value.int IntKind.u8) (intsOf (List.take (dLen es (i *
 3 + 1)) (dVals es (i * 3 + 1)))), dLen ds (i * 3 + 1) ≤ List.length (dVals ds (i * 3 + 1)), List.take (dLen ds (i * 3 + 1)) (dVals ds (i * 3 + 1)) = List.map (Value.int IntKind.u8) (intsOf (List.take (dLen ds (i * 3 + 1))
 (dVals ds (i * 3 + 1)))), strEq (strOfI (intsOf (List.take (dLen es (i * 3 + 1)) (dVals es (i * 3 + 1))))) (strOfI (intsOf (List.take (dLen ds (i * 3 + 1)) (dVals ds (i * 3 + 1))))) = true, (dBool es (i * 3 + 2) == dBool
 ds (i * 3 + 2)) = true, rg IntKind.i64 (↑(i + 1) : Int)]) := by kernel_rfl
theorem md_sp_end (inr : Bool) (n c i : Nat) (ds es : List DV) : prjP [] 161 (codeZ (mdV noL noTz) Try.prog (runZ (mdV noL noTz) Try.prog 9) 15 inr 100000 (bodyIn Try.prog 15 4) (SL 27 [(0, dpV n), (1, sdV n c), (5, iV i)]) (mdH ds es) 161 [false]) =
  Res.ok ((Xt.exit 0, 27, [], [(0, Rw.mk (Kd.sd ds) []), (80, Rw.mk (Kd.dp 3 [Value.slice none 0 0, Value.slice none 0 0, Value.bool false] es) [])], 161, [], []), [], [decide ((↑i : Int) < (↑n : Int)) = false]) := by kernel_rfl
theorem md_ck_ok (inr : Bool) (n c i : Nat) (ds es : List DV) : prjP [0, 3, 4] 101 (codeZ (mdV noL noTz) Try.prog (runZ (mdV noL noTz) Try.prog 9) 3 inr 100000 (bodyIn Try.prog 3 5) (SL 39 [(0, sdV n c), (3, dpV n), (4, iV i)]) (mdH ds es) 101 [true, false, false, false, false, false, false, false, false]) =
  Res.ok ((Xt.normal, 39, [(0, Value.slice (some (Addr.mk 0 0 none)) n c), (3, Value.slice (some (Addr.mk 80 0 none)) n (capBig + 80)), (4, Value.int IntKind.i64 (↑(i + 1) : Int))], [(0, Rw.mk (Kd.sd ds) []), (80, Rw.mk
 (Kd.dp 3 [Value.slice none 0 0, Value.slice none 0 0, Value.bool false] es) [])], 107, [], []), [], [decide ((↑i : Int) < (↑n : Int)) = true, (0 : Int) ≤ (↑i : Int) ∧ (↑i : Int) < (↑n : Int), ShOb Try.prog 29 false true
 es (i * 3) 101, decide ((↑(dLen es (i * 3 + 0)) : Int) < (1 : Int)) = false, decide ((↑(dLen es (i * 3 + 0)) : Int) > (32 : Int)) = false, decide ((↑(dLen es (i * 3 + 1)) : Int) > (128 : Int)) = false, dBool es (i * 3 +
 2) = false, (0 : Int) ≤ (↑i : Int) ∧ (↑i : Int) < (↑n : Int), ShOb Try.prog 29 false true ds (i * 3) 104, decide ((↑(dLen ds (i * 3 + 0)) : Int) < (1 : Int)) = false, decide ((↑(dLen ds (i * 3 + 0)) : Int) > (32 : Int)) =
 false, decide ((↑(dLen ds (i * 3 + 1)) : Int) > (128 : Int)) = false, dBool ds (i * 3 + 2) = false, rg IntKind.i64 (↑(i + 1) : Int)]) := by kernel_rfl
end Go.Proofs.Ytojakfnljopjbaa
