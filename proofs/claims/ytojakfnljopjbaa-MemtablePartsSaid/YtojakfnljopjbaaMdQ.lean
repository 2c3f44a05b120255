/-
  Chapter 12: bytes compared, told; the rounds of loops over lists of pairs.
-/
import Derived.Test.YtojakfnljopjbaaOpenDq
import Derived.Test.YtojakfnljopjbaaKitP
import Derived.Test.YtojakfnljopjbaaKitX
import Derived.Test.YtojakfnljopjbaaProg
import Derived.Test.YtojakfnljopjbaaMtA
namespace Go.Proofs.Ytojakfnljopjbaa
set_option linter.unusedSimpArgs false
set_option linter.unusedVariables false
set_option linter.unusedSectionVars false
open Go Go.RowKit

/-- A row is so many bytes. -/
def BytI (n : Nat) (cs : List Value) : Prop := cs = (intsOf cs).map (Value.int .u8) ∧ (∀ x ∈ intsOf cs, 0 ≤ x ∧ x < 256) ∧ cs.length = n
theorem intsV_of : ∀ {l : List Int}, (∀ x ∈ l, 0 ≤ x ∧ x < 256) → intsV l.length (l.map (Value.int .u8)) = some l
  | [], _ => rfl
  | x :: l, h => by
      have ih := intsV_of (l := l) fun y hy => h y (List.mem_cons_of_mem _ hy)
      have hx := h x (List.mem_cons_self ..)
      simp only [List.length_cons, List.map_cons, intsV, hx, and_self, decide_true, cond_true, ih]
theorem BytI.bytes {h : Hp} {a n c : Nat} {r : Rw} (hl : lk h a = some r) (hb : BytI n r.cs) : bytesV h (.slice (some ⟨a, 0, none⟩) n c) = some (intsOf r.cs) := by
  obtain ⟨h1, h2, h3⟩ := hb
  have e : (intsOf r.cs).length = n := by
    have := congrArg List.length h1
    rw [List.length_map] at this
    omega
  have := intsV_of h2
  rw [e, ← h1] at this
  simp only [bytesV, hl, List.drop_zero, this]
def cmpY : XFun := fun f args h => bif Nat.beq f 45 then (match args with
  | [.slice (some ⟨a, 0, none⟩) n c, .slice (some ⟨b, 0, none⟩) m d] => match lk h a, lk h b with
    | some r, some s => some (.int .i64 (cmpI (intsOf r.cs) (intsOf s.cs)), [BytI n r.cs, BytI m s.cs])
    | _, _ => none
  | _ => none) else none
theorem cmpY_ok : XOneZ Try.prog cmpY := by
  intro f args h v ob e ho
  unfold cmpY at e
  obtain ⟨hf, e1⟩ := bif_of e
  clear e
  split at e1
  case h_2 => cases e1
  rename_i a n c b m d
  split at e1
  case h_2 => cases e1
  rename_i r s hl hm
  simp only [Option.some.injEq, Prod.mk.injEq] at e1
  obtain ⟨rfl, rfl⟩ := e1
  obtain ⟨g1, g2, _⟩ := ho
  exact cmp_one (f0 := 45) (fun args w => run_callFunc_extern Try.func45 (by kernel_rfl) (by kernel_rfl) (by kernel_rfl) (e := Extern.BytealgCompare.compare) (by kernel_rfl) args w) f _ h _ (by
    simp only [cmpX, hf, cond_true, g1.bytes hl, g2.bytes hm])

/-! ### rounds -/
def mdTab : FuncId → List Nat := fun f => bif Nat.beq f 10 then [8] else bif Nat.beq f 9 then [9, 13, 22, 30] else bif Nat.beq f 13 then [7, 22] else bif Nat.beq f 14 then [7] else bif Nat.beq f 34 then [9] else bif Nat.beq f 15 then [10, 14] else bif Nat.beq f 31 then [9] else bif Nat.beq f 20 then [22] else bif Nat.beq f 11 then [6, 11, 17, 21, 26] else bif Nat.beq f 12 then [6, 11, 17, 21, 26] else bif Nat.beq f 3 then [12] else []
def mdSy : FuncId → Nat → Option Nat := orSy (lsSy 10 [(14, 0), (16, 32), (20, 0), (22, 32), (26, 0), (28, 32), (31, 44), (10, 0)]) (orSy (lsSy 32 [(5, 43)]) (orSy (lsSy 9 [(18, 0), (20, 32), (26, 0), (28, 32), (15, 0), (13, 0)]) (orSy (lsSy 13 [(12, 0), (13, 0), (15, 32), (18, 0), (20, 32), (9, 0)]) (orSy (lsSy 14 [(12, 0), (13, 0), (15, 32), (18, 0), (20, 32), (9, 0)]) (orSy (lsSy 34 [(6, 0), (8, 0), (9, 0)]) (orSy (lsSy 15 [(19, 0), (20, 32), (23, 0), (24, 32), (16, 0)]) (orSy (lsSy 31 [(6, 0), (8, 0), (9, 0)]) (lsSy 3 [(17, 0), (18, 32), (22, 0), (23, 32), (14, 0)]))))))))
def mdV (L : LFun) (T : TFun) : Tv := ⟨T, cmpY, L, mdTab, mdSy, fun _ => [], fun _ => 0⟩
def zPr : List Value := [.slice none 0 0, .slice none 0 0, .bool false]
def sdV (n c : Nat) : Value := .slice (some ⟨0, 0, none⟩) n c
def dpV (n : Nat) : Value := .slice (some ⟨80, 0, none⟩) n (capBig + 80)
def mdH (ds es : List DV) : Hp := [(0, ⟨.sd ds, []⟩), (80, ⟨.dp 3 zPr es, []⟩)]
def iV (i : Nat) : Value := .int .i64 (i : Int)
theorem md_lp_go (inr : Bool) (n c i : Nat) (ds es : List DV) : prjP [0, 5] 2 (codeZ (mdV noL noTz) Try.prog (runZ (mdV noL noTz) Try.prog 9) 9 inr 100000 (bodyIn Try.prog 9 4) (SL 32 [(0, sdV n c), (5, iV i)]) ([(0, ⟨.sd ds, []⟩)]) 2 [true, false, false]) =
  Res.ok ((Xt.normal, 32, [(0, Value.slice (some (Addr.mk 0 0 none)) n c), (5, Value.int IntKind.i64 (↑(i + 1) : Int))], [(0, Rw.mk (Kd.sd ds) [])], 4, [], []), [], [decide ((↑i : Int) < (↑n : Int)) = true, (0 : Int) ≤ (↑i
 : Int) ∧ (↑i : Int) < (↑n : Int), ShOb Try.prog 27 false true ds (i * 3 + 0) 2, decide ((↑(dLen ds (i * 3 + 0 + 0)) : Int) > (200 : Int)) = false, (0 : Int) ≤ (↑i : Int) ∧ (↑i : Int) < (↑n : Int), ShOb Try.prog 27 false
 true ds (i * 3 + 1) 3, decide ((↑(dLen ds (i * 3 + 1 + 0)) : Int) > (200 : Int)) = false, rg IntKind.i64 (↑(i + 1) : Int)]) := by kernel_rfl
theorem md_lp_a (inr : Bool) (n c i : Nat) (ds es : List DV) : prjP [4] 2 (codeZ (mdV noL noTz) Try.prog (runZ (mdV noL noTz) Try.prog 9) 9 inr 100000 (bodyIn Try.prog 9 4) (SL 32 [(0, sdV n c), (5, iV i)]) ([(0, ⟨.sd ds, []⟩)]) 2 [true, true]) =
  Res.ok ((Xt.ret, 32, [(4, Value.bool true)], [(0, Rw.mk (Kd.sd ds) [])], 3, [], []), [], [decide ((↑i : Int) < (↑n : Int)) = true, (0 : Int) ≤ (↑i : Int) ∧ (↑i : Int) < (↑n : Int), ShOb Try.prog 27 false true ds (i * 3 +
 0) 2, decide ((↑(dLen ds (i * 3 + 0 + 0)) : Int) > (200 : Int)) = true]) := by kernel_rfl
theorem md_lp_b (inr : Bool) (n c i : Nat) (ds es : List DV) : prjP [4] 2 (codeZ (mdV noL noTz) Try.prog (runZ (mdV noL noTz) Try.prog 9) 9 inr 100000 (bodyIn Try.prog 9 4) (SL 32 [(0, sdV n c), (5, iV i)]) ([(0, ⟨.sd ds, []⟩)]) 2 [true, false, true]) =
  Res.ok ((Xt.ret, 32, [(4, Value.bool true)], [(0, Rw.mk (Kd.sd ds) [])], 4, [], []), [], [decide ((↑i : Int) < (↑n : Int)) = true, (0 : Int) ≤ (↑i : Int) ∧ (↑i : Int) < (↑n : Int), ShOb Try.prog 27 false true ds (i * 3 +
 0) 2, decide ((↑(dLen ds (i * 3 + 0 + 0)) : Int) > (200 : Int)) = false, (0 : Int) ≤ (↑i : Int) ∧ (↑i : Int) < (↑n : Int), ShOb Try.prog 27 false true ds (i * 3 + 1) 3, decide ((↑(dLen ds (i * 3 + 1 + 0)) : Int) > (200 :
 Int)) = true]) := by kernel_rfl
theorem md_lp_end (inr : Bool) (n c i : Nat) (ds es : List DV) : prjP [] 2 (codeZ (mdV noL noTz) Try.prog (runZ (mdV noL noTz) Try.prog 9) 9 inr 100000 (bodyIn Try.prog 9 4) (SL 32 [(0, sdV n c), (5, iV i)]) ([(0, ⟨.sd ds, []⟩)]) 2 [false]) =
  Res.ok ((Xt.exit 0, 32, [], [(0, Rw.mk (Kd.sd ds) [])], 2, [], []), [], [decide ((↑i : Int) < (↑n : Int)) = false]) := by kernel_rfl
theorem md_so_go (inr : Bool) (n c i : Nat) (ds es : List DV) : prjP [0, 3] 121 (codeZ (mdV noL noTz) Try.prog (runZ (mdV noL noTz) Try.prog 9) 13 inr 100000 (bodyIn Try.prog 13 2) (SL 23 [(0, dpV n), (3, iV (i + 1))]) (mdH ds es) 121 [true, false]) =
  Res.ok ((Xt.normal, 23, [(0, Value.slice (some (Addr.mk 80 0 none)) n (capBig + 80)), (3, Value.int IntKind.i64 (↑(i + 1 + 1) : Int))], [(0, Rw.mk (Kd.sd ds) []), (80, Rw.mk (Kd.dp 3 [Value.slice none 0 0, Value.slice
 none 0 0, Value.bool false] es) [])], 123, [], []), [], [decide ((↑(i + 1) : Int) < (↑n : Int)) = true, rg IntKind.i64 ((↑(i + 1) : Int) - (1 : Int)), (0 : Int) ≤ (↑(i + 1) : Int) - (1 : Int) ∧ (↑(i + 1) : Int) - (1 :
 Int) < (↑n : Int), ShOb Try.prog 27 false true es (Int.toNat ((↑(i + 1) : Int) - (1 : Int)) * 3 + 0) 121, (0 : Int) ≤ (↑(i + 1) : Int) ∧ (↑(i + 1) : Int) < (↑n : Int), ShOb Try.prog 27 false true es ((i + 1) * 3 + 0) 122,
 BytI (dLen es (Int.toNat ((↑(i + 1) : Int) - (1 : Int)) * 3 + 0 + 0)) (dVals es (Int.toNat ((↑(i + 1) : Int) - (1 : Int)) * 3 + 0 + 0)), BytI (dLen es ((i + 1) * 3 + 0 + 0)) (dVals es ((i + 1) * 3 + 0 + 0)), decide (cmpI
 (intsOf (dVals es (Int.toNat ((↑(i + 1) : Int) - (1 : Int)) * 3 + 0 + 0))) (intsOf (dVals es ((i + 1) * 3 + 0 + 0))) ≥ (0 : Int)) = false, rg IntKind.i64 (↑(i + 1 + 1) : Int)]) := by kernel_rfl
theorem md_so_no (inr : Bool) (n c i : Nat) (ds es : List DV) : prjP [2] 121 (codeZ (mdV noL noTz) Try.prog (runZ (mdV noL noTz) Try.prog 9) 13 inr 100000 (bodyIn Try.prog 13 2) (SL 23 [(0, dpV n), (3, iV (i + 1))]) (mdH ds es) 121 [true, true]) =
  Res.ok ((Xt.ret, 23, [(2, Value.bool false)], [(0, Rw.mk (Kd.sd ds) []), (80, Rw.mk (Kd.dp 3 [Value.slice none 0 0, Value.slice none 0 0, Value.bool false] es) [])], 123, [], []), [], [decide ((↑(i + 1) : Int) < (↑n :
 Int)) = true, rg IntKind.i64 ((↑(i + 1) : Int) - (1 : Int)), (0 : Int) ≤ (↑(i + 1) : Int) - (1 : Int) ∧ (↑(i + 1) : Int) - (1 : Int) < (↑n : Int), ShOb Try.prog 27 false true es (Int.toNat ((↑(i + 1) : Int) - (1 : Int)) *
 3 + 0) 121, (0 : Int) ≤ (↑(i + 1) : Int) ∧ (↑(i + 1) : Int) < (↑n : Int), ShOb Try.prog 27 false true es ((i + 1) * 3 + 0) 122, BytI (dLen es (Int.toNat ((↑(i + 1) : Int) - (1 : Int)) * 3 + 0 + 0)) (dVals es (Int.toNat
 ((↑(i + 1) : Int) - (1 : Int)) * 3 + 0 + 0)), BytI (dLen es ((i + 1) * 3 + 0 + 0)) (dVals es ((i + 1) * 3 + 0 + 0)), decide (cmpI (intsOf (dVals es (Int.toNat ((↑(i + 1) : Int) - (1 : Int)) * 3 + 0 + 0))) (intsOf (dVals
 es ((i + 1) * 3 + 0 + 0))) ≥ (0 : Int)) = true]) := by kernel_rfl
theorem md_so_end (inr : Bool) (n c i : Nat) (ds es : List DV) : prjP [] 121 (codeZ (mdV noL noTz) Try.prog (runZ (mdV noL noTz) Try.prog 9) 13 inr 100000 (bodyIn Try.prog 13 2) (SL 23 [(0, dpV n), (3, iV (i + 1))]) (mdH ds es) 121 [false]) =
  Res.ok ((Xt.exit 0, 23, [], [(0, Rw.mk (Kd.sd ds) []), (80, Rw.mk (Kd.dp 3 [Value.slice none 0 0, Value.slice none 0 0, Value.bool false] es) [])], 121, [], []), [], [decide ((↑(i + 1) : Int) < (↑n : Int)) = false]) := by kernel_rfl
theorem md_sr_go (inr : Bool) (n c i : Nat) (ds es : List DV) : prjP [0, 3] 141 (codeZ (mdV noL noTz) Try.prog (runZ (mdV noL noTz) Try.prog 9) 14 inr 100000 (bodyIn Try.prog 14 2) (SL 23 [(0, sdV n c), (3, iV (i + 1))]) (mdH ds es) 141 [true, true]) =
  Res.ok ((Xt.normal, 23, [(0, Value.slice (some (Addr.mk 0 0 none)) n c), (3, Value.int IntKind.i64 (↑(i + 1 + 1) : Int))], [(0, Rw.mk (Kd.sd ds) []), (80, Rw.mk (Kd.dp 3 [Value.slice none 0 0, Value.slice none 0 0,
 Value.bool false] es) [])], 143, [], []), [], [decide ((↑(i + 1) : Int) < (↑n : Int)) = true, rg IntKind.i64 ((↑(i + 1) : Int) - (1 : Int)), (0 : Int) ≤ (↑(i + 1) : Int) - (1 : Int) ∧ (↑(i + 1) : Int) - (1 : Int) < (↑n :
 Int), ShOb Try.prog 27 false true ds (Int.toNat ((↑(i + 1) : Int) - (1 : Int)) * 3 + 0) 141, (0 : Int) ≤ (↑(i + 1) : Int) ∧ (↑(i + 1) : Int) < (↑n : Int), ShOb Try.prog 27 false true ds ((i + 1) * 3 + 0) 142, dLen ds
 (Int.toNat ((↑(i + 1) : Int) - (1 : Int)) * 3 + 0 + 0) ≤ List.length (dVals ds (Int.toNat ((↑(i + 1) : Int) - (1 : Int)) * 3 + 0 + 0)), List.take (dLen ds (Int.toNat ((↑(i + 1) : Int) - (1 : Int)) * 3 + 0 + 0)) (dVals ds
 (Int.toNat ((↑(i + 1) : Int) - (1 : Int)) * 3 + 0 + 0)) = List.map (Value.int IntKind.u8) (intsOf (List.take (dLen ds (Int.toNat ((↑(i + 1) : Int) - (1 : Int)) * 3 + 0 + 0)) (dVals ds (Int.toNat ((↑(i + 1) : Int) - (1 :
 Int)) * 3 + 0 + 0)))), dLen ds ((i + 1) * 3 + 0 + 0) ≤ List.length (dVals ds ((i + 1) * 3 + 0 + 0)), List.take (dLen ds ((i + 1) * 3 + 0 + 0)) (dVals ds ((i + 1) * 3 + 0 + 0)) = List.map (Value.int IntKind.u8) (intsOf
 (List.take (dLen ds ((i + 1) * 3 + 0 + 0)) (dVals ds ((i + 1) * 3 + 0 + 0)))), Op.bytesLess (List.map (fun n => UInt8.ofNat (Int.toNat n)) (intsOf (List.take (dLen ds (Int.toNat ((↑(i + 1) : Int) - (1 : Int)) * 3 + 0 +
 0)) (dVals ds (Int.toNat ((↑(i + 1) : Int) - (1 : Int)) * 3 + 0 + 0))))) (List.map (fun n => UInt8.ofNat (Int.toNat n)) (intsOf (List.take (dLen ds ((i + 1) * 3 + 0 + 0)) (dVals ds ((i + 1) * 3 + 0 + 0))))) = true, rg
 IntKind.i64 (↑(i + 1 + 1) : Int)]) := by kernel_rfl
theorem md_sr_no (inr : Bool) (n c i : Nat) (ds es : List DV) : prjP [2] 141 (codeZ (mdV noL noTz) Try.prog (runZ (mdV noL noTz) Try.prog 9) 14 inr 100000 (bodyIn Try.prog 14 2) (SL 23 [(0, sdV n c), (3, iV (i + 1))]) (mdH ds es) 141 [true, false]) =
  Res.ok ((Xt.ret, 23, [(2, Value.bool false)], [(0, Rw.mk (Kd.sd ds) []), (80, Rw.mk (Kd.dp 3 [Value.slice none 0 0, Value.slice none 0 0, Value.bool false] es) [])], 143, [], []), [], [decide ((↑(i + 1) : Int) < (↑n :
 Int)) = true, rg IntKind.i64 ((↑(i + 1) : Int) - (1 : Int)), (0 : Int) ≤ (↑(i + 1) : Int) - (1 : Int) ∧ (↑(i + 1) : Int) - (1 : Int) < (↑n : Int), ShOb Try.prog 27 false true ds (Int.toNat ((↑(i + 1) : Int) - (1 : Int)) *
 3 + 0) 141, (0 : Int) ≤ (↑(i + 1) : Int) ∧ (↑(i + 1) : Int) < (↑n : Int), ShOb Try.prog 27 false true ds ((i + 1) * 3 + 0) 142, dLen ds (Int.toNat ((↑(i + 1) : Int) - (1 : Int)) * 3 + 0 + 0) ≤ List.length (dVals ds
 (Int.toNat ((↑(i + 1) : Int) - (1 : Int)) * 3 + 0 + 0)), List.take (dLen ds (Int.toNat ((↑(i + 1) : Int) - (1 : Int)) * 3 + 0 + 0)) (dVals ds (Int.toNat ((↑(i + 1) : Int) - (1 : Int)) * 3 + 0 + 0)) = List.map (Value.int
 IntKind.u8) (intsOf (List.take (dLen ds (Int.toNat ((↑(i + 1) : Int) - (1 : Int)) * 3 + 0 + 0)) (dVals ds (Int.toNat ((↑(i + 1) : Int) - (1 : Int)) * 3 + 0 + 0)))), dLen ds ((i + 1) * 3 + 0 + 0) ≤ List.length (dVals ds
 ((i + 1) * 3 + 0 + 0)), List.take (dLen ds ((i + 1) * 3 + 0 + 0)) (dVals ds ((i + 1) * 3 + 0 + 0)) = List.map (Value.int IntKind.u8) (intsOf (List.take (dLen ds ((i + 1) * 3 + 0 + 0)) (dVals ds ((i + 1) * 3 + 0 + 0)))),
 Op.bytesLess (List.map (fun n => UInt8.ofNat (Int.toNat n)) (intsOf (List.take (dLen ds (Int.toNat ((↑(i + 1) : Int) - (1 : Int)) * 3 + 0 + 0)) (dVals ds (Int.toNat ((↑(i + 1) : Int) - (1 : Int)) * 3 + 0 + 0)))))
 (List.map (fun n => UInt8.ofNat (Int.toNat n)) (intsOf (List.take (dLen ds ((i + 1) * 3 + 0 + 0)) (dVals ds ((i + 1) * 3 + 0 + 0))))) = false]) := by kernel_rfl
theorem md_sr_end (inr : Bool) (n c i : Nat) (ds es : List DV) : prjP [] 141 (codeZ (mdV noL noTz) Try.prog (runZ (mdV noL noTz) Try.prog 9) 14 inr 100000 (bodyIn Try.prog 14 2) (SL 23 [(0, sdV n c), (3, iV (i + 1))]) (mdH ds es) 141 [false]) =
  Res.ok ((Xt.exit 0, 23, [], [(0, Rw.mk (Kd.sd ds) []), (80, Rw.mk (Kd.dp 3 [Value.slice none 0 0, Value.slice none 0 0, Value.bool false] es) [])], 141, [], []), [], [decide ((↑(i + 1) : Int) < (↑n : Int)) = false]) := by kernel_rfl
theorem md_sp_go (inr : Bool) (n c i : Nat) (ds es : List DV) : prjP [0, 1, 5] 161 (codeZ (mdV noL noTz) Try.prog (runZ (mdV noL noTz) Try.prog 9) 15 inr 100000 (bodyIn Try.prog 15 4) (SL 27 [(0, dpV n), (1, sdV n c), (5, iV i)]) (mdH ds es) 161 [true, true, true, true]) =
  Res.ok ((Xt.normal, 27, [(0, Value.slice (some (Addr.mk 80 0 none)) n (capBig + 80)), (1, Value.slice (some (Addr.mk 0 0 none)) n c), (5, Value.int IntKind.i64 (↑(i + 1) : Int))], [(0, Rw.mk (Kd.sd ds) []), (80, Rw.mk
 (Kd.dp 3 [Value.slice none 0 0, Value.slice none 0 0, Value.bool false] es) [])], 167, [], []), [], [decide ((↑i : Int) < (↑n : Int)) = true, (0 : Int) ≤ (↑i : Int) ∧ (↑i : Int) < (↑n : Int), ShOb Try.prog 29 false true
 es (i * 3) 161, (0 : Int) ≤ (↑i : Int) ∧ (↑i : Int) < (↑n : Int), ShOb Try.prog 29 false true ds (i * 3) 163, dLen es (i * 3 + 0) ≤ List.length (dVals es (i * 3 + 0)), List.take (dLen es (i * 3 + 0)) (dVals es (i * 3 +
 0)) = List.map (Value.int IntKind.u8) (intsOf (List.take (dLen es (i * 3 + 0)) (dVals es (i * 3 + 0)))), dLen ds (i * 3 + 0) ≤ List.length (dVals ds (i * 3 + 0)), List.take (dLen ds (i * 3 + 0)) (dVals ds (i * 3 + 0)) =
 List.map (Value.int IntKind.u8) (intsOf (List.take (dLen ds (i * 3 + 0)) (dVals ds (i * 3 + 0)))), strEq (strOfI (intsOf (List.take (dLen es (i * 3 + 0)) (dVals es (i * 3 + 0))))) (strOfI (intsOf (List.take (dLen ds (i *
 3 + 0)) (dVals ds (i * 3 + 0))))) = true, dLen es (i * 3 + 1) ≤ List.length (dVals es (i * 3 + 1)), List.take (dLen es (i * 3 + 1)) (dVals es (i * 3 + 1)) = List.map (Value.int IntKind.u8) (intsOf (List.take (dLen es (i *
 3 + 1)) (dVals es (i * 3 + 1)))), dLen ds (i * 3 + 1) ≤ List.length (dVals ds (i * 3 + 1)), List.take (dLen ds (i * 3 + 1)) (dVals ds (i * 3 + 1)) = List.map (Value.int IntKind.u8) (intsOf (List.take (dLen ds (i * 3 + 1))
 (dVals ds (i * 3 + 1)))), strEq (strOfI (intsOf (List.take (dLen es (i * 3 + 1)) (dVals es (i * 3 + 1))))) (strOfI (intsOf (List.take (dLen ds (i * 3 + 1)) (dVals ds (i * 3 + 1))))) = true, (dBool es (i * 3 + 2) == dBool
 ds (i * 3 + 2)) = true, rg IntKind.i64 (↑(i + 1) : Int)]) := by kernel_rfl
theorem md_sp_end (inr : Bool) (n c i : Nat) (ds es : List DV) : prjP [] 161 (codeZ (mdV noL noTz) Try.prog (runZ (mdV noL noTz) Try.prog 9) 15 inr 100000 (bodyIn Try.prog 15 4) (SL 27 [(0, dpV n), (1, sdV n c), (5, iV i)]) (mdH ds es) 161 [false]) =
  Res.ok ((Xt.exit 0, 27, [], [(0, Rw.mk (Kd.sd ds) []), (80, Rw.mk (Kd.dp 3 [Value.slice none 0 0, Value.slice none 0 0, Value.bool false] es) [])], 161, [], []), [], [decide ((↑i : Int) < (↑n : Int)) = false]) := by kernel_rfl
theorem md_ck_ok (inr : Bool) (n c i : Nat) (ds es : List DV) : prjP [0, 3, 4] 101 (codeZ (mdV noL noTz) Try.prog (runZ (mdV noL noTz) Try.prog 9) 3 inr 100000 (bodyIn Try.prog 3 5) (SL 39 [(0, sdV n c), (3, dpV n), (4, iV i)]) (mdH ds es) 101 [true, false, false, false, false, false, false, false, false]) =
  Res.ok ((Xt.normal, 39, [(0, Value.slice (some (Addr.mk 0 0 none)) n c), (3, Value.slice (some (Addr.mk 80 0 none)) n (capBig + 80)), (4, Value.int IntKind.i64 (↑(i + 1) : Int))], [(0, Rw.mk (Kd.sd ds) []), (80, Rw.mk
 (Kd.dp 3 [Value.slice none 0 0, Value.slice none 0 0, Value.bool false] es) [])], 107, [], []), [], [decide ((↑i : Int) < (↑n : Int)) = true, (0 : Int) ≤ (↑i : Int) ∧ (↑i : Int) < (↑n : Int), ShOb Try.prog 29 false true
 es (i * 3) 101, decide ((↑(dLen es (i * 3 + 0)) : Int) < (1 : Int)) = false, decide ((↑(dLen es (i * 3 + 0)) : Int) > (32 : Int)) = false, decide ((↑(dLen es (i * 3 + 1)) : Int) > (128 : Int)) = false, dBool es (i * 3 +
 2) = false, (0 : Int) ≤ (↑i : Int) ∧ (↑i : Int) < (↑n : Int), ShOb Try.prog 29 false true ds (i * 3) 104, decide ((↑(dLen ds (i * 3 + 0)) : Int) < (1 : Int)) = false, decide ((↑(dLen ds (i * 3 + 0)) : Int) > (32 : Int)) =
 false, decide ((↑(dLen ds (i * 3 + 1)) : Int) > (128 : Int)) = false, dBool ds (i * 3 + 2) = false, rg IntKind.i64 (↑(i + 1) : Int)]) := by kernel_rfl
end Go.Proofs.Ytojakfnljopjbaa
/-
  Chapter 12: lists of pairs, told by what they hold.
-/
namespace Go.Proofs.Ytojakfnljopjbaa
set_option linter.unusedSimpArgs false
set_option linter.unusedVariables false
set_option linter.unusedSectionVars false
open Go Go.RowKit

/-- A pair: key, value, gone. -/
abbrev Pr : Type := List Int × List Int × Bool
def byD (l : List Int) : List DV := l.map fun x => .fl (.int .u8 x)
def byV (l : List Int) : List Value := l.map (Value.int .u8)
def prD (c1 c2 : Option Nat) (p : Pr) : List DV := [.sl p.1.length c1 (byD p.1), .sl p.2.1.length c2 (byD p.2.1), .fl (.bool p.2.2)]
def Prs : List DV → List Pr → Prop
  | ds, [] => ds = []
  | ds, p :: ps => ∃ c1 c2 r, ds = prD c1 c2 p ++ r ∧ Prs r ps
def PrOk (p : Pr) : Prop := (∀ x ∈ p.1, 0 ≤ x ∧ x < 256) ∧ ∀ x ∈ p.2.1, 0 ≤ x ∧ x < 256
theorem Prs.len : ∀ {ps : List Pr} {ds : List DV}, Prs ds ps → ds.length = ps.length * 3
  | [], ds, h => by rw [show ds = [] from h]; rfl
  | p :: ps, ds, h => by
      obtain ⟨c1, c2, r, rfl, hr⟩ := h
      rw [List.length_append, hr.len, List.length_cons]
      simp only [prD, List.length_cons, List.length_nil]
      omega
theorem Prs.at : ∀ {ps : List Pr} {ds : List DV} {i : Nat} {p : Pr}, Prs ds ps → ps[i]? = some p → ∃ c1 c2, ds[i * 3]? = some (.sl p.1.length c1 (byD p.1)) ∧ ds[i * 3 + 1]? = some (.sl p.2.1.length c2 (byD p.2.1)) ∧ ds[i * 3 + 2]? = some (.fl (.bool p.2.2))
  | [], ds, i, p, _, h => by simp at h
  | q :: ps, ds, 0, p, h, hp => by
      simp only [List.getElem?_cons_zero, Option.some.injEq] at hp
      subst hp
      obtain ⟨c1, c2, r, rfl, hr⟩ := h
      exact ⟨c1, c2, rfl, rfl, rfl⟩
  | q :: ps, ds, i + 1, p, h, hp => by
      obtain ⟨c1, c2, r, rfl, hr⟩ := h
      obtain ⟨d1, d2, g1, g2, g3⟩ := hr.at (by simpa using hp)
      have e : (prD c1 c2 q).length = 3 := rfl
      refine ⟨d1, d2, ?_, ?_, ?_⟩
      · rw [List.getElem?_append_right (by rw [e]; omega), e, show (i + 1) * 3 - 3 = i * 3 by omega]; exact g1
      · rw [List.getElem?_append_right (by rw [e]; omega), e, show (i + 1) * 3 + 1 - 3 = i * 3 + 1 by omega]; exact g2
      · rw [List.getElem?_append_right (by rw [e]; omega), e, show (i + 1) * 3 + 2 - 3 = i * 3 + 2 by omega]; exact g3
theorem Prs.snoc : ∀ {ps : List Pr} {ds : List DV} (c1 c2 : Option Nat) (p : Pr), Prs ds ps → Prs (ds ++ prD c1 c2 p) (ps ++ [p])
  | [], ds, c1, c2, p, h => by
      rw [show ds = [] from h]
      exact ⟨c1, c2, [], by simp, rfl⟩
  | q :: ps, ds, c1, c2, p, h => by
      obtain ⟨d1, d2, r, rfl, hr⟩ := h
      exact ⟨d1, d2, r ++ prD c1 c2 p, by rw [List.append_assoc], hr.snoc c1 c2 p⟩
theorem byD_val (l : List Int) : (byD l).map DV.val = byV l := by simp [byD, byV, DV.val]
theorem byV_fl (l : List Int) : (byV l).map DV.fl = byD l := by simp [byD, byV]
theorem byV_len (l : List Int) : (byV l).length = l.length := by simp [byV]
theorem byV_ints (l : List Int) : intsOf (byV l) = l := by
  unfold byV intsOf
  rw [List.map_map]
  exact (List.map_congr_left (g := id) fun x _ => rfl).trans (List.map_id l)
theorem byV_ren (l : List Int) (τ : Sg) : renL τ (byV l) = some (byV l) := Fl.ints .u8 l τ
theorem byV_bytI {l : List Int} (h : ∀ x ∈ l, 0 ≤ x ∧ x < 256) : BytI l.length (byV l) := ⟨by rw [byV_ints]; rfl, by rw [byV_ints]; exact h, byV_len l⟩
section
variable {ds : List DV} {o : Nat} {l : List Int} {c : Option Nat}
theorem sl_len (h : ds[o]? = some (.sl l.length c (byD l))) : dLen ds o = l.length := by unfold dLen; rw [h]
theorem sl_vals (h : ds[o]? = some (.sl l.length c (byD l))) : dVals ds o = byV l := by unfold dVals dSub; rw [h]; exact byD_val l
theorem sl_ok (h : ds[o]? = some (.sl l.length c (byD l))) : DSl ds o (dLen ds o) none ((dVals ds o).map DV.fl) := ⟨c, by rw [sl_len h, sl_vals h, byV_fl]; exact h, .inl rfl⟩
theorem bo_ok {b : Bool} (h : ds[o]? = some (.fl (.bool b))) : dBool ds o = b := by unfold dBool; rw [h]
end
/-- What loads of a pair, or of a part of it, ask for. -/
theorem ob29 (ds : List DV) (o nx : Nat) : ShOb Try.prog 29 false true ds o nx = Alls [DSl ds (o + 0) (dLen ds (o + 0)) none ((dVals ds (o + 0)).map DV.fl), DSl ds (o + 1) (dLen ds (o + 1)) none ((dVals ds (o + 1)).map DV.fl), ds[o + 2]? = some (.fl (.bool (dBool ds (o + 2))))] := by kernel_rfl
theorem ob27 (ds : List DV) (o nx : Nat) : ShOb Try.prog 27 false true ds o nx = Alls [DSl ds (o + 0) (dLen ds (o + 0)) none ((dVals ds (o + 0)).map DV.fl)] := by kernel_rfl
theorem ob4 (ds : List DV) (o nx : Nat) : ShOb Try.prog 4 false true ds o nx = Alls [ds[o + 0]? = some (.fl (.bool (dBool ds (o + 0))))] := by kernel_rfl
/-- All facts about one pair. -/
structure PrAt (ds : List DV) (i : Nat) (p : Pr) : Prop where
  l0 : dLen ds (i * 3) = p.1.length
  l1 : dLen ds (i * 3 + 1) = p.2.1.length
  v0 : dVals ds (i * 3) = byV p.1
  v1 : dVals ds (i * 3 + 1) = byV p.2.1
  g : dBool ds (i * 3 + 2) = p.2.2
  o29 : ∀ nx, ShOb Try.prog 29 false true ds (i * 3) nx
  o27 : ∀ nx, ShOb Try.prog 27 false true ds (i * 3) nx
  o27' : ∀ nx, ShOb Try.prog 27 false true ds (i * 3 + 1) nx
  o4 : ∀ nx, ShOb Try.prog 4 false true ds (i * 3 + 2) nx
theorem Prs.facts {ds : List DV} {ps : List Pr} {i : Nat} {p : Pr} (h : Prs ds ps) (hp : ps[i]? = some p) : PrAt ds i p := by
  obtain ⟨c1, c2, g1, g2, g3⟩ := h.at hp
  have e3 := bo_ok g3
  refine ⟨sl_len g1, sl_len g2, sl_vals g1, sl_vals g2, e3, fun nx => ?_, fun nx => ?_, fun nx => ?_, fun nx => ?_⟩
  · rw [ob29]
    exact ⟨sl_ok g1, sl_ok g2, by rw [e3]; exact g3, trivial⟩
  · rw [ob27]; exact ⟨sl_ok g1, trivial⟩
  · rw [ob27]; exact ⟨sl_ok g2, trivial⟩
  · rw [ob4]; exact ⟨by simp only [Nat.add_zero]; rw [e3]; exact g3, trivial⟩
end Go.Proofs.Ytojakfnljopjbaa
/-
  Chapter 12: the statement MemtableChecks: its loops.
-/
namespace Go.Proofs.Ytojakfnljopjbaa
set_option linter.unusedSimpArgs false
set_option linter.unusedVariables false
set_option linter.unusedSectionVars false
open Go Go.RowKit

theorem mdX : XOkZ (mdV noL noTz) Try.prog := XOneZ.ok cmpY_ok rfl
theorem mdT : TOkZ (mdV noL noTz) Try.prog := noTz_okV rfl
theorem mdL : LOkZ (mdV noL noTz) Try.prog := noL_okV rfl
theorem sd_row {lo N : Nat} {ρ : Nat → Nat} {h0 h1 : Hp} {n m : Nat} {ds : List DV} (hn : fnN lo N ρ n = some m) (hl : lk h1 m = some ⟨.sd ds, []⟩) : RbRow lo N ρ h0 h1 n ⟨.sd ds, []⟩ := rb_rec hn hl trivial
theorem dp_row {lo N : Nat} {ρ : Nat → Nat} {h0 h1 : Hp} {n m sz : Nat} {z : List Value} {ds : List DV} (hn : fnN lo N ρ n = some m) (hl : lk h1 m = some ⟨.dp sz z ds, []⟩) : RbRow lo N ρ h0 h1 n ⟨.dp sz z ds, []⟩ := rb_rec hn hl trivial
/-- A pair with more than is gone through. -/
def big (p : Pr) : Bool := decide (200 < p.1.length) || decide (200 < p.2.1.length)
theorem lp_loop {inr : Bool} {h0 : Hp} {ds : List DV} {ps : List Pr} {n c : Nat} (hP : Prs ds ps) (hn : ps.length = n) (hn9 : n ≤ 100) (hc : c ≤ 9223372036854775807) : ∀ (r i : Nat), i + r = n →
    LRuns inr Try.prog (bodyIn Try.prog 9 4) 1 20 h0 32 [(0, sdV n c), (5, iV i)] [(0, ⟨.sd ds, []⟩)] 2
      (bif (ps.drop i).any big then (.ret, [(4, .bool true)], [(0, ⟨.sd ds, []⟩)]) else (.exit 0, [], [(0, ⟨.sd ds, []⟩)]))
  | 0, i, hr => by
      rw [List.drop_of_length_le (by omega)]
      refine LRuns.exit (code_runsP mdX mdL (runZ_ok mdX mdT mdL mixed 9) mixed (md_lp_end inr n c i ds []) ?_) (by intro e; cases e) rfl (by omega) (by omega) (fun n => n) ?_ ?_ rfl
      · simp only [Alls, decide_eq_false_iff_not]
        exact ⟨by omega, trivial⟩
      · trivial
      · exact ⟨sd_row rfl rfl, trivial⟩
  | r + 1, i, hr => by
      have hcc : c < capBig := by unfold capBig; omega
      have hi : i < ps.length := by omega
      have F := hP.facts (List.getElem?_eq_getElem hi)
      obtain ⟨p, hp⟩ : ∃ p, ps[i] = p := ⟨_, rfl⟩
      rw [hp] at F
      have hd : ps.drop i = p :: ps.drop (i + 1) := by rw [List.drop_eq_getElem_cons hi, hp]
      have f0 := F.l0
      have f1 := F.l1
      have o1 := F.o27 2
      have o2 := F.o27' 3
      rw [hd, List.any_cons]
      by_cases h1 : 200 < p.1.length
      · have e : big p = true := by simp [big, h1]
        rw [e, Bool.true_or]
        refine LRuns.exit (code_runsP mdX mdL (runZ_ok mdX mdT mdL mixed 9) mixed (md_lp_a inr n c i ds []) ?_) (by intro e; cases e) rfl (by omega) (by omega) (fun n => n) ?_ ?_ rfl
        ·
          simp only [Alls, rg, decide_eq_true_eq, decide_eq_false_iff_not, Nat.add_zero]
          repeat' (with_reducible apply And.intro)
          all_goals first | omega | (with_reducible assumption) | (with_reducible exact trivial) | (skip)
        · exact ⟨rfl, rfl, trivial⟩
        · exact ⟨sd_row rfl rfl, trivial⟩
      by_cases h2 : 200 < p.2.1.length
      · have e : big p = true := by simp [big, h2]
        rw [e, Bool.true_or]
        refine LRuns.exit (code_runsP mdX mdL (runZ_ok mdX mdT mdL mixed 9) mixed (md_lp_b inr n c i ds []) ?_) (by intro e; cases e) rfl (by omega) (by omega) (fun n => n) ?_ ?_ rfl
        ·
          simp only [Alls, rg, decide_eq_true_eq, decide_eq_false_iff_not, Nat.add_zero]
          repeat' (with_reducible apply And.intro)
          all_goals first | omega | (with_reducible assumption) | (with_reducible exact trivial) | (skip)
        · exact ⟨rfl, rfl, trivial⟩
        · exact ⟨sd_row rfl rfl, trivial⟩
      · have e : big p = false := by simp [big, h1, h2]
        rw [e, Bool.false_or]
        refine LRuns.step (code_runsP mdX mdL (runZ_ok mdX mdT mdL mixed 9) mixed (md_lp_go inr n c i ds []) ?_) rfl (by omega) (by omega) (fun n => n) ?_ ?_ rfl (lp_loop hP hn hn9 hc r (i + 1) (by omega))
        ·
          simp only [Alls, rg, decide_eq_true_eq, decide_eq_false_iff_not, Nat.add_zero]
          repeat' (with_reducible apply And.intro)
          all_goals first | omega | (with_reducible assumption) | (with_reducible exact trivial) | (skip)
        · exact ⟨rfl, rb_slc rfl hcc, rfl, rfl, trivial⟩
        · exact ⟨sd_row rfl rfl, trivial⟩
end Go.Proofs.Ytojakfnljopjbaa
/-
  Chapter 12: the statement MemtableChecks: copies of pairs.
-/
namespace Go.Proofs.Ytojakfnljopjbaa
set_option linter.unusedSimpArgs false
set_option linter.unusedVariables false
set_option linter.unusedSectionVars false
open Go Go.RowKit
theorem md_cp_first (inr : Bool) (n c : Nat) (ds : List DV) : prjP [0, 3, 4] 81 (codeZ (mdV noL noTz) Try.prog (runZ (mdV noL noTz) Try.prog 9) 10 inr 100000 (bodyIn Try.prog 10 3) (SL 33 [(0, sdV n c), (3, .slice none 0 0), (4, iV 0)]) [(0, ⟨.sd ds, []⟩)] 81 [true]) =
  Res.ok ((Xt.normal, 33, [(0, Value.slice (some (Addr.mk 0 0 none)) n c), (3, Value.slice (some (Addr.mk 91 0 none)) 1 (capBig + 91)), (4, Value.int IntKind.i64 (1 : Int))], [(0, Rw.mk (Kd.sd ds) []), (91, Rw.mk (Kd.dp 3
 [Value.slice none 0 0, Value.slice none 0 0, Value.bool false] [DV.sl (dLen ds 0) none (List.map DV.fl (List.take (dLen ds 0) (dVals ds 0))), DV.sl (dLen ds 1) none (List.map DV.fl (List.take (dLen ds 1) (dVals ds 1))),
 DV.fl (Value.bool (dBool ds 2))]) [])], 92, [], []), [], [decide ((0 : Int) < (↑n : Int)) = true, (0 : Int) ≤ (0 : Int) ∧ (0 : Int) < (↑n : Int), ShOb Try.prog 27 false true ds 0 81, dLen ds 0 * 1 ≤ 140737488355328 ∧ dLen
 ds 0 ≤ 9223372036854775807, List.length (List.take (dLen ds 0) (dVals ds 0)) = dLen ds 0 * 1, ∀ (τ : Sg), renL τ (List.take (dLen ds 0) (dVals ds 0)) = some (List.take (dLen ds 0) (dVals ds 0)), dLen ds 0 ≤ List.length
 (dVals ds 0), all1 (List.take (dLen ds 0) (dVals ds 0)) = true, (0 : Int) ≤ (0 : Int) ∧ (0 : Int) < (↑n : Int), ShOb Try.prog 27 false true ds 1 85, dLen ds 1 * 1 ≤ 140737488355328 ∧ dLen ds 1 ≤ 9223372036854775807,
 List.length (List.take (dLen ds 1) (dVals ds 1)) = dLen ds 1 * 1, ∀ (τ : Sg), renL τ (List.take (dLen ds 1) (dVals ds 1)) = some (List.take (dLen ds 1) (dVals ds 1)), dLen ds 1 ≤ List.length (dVals ds 1), all1 (List.take
 (dLen ds 1) (dVals ds 1)) = true, (0 : Int) ≤ (0 : Int) ∧ (0 : Int) < (↑n : Int), ShOb Try.prog 4 false true ds 2 89, 56 ≤ 140737488355328, (∀ (τ : Sg), renL τ (List.take (dLen ds 0) (dVals ds 0)) = some (List.take (dLen
 ds 0) (dVals ds 0))) ∧ (dLen ds (ixO 0 (Int.toNat (↑0 : Int)) (TypeInfo.size (Tables.types (Program.toTables Try.prog))[29]) + Field.offset #[Field.mk "Key" 27 0 false "" "" 0, Field.mk "Value" 27 1 false "" "" 24,
 Field.mk "Gone" 4 2 false "" "" 48][0] + 0) = 0 → List.take (dLen ds 0) (dVals ds 0) = []), (∀ (τ : Sg), renL τ (List.take (dLen ds 1) (dVals ds 1)) = some (List.take (dLen ds 1) (dVals ds 1))) ∧ (dLen ds (ixO 0
 (Int.toNat (↑0 : Int)) (TypeInfo.size (Tables.types (Program.toTables Try.prog))[29]) + Field.offset #[Field.mk "Key" 27 0 false "" "" 0, Field.mk "Value" 27 1 false "" "" 24, Field.mk "Gone" 4 2 false "" "" 48][1] + 0) =
 0 → List.take (dLen ds 1) (dVals ds 1) = []), 3 ≤ 3, true = true, rg IntKind.i64 (1 : Int)]) := by kernel_rfl
theorem md_cp_more (inr : Bool) (n c i : Nat) (ds es : List DV) : prjP [0, 3, 4] 81 (codeZ (mdV noL noTz) Try.prog (runZ (mdV noL noTz) Try.prog 9) 10 inr 100000 (bodyIn Try.prog 10 3) (SL 33 [(0, sdV n c), (3, dpV i), (4, iV i)]) (mdH ds es) 81 [true]) =
  Res.ok ((Xt.normal, 33, [(0, Value.slice (some (Addr.mk 0 0 none)) n c), (3, Value.slice (some (Addr.mk 91 0 none)) (i + 1) (capBig + 91)), (4, Value.int IntKind.i64 (↑(i + 1) : Int))], [(0, Rw.mk (Kd.sd ds) []), (91,
 Rw.mk (Kd.dp 3 [Value.slice none 0 0, Value.slice none 0 0, Value.bool false] (es ++ [DV.sl (dLen ds (i * 3 + 0 + 0)) none (List.map DV.fl (List.take (dLen ds (i * 3 + 0 + 0)) (dVals ds (i * 3 + 0 + 0)))), DV.sl (dLen ds
 (i * 3 + 1 + 0)) none (List.map DV.fl (List.take (dLen ds (i * 3 + 1 + 0)) (dVals ds (i * 3 + 1 + 0)))), DV.fl (Value.bool (dBool ds (i * 3 + 2 + 0)))])) [])], 92, [80], []), [], [decide ((↑i : Int) < (↑n : Int)) = true,
 (0 : Int) ≤ (↑i : Int) ∧ (↑i : Int) < (↑n : Int), ShOb Try.prog 27 false true ds (i * 3 + 0) 81, dLen ds (i * 3 + 0 + 0) * 1 ≤ 140737488355328 ∧ dLen ds (i * 3 + 0 + 0) ≤ 9223372036854775807, List.length (List.take (dLen
 ds (i * 3 + 0 + 0)) (dVals ds (i * 3 + 0 + 0))) = dLen ds (i * 3 + 0 + 0) * 1, ∀ (τ : Sg), renL τ (List.take (dLen ds (i * 3 + 0 + 0)) (dVals ds (i * 3 + 0 + 0))) = some (List.take (dLen ds (i * 3 + 0 + 0)) (dVals ds (i *
 3 + 0 + 0))), dLen ds (i * 3 + 0 + 0) ≤ List.length (dVals ds (i * 3 + 0 + 0)), all1 (List.take (dLen ds (i * 3 + 0 + 0)) (dVals ds (i * 3 + 0 + 0))) = true, (0 : Int) ≤ (↑i : Int) ∧ (↑i : Int) < (↑n : Int), ShOb Try.prog
 27 false true ds (i * 3 + 1) 85, dLen ds (i * 3 + 1 + 0) * 1 ≤ 140737488355328 ∧ dLen ds (i * 3 + 1 + 0) ≤ 9223372036854775807, List.length (List.take (dLen ds (i * 3 + 1 + 0)) (dVals ds (i * 3 + 1 + 0))) = dLen ds (i * 3
 + 1 + 0) * 1, ∀ (τ : Sg), renL τ (List.take (dLen ds (i * 3 + 1 + 0)) (dVals ds (i * 3 + 1 + 0))) = some (List.take (dLen ds (i * 3 + 1 + 0)) (dVals ds (i * 3 + 1 + 0))), dLen ds (i * 3 + 1 + 0) ≤ List.length (dVals ds (i
 * 3 + 1 + 0)), all1 (List.take (dLen ds (i * 3 + 1 + 0)) (dVals ds (i * 3 + 1 + 0))) = true, (0 : Int) ≤ (↑i : Int) ∧ (↑i : Int) < (↑n : Int), ShOb Try.prog 4 false true ds (i * 3 + 2) 89, capBig + 80 = capBig + 80 ∧
 List.length es = i * 3, (i + 1) * 56 ≤ 140737488355328 ∧ i + 1 ≤ 9223372036854775807, (∀ (τ : Sg), renL τ (List.take (dLen ds (i * 3 + 0 + 0)) (dVals ds (i * 3 + 0 + 0))) = some (List.take (dLen ds (i * 3 + 0 + 0)) (dVals
 ds (i * 3 + 0 + 0)))) ∧ (dLen ds (ixO 0 (Int.toNat (↑i : Int)) (TypeInfo.size (Tables.types (Program.toTables Try.prog))[29]) + Field.offset #[Field.mk "Key" 27 0 false "" "" 0, Field.mk "Value" 27 1 false "" "" 24,
 Field.mk "Gone" 4 2 false "" "" 48][0] + 0) = 0 → List.take (dLen ds (i * 3 + 0 + 0)) (dVals ds (i * 3 + 0 + 0)) = []), (∀ (τ : Sg), renL τ (List.take (dLen ds (i * 3 + 1 + 0)) (dVals ds (i * 3 + 1 + 0))) = some
 (List.take (dLen ds (i * 3 + 1 + 0)) (dVals ds (i * 3 + 1 + 0)))) ∧ (dLen ds (ixO 0 (Int.toNat (↑i : Int)) (TypeInfo.size (Tables.types (Program.toTables Try.prog))[29]) + Field.offset #[Field.mk "Key" 27 0 false "" "" 0,
 Field.mk "Value" 27 1 false "" "" 24, Field.mk "Gone" 4 2 false "" "" 48][1] + 0) = 0 → List.take (dLen ds (i * 3 + 1 + 0)) (dVals ds (i * 3 + 1 + 0)) = []), 3 ≤ 3, true = true, rg IntKind.i64 (↑(i + 1) : Int)]) := by kernel_rfl
theorem md_cp_end (inr : Bool) (n c i : Nat) (ds es : List DV) : prjP [3] 81 (codeZ (mdV noL noTz) Try.prog (runZ (mdV noL noTz) Try.prog 9) 10 inr 100000 (bodyIn Try.prog 10 3) (SL 33 [(0, sdV n c), (3, dpV i), (4, iV i)]) (mdH ds es) 81 [false]) =
  Res.ok ((Xt.exit 0, 33, [(3, Value.slice (some (Addr.mk 80 0 none)) i (capBig + 80))], [(0, Rw.mk (Kd.sd ds) []), (80, Rw.mk (Kd.dp 3 [Value.slice none 0 0, Value.slice none 0 0, Value.bool false] es) [])], 81, [], []),
 [], [decide ((↑i : Int) < (↑n : Int)) = false]) := by kernel_rfl
def cpD (ps : List Pr) : List DV := ps.flatMap (prD none none)
theorem cpD_prs : ∀ ps : List Pr, Prs (cpD ps) ps
  | [] => rfl
  | p :: ps => ⟨none, none, cpD ps, rfl, cpD_prs ps⟩
theorem cpD_snoc (ps : List Pr) (p : Pr) : cpD (ps ++ [p]) = cpD ps ++ prD none none p := by simp [cpD]
theorem cp_cell {ds : List DV} {o : Nat} {l : List Int} (h1 : dLen ds o = l.length) (h2 : dVals ds o = byV l) : List.take (dLen ds o) (dVals ds o) = byV l := by
  rw [h1, h2, List.take_of_length_le (by rw [byV_len]; omega)]
theorem cp_loop {inr : Bool} {h0 : Hp} {ds : List DV} {ps : List Pr} {n c : Nat} (hP : Prs ds ps) (hn : ps.length = n) (hn9 : n ≤ 100) (hc : c ≤ 9223372036854775807) (hb : ∀ p ∈ ps, p.1.length ≤ 200 ∧ p.2.1.length ≤ 200) : ∀ (r i : Nat), i + r = n → 0 < i →
    LRuns inr Try.prog (bodyIn Try.prog 10 3) 20 100 h0 33 [(0, sdV n c), (3, dpV i), (4, iV i)] (mdH ds (cpD (ps.take i))) 81 (.exit 0, [(3, dpV n)], mdH ds (cpD ps))
  | 0, i, hr, h9 => by
      obtain rfl : i = n := by omega
      rw [List.take_of_length_le (by omega)]
      refine LRuns.exit (code_runsP mdX mdL (runZ_ok mdX mdT mdL mixed 9) mixed (md_cp_end inr i c i ds (cpD ps)) ?_) (by intro e; cases e) rfl (by omega) (by omega) (fun n => n) ?_ ?_ rfl
      · simp only [Alls, decide_eq_false_iff_not]
        exact ⟨by omega, trivial⟩
      · exact ⟨rfl, rb_slg rfl rfl, trivial⟩
      · exact ⟨sd_row rfl rfl, dp_row rfl rfl, trivial⟩
  | r + 1, i, hr, h9 => by
      have hcc : c < capBig := by unfold capBig; omega
      have hi : i < ps.length := by omega
      have F := hP.facts (List.getElem?_eq_getElem hi)
      obtain ⟨p, hp⟩ : ∃ p, ps[i] = p := ⟨_, rfl⟩
      rw [hp] at F
      have hb1 := hb p (by rw [← hp]; exact List.getElem_mem hi)
      have c0 := cp_cell F.l0 F.v0
      have c1 := cp_cell F.l1 F.v1
      have f0 := F.l0
      have f1 := F.l1
      have v0 := F.v0
      have v1 := F.v1
      have o1 := F.o27 81
      have o2 := F.o27' 85
      have o3 := F.o4 89
      have hl0 := byV_len p.1
      have hl1 := byV_len p.2.1
      have t0 : List.take p.1.length (byV p.1) = byV p.1 := List.take_of_length_le (by omega)
      have t1 : List.take p.2.1.length (byV p.2.1) = byV p.2.1 := List.take_of_length_le (by omega)
      have r0 := byV_ren p.1
      have r1 := byV_ren p.2.1
      have a0 : all1 (byV p.1) = true := all1_map p.1
      have a1 : all1 (byV p.2.1) = true := all1_map p.2.1
      have hlen := (cpD_prs (ps.take i)).len
      rw [List.length_take, Nat.min_eq_left (by omega)] at hlen
      have z0 : p.1.length = 0 → byV p.1 = [] := fun e => List.eq_nil_of_length_eq_zero (by omega)
      have z1 : p.2.1.length = 0 → byV p.2.1 = [] := fun e => List.eq_nil_of_length_eq_zero (by omega)
      have ht : ps.take (i + 1) = ps.take i ++ [p] := by rw [List.take_succ_eq_append_getElem hi, hp]
      have nx := cp_loop (inr := inr) (h0 := h0) hP hn hn9 hc hb r (i + 1) (by omega) (by omega)
      refine LRuns.step (code_runsP mdX mdL (runZ_ok mdX mdT mdL mixed 9) mixed (md_cp_more inr n c i ds (cpD (ps.take i))) ?_) rfl (by omega) (by omega) (fun _ => 91) ?_ ?_ rfl nx
      · simp only [Alls, rg, decide_eq_true_eq, decide_eq_false_iff_not, Nat.add_zero, f0, f1, v0, v1, t0, t1, Nat.mul_one]
        repeat' (with_reducible apply And.intro)
        all_goals first | omega | (with_reducible assumption) | (with_reducible exact trivial) | exact fun e => z0 (f0.symm.trans e) | exact fun e => z1 (f1.symm.trans e) | skip
      · exact ⟨rfl, rb_slc rfl hcc, rfl, rb_slg rfl rfl, rfl, rfl, trivial⟩
      · refine ⟨sd_row rfl rfl, dp_row (m := 91) rfl ?_, trivial⟩
        have e : ∀ X : List DV, X = cpD (ps.take (i + 1)) → some (Rw.mk (.dp 3 zPr X) []) = some (Rw.mk (.dp 3 zPr (cpD (ps.take (i + 1)))) []) := fun X hX => by rw [hX]
        refine e _ ?_
        rw [ht, cpD_snoc]
        congr 1
        simp only [Nat.add_zero, f0, f1, v0, v1, t0, t1, F.g, byV_fl]
        rfl
theorem cp_all {inr : Bool} {h0 : Hp} {ds : List DV} {ps : List Pr} {n c : Nat} (hP : Prs ds ps) (hn : ps.length = n) (h1 : 0 < n) (hn9 : n ≤ 100) (hc : c ≤ 9223372036854775807) (hb : ∀ p ∈ ps, p.1.length ≤ 200 ∧ p.2.1.length ≤ 200) :
    LRuns inr Try.prog (bodyIn Try.prog 10 3) 20 100 h0 33 [(0, sdV n c), (3, .slice none 0 0), (4, iV 0)] [(0, ⟨.sd ds, []⟩)] 81 (.exit 0, [(3, dpV n)], mdH ds (cpD ps)) := by
  have hcc : c < capBig := by unfold capBig; omega
  have hi : 0 < ps.length := by omega
  have F := hP.facts (List.getElem?_eq_getElem hi)
  obtain ⟨p, hp⟩ : ∃ p, ps[0] = p := ⟨_, rfl⟩
  rw [hp] at F
  have hb1 := hb p (by rw [← hp]; exact List.getElem_mem hi)
  have f0 : dLen ds 0 = p.1.length := F.l0
  have f1 : dLen ds 1 = p.2.1.length := F.l1
  have v0 : dVals ds 0 = byV p.1 := F.v0
  have v1 : dVals ds 1 = byV p.2.1 := F.v1
  have g2 : dBool ds 2 = p.2.2 := F.g
  have o1 : ShOb Try.prog 27 false true ds 0 81 := F.o27 81
  have o2 : ShOb Try.prog 27 false true ds 1 85 := F.o27' 85
  have o3 : ShOb Try.prog 4 false true ds 2 89 := F.o4 89
  have hl0 := byV_len p.1
  have hl1 := byV_len p.2.1
  have t0 : List.take p.1.length (byV p.1) = byV p.1 := List.take_of_length_le (by omega)
  have t1 : List.take p.2.1.length (byV p.2.1) = byV p.2.1 := List.take_of_length_le (by omega)
  have r0 := byV_ren p.1
  have r1 := byV_ren p.2.1
  have a0 : all1 (byV p.1) = true := all1_map p.1
  have a1 : all1 (byV p.2.1) = true := all1_map p.2.1
  have z0 : p.1.length = 0 → byV p.1 = [] := fun e => List.eq_nil_of_length_eq_zero (by omega)
  have z1 : p.2.1.length = 0 → byV p.2.1 = [] := fun e => List.eq_nil_of_length_eq_zero (by omega)
  have ht : ps.take 1 = [p] := by
    cases ps with
    | nil => simp at hi
    | cons q ps => simp only [List.getElem_cons_zero] at hp; subst hp; rfl
  have nx := cp_loop (inr := inr) (h0 := h0) hP hn hn9 hc hb (n - 1) 1 (by omega) (by omega)
  rw [ht] at nx
  refine LRuns.step (code_runsP mdX mdL (runZ_ok mdX mdT mdL mixed 9) mixed (md_cp_first inr n c ds) ?_) rfl (by omega) (by omega) (fun _ => 91) ?_ ?_ rfl nx
  · simp only [Alls, rg, decide_eq_true_eq, decide_eq_false_iff_not, Nat.add_zero, f0, f1, v0, v1, t0, t1, Nat.mul_one]
    repeat' (with_reducible apply And.intro)
    all_goals first | omega | (with_reducible assumption) | (with_reducible exact trivial) | exact fun e => z0 (f0.symm.trans e) | exact fun e => z1 (f1.symm.trans e) | skip
  · exact ⟨rfl, rb_slc rfl hcc, rfl, rb_slg rfl rfl, rfl, rfl, trivial⟩
  · refine ⟨sd_row rfl rfl, dp_row (m := 91) rfl ?_, trivial⟩
    have e : ∀ X : List DV, X = cpD [p] → some (Rw.mk (.dp 3 zPr X) []) = some (Rw.mk (.dp 3 zPr (cpD [p])) []) := fun X hX => by rw [hX]
    refine e _ ?_
    simp only [f0, f1, v0, v1, t0, t1, g2, byV_fl]
    rfl
end Go.Proofs.Ytojakfnljopjbaa
/-
  Chapter 12: the statement MemtableChecks: SamePairs; both Sorted.
-/
namespace Go.Proofs.Ytojakfnljopjbaa
set_option linter.unusedSimpArgs false
set_option linter.unusedVariables false
set_option linter.unusedSectionVars false
open Go Go.RowKit
theorem strEq_self (s : ByteArray) : strEq s s = true := by unfold strEq; exact beq_self_eq_true _
theorem sp_loop {inr : Bool} {h0 : Hp} {ds es : List DV} {ps : List Pr} {n c : Nat} (hP : Prs ds ps) (hE : Prs es ps) (hn : ps.length = n) (hn9 : n ≤ 100) (hc : c ≤ 9223372036854775807) : ∀ (r i : Nat), i + r = n →
    LRuns inr Try.prog (bodyIn Try.prog 15 4) 160 180 h0 27 [(0, dpV n), (1, sdV n c), (5, iV i)] (mdH ds es) 161 (.exit 0, [], mdH ds es)
  | 0, i, hr => by
      refine LRuns.exit (code_runsP mdX mdL (runZ_ok mdX mdT mdL mixed 9) mixed (md_sp_end inr n c i ds es) ?_) (by intro e; cases e) rfl (by omega) (by omega) (fun n => n) ?_ ?_ rfl
      · simp only [Alls, decide_eq_false_iff_not]
        exact ⟨by omega, trivial⟩
      · trivial
      · exact ⟨sd_row rfl rfl, dp_row (m := 80) rfl rfl, trivial⟩
  | r + 1, i, hr => by
      have hcc : c < capBig := by unfold capBig; omega
      have hi : i < ps.length := by omega
      have F := hP.facts (List.getElem?_eq_getElem hi)
      have G := hE.facts (List.getElem?_eq_getElem hi)
      obtain ⟨p, hp⟩ : ∃ p, ps[i] = p := ⟨_, rfl⟩
      rw [hp] at F G
      have f0 := F.l0
      have f1 := F.l1
      have v0 := F.v0
      have v1 := F.v1
      have f0' := G.l0
      have f1' := G.l1
      have v0' := G.v0
      have v1' := G.v1
      have g1 := F.g
      have g2 := G.g
      have o1 := G.o29 161
      have o2 := F.o29 163
      have hl0 := byV_len p.1
      have hl1 := byV_len p.2.1
      have t0 : List.take p.1.length (byV p.1) = byV p.1 := List.take_of_length_le (by omega)
      have t1 : List.take p.2.1.length (byV p.2.1) = byV p.2.1 := List.take_of_length_le (by omega)
      have i0 := byV_ints p.1
      have i1 := byV_ints p.2.1
      refine LRuns.step (code_runsP mdX mdL (runZ_ok mdX mdT mdL mixed 9) mixed (md_sp_go inr n c i ds es) ?_) rfl (by omega) (by omega) (fun n => n) ?_ ?_ rfl (sp_loop hP hE hn hn9 hc r (i + 1) (by omega))
      · simp only [Alls, rg, decide_eq_true_eq, decide_eq_false_iff_not, Nat.add_zero, f0, f1, v0, v1, f0', f1', v0', v1', t0, t1, i0, i1, g1, g2, strEq_self, beq_self_eq_true]
        repeat' (with_reducible apply And.intro)
        all_goals first | omega | (with_reducible assumption) | (with_reducible exact trivial) | (with_reducible rfl) | exact rfl | skip
      · exact ⟨rfl, rb_slg rfl rfl, rfl, rb_slc rfl hcc, rfl, rfl, trivial⟩
      · exact ⟨sd_row rfl rfl, dp_row (m := 80) rfl rfl, trivial⟩
end Go.Proofs.Ytojakfnljopjbaa
/-
  Chapter 12: the statement MemtableChecks: keys compared, in two ways.
-/
namespace Go.Proofs.Ytojakfnljopjbaa
set_option linter.unusedSimpArgs false
set_option linter.unusedVariables false
set_option linter.unusedSectionVars false
open Go Go.RowKit
theorem cmp_less : ∀ (l m : List Int), (∀ x ∈ l, 0 ≤ x ∧ x < 256) → (∀ x ∈ m, 0 ≤ x ∧ x < 256) → Op.bytesLess (l.map fun n => UInt8.ofNat n.toNat) (m.map fun n => UInt8.ofNat n.toNat) = !decide (cmpI l m ≥ 0)
  | [], [], _, _ => rfl
  | [], _ :: _, _, _ => rfl
  | _ :: _, [], _, _ => rfl
  | a :: l, b :: m, hl, hm => by
      have ih := cmp_less l m (fun x h => hl x (by simp [h])) (fun x h => hm x (by simp [h]))
      have ha := hl a (by simp)
      have hb := hm b (by simp)
      have h1 := u8_lt ha hb
      have e : (UInt8.ofNat a.toNat == UInt8.ofNat b.toNat) = decide (a = b) := by
        have h2 := u8_lt hb ha
        have : (UInt8.ofNat a.toNat = UInt8.ofNat b.toNat) ↔ a = b := by
          constructor
          · intro e
            have h3 : ¬ (a < b) := by rw [← h1]; show ¬ (UInt8.ofNat a.toNat < UInt8.ofNat b.toNat); rw [e]; exact fun h => absurd (UInt8.lt_iff_toNat_lt.1 h) (Nat.lt_irrefl _)
            have h4 : ¬ (b < a) := by rw [← h2]; show ¬ (UInt8.ofNat b.toNat < UInt8.ofNat a.toNat); rw [e]; exact fun h => absurd (UInt8.lt_iff_toNat_lt.1 h) (Nat.lt_irrefl _)
            omega
          · intro e; rw [e]
        by_cases h : a = b
        · simp [h]
        · have h' : ¬ (UInt8.ofNat a.toNat = UInt8.ofNat b.toNat) := fun e => h (this.1 e)
          simp [h, h']
      have h1' : (UInt8.ofNat a.toNat < UInt8.ofNat b.toNat) = (a < b) := h1
      simp only [List.map_cons, Op.bytesLess, cmpI, e, h1', ih]
      by_cases h2 : a < b
      · simp [h2]
      · by_cases h3 : b < a
        · have : ¬ a = b := by omega
          simp [h2, h3, this]
        · have : a = b := by omega
          simp [h2, h3, this]
/-- Keys rise. -/
def asc : List Pr → Bool
  | p :: q :: l => !decide (cmpI p.1 q.1 ≥ 0) && asc (q :: l)
  | _ => true
end Go.Proofs.Ytojakfnljopjbaa
