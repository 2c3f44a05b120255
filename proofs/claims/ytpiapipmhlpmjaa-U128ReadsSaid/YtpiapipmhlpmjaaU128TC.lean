/-
  Chapter 01: a number's digits: rounds of the program's function and of the document's.
-/
import Derived.Test.YtpiapipmhlpmjaaU128TB
namespace Go.Proofs.Ytpiapipmhlpmjaa
set_option linter.unusedSimpArgs false
set_option linter.unusedVariables false
set_option linter.unusedSectionVars false
open Go Go.RowKit

def txT : TFun := orTz (mkT 46 [.f, .f, .f] gDiv) (mkT 47 [.f] gTen)
theorem txT_one : TOneZ Try.prog txT := orTz_ok (mkT_one dv_gok) (mkT_one te_gok)
def txV (L : LFun) : Tv := ⟨txT, noXz, L, fun f => bif Nat.beq f 36 then [35] else bif Nat.beq f 37 then [19] else [], orSy (lsSy 36 [(11, 0), (14, 0), (23, 0), (26, 0), (27, 0), (28, 0), (100028, 0), (37, 0), (38, 0)]) (lsSy 37 [(13, 0), (14, 0), (16, 0)]), fun _ => [], fun _ => 0⟩
def tiB (P : Program) : Code := bodyIn P 36 3
def ttB (P : Program) : Code := bodyIn P 37 2
def hlR (h l : Int) : Rw := ⟨.shut, [.int .u64 h, .int .u64 l]⟩
def tiS (p : Nat) : List (Nat × Value) := [(1, .pointer (some ⟨1, 0, none⟩)), (3, .pointer (some ⟨2, 0, none⟩)), (4, .int .i64 (p : Int))]
def ttS (s : ByteArray) : List (Nat × Value) := [(1, .pointer (some ⟨1, 0, none⟩)), (3, .string s)]
theorem ti_more (inr : Bool) (h l : Int) (R : List Value) (p : Nat) : prjZ [1, 3, 4] (codeZ (txV noL) Try.prog (runZ (txV noL) Try.prog 5) 36 inr 100000 (tiB Try.prog) (SL 39 (tiS (p + 1))) [(2, ⟨.shut, R⟩), (1, hlR h l)] 3 [false]) =
  Res.ok ((Xt.normal, 39, [(1, Value.pointer (some (Addr.mk 1 0 none))), (3, Value.pointer (some (Addr.mk 2 0 none))), (4, Value.int IntKind.i64 ((↑(p + 1) : Int) - (1 : Int)))], [(2, Rw.mk Kd.shut (splice R (Int.toNat
 ((↑(p + 1) : Int) - (1 : Int))) [Value.int IntKind.u8 (adI (48 : Int) (lowI IntKind.u8 ((mdI h (10 : Int) * (18446744073709551616 : Int) + l) % (10 : Int))))])), (1, Rw.mk Kd.shut [Value.int IntKind.u64 (dvI h (10 :
 Int)), Value.int IntKind.u64 ((mdI h (10 : Int) * (18446744073709551616 : Int) + l) / (10 : Int))])], 3, [1, 2], []), [], [(0 : Int) ≤ h ∧ (0 : Int) < (10 : Int) ∧ rg IntKind.u64 h, (0 : Int) ≤ h ∧ (0 : Int) < (10 : Int),
 (0 : Int) ≤ mdI h (10 : Int) ∧ mdI h (10 : Int) < (10 : Int), wf64 l, rg IntKind.i64 ((↑(p + 1) : Int) - (1 : Int)), rg IntKind.u8 (adI (48 : Int) (lowI IntKind.u8 ((mdI h (10 : Int) * (18446744073709551616 : Int) + l) %
 (10 : Int)))), (0 : Int) ≤ (↑(p + 1) : Int) - (1 : Int) ∧ (↑(p + 1) : Int) - (1 : Int) < (40 : Int), Int.toNat ((↑(p + 1) : Int) - (1 : Int)) + 1 ≤ List.length R, (IntKind.wrap IntKind.u64 (↑(BitVec.toNat (BitVec.ofInt 64
 (dvI h (10 : Int)) ||| BitVec.ofInt 64 ((mdI h (10 : Int) * (18446744073709551616 : Int) + l) / (10 : Int)))) : Int) == (0 : Int)) = false]) := by kernel_rfl
theorem ti_last (inr : Bool) (h l : Int) (R : List Value) (p : Nat) : prjZ [2] (codeZ (txV noL) Try.prog (runZ (txV noL) Try.prog 5) 36 inr 100000 (tiB Try.prog) (SL 39 (tiS (p + 1))) [(2, ⟨.shut, R⟩), (1, hlR h l)] 3 [true]) =
  Res.ok ((Xt.ret, 39, [(2, Value.string (ByteArray.mk (Array.mk (List.map (fun n => UInt8.ofNat (Int.toNat n)) (intsOf (tkD (loO (some (Value.int IntKind.i64 ((↑(p + 1) : Int) - (1 : Int)))) 0 (Int.toNat ((↑(p + 1) : Int)
 - (1 : Int))) 40 1) (sbN 40 (Int.toNat ((↑(p + 1) : Int) - (1 : Int)))) (splice R (Int.toNat ((↑(p + 1) : Int) - (1 : Int))) [Value.int IntKind.u8 (adI (48 : Int) (lowI IntKind.u8 ((mdI h (10 : Int) *
 (18446744073709551616 : Int) + l) % (10 : Int))))])))))))], [(2, Rw.mk Kd.shut (splice R (Int.toNat ((↑(p + 1) : Int) - (1 : Int))) [Value.int IntKind.u8 (adI (48 : Int) (lowI IntKind.u8 ((mdI h (10 : Int) *
 (18446744073709551616 : Int) + l) % (10 : Int))))])), (1, Rw.mk Kd.shut [Value.int IntKind.u64 (dvI h (10 : Int)), Value.int IntKind.u64 ((mdI h (10 : Int) * (18446744073709551616 : Int) + l) / (10 : Int))])], 3, [1, 2],
 []), [], [(0 : Int) ≤ h ∧ (0 : Int) < (10 : Int) ∧ rg IntKind.u64 h, (0 : Int) ≤ h ∧ (0 : Int) < (10 : Int), (0 : Int) ≤ mdI h (10 : Int) ∧ mdI h (10 : Int) < (10 : Int), wf64 l, rg IntKind.i64 ((↑(p + 1) : Int) - (1 :
 Int)), rg IntKind.u8 (adI (48 : Int) (lowI IntKind.u8 ((mdI h (10 : Int) * (18446744073709551616 : Int) + l) % (10 : Int)))), (0 : Int) ≤ (↑(p + 1) : Int) - (1 : Int) ∧ (↑(p + 1) : Int) - (1 : Int) < (40 : Int), Int.toNat
 ((↑(p + 1) : Int) - (1 : Int)) + 1 ≤ List.length R, (IntKind.wrap IntKind.u64 (↑(BitVec.toNat (BitVec.ofInt 64 (dvI h (10 : Int)) ||| BitVec.ofInt 64 ((mdI h (10 : Int) * (18446744073709551616 : Int) + l) / (10 : Int))))
 : Int) == (0 : Int)) = true, (0 : Int) ≤ (↑(p + 1) : Int) - (1 : Int) ∧ (↑(p + 1) : Int) - (1 : Int) ≤ (40 : Int), adN (loO (some (Value.int IntKind.i64 ((↑(p + 1) : Int) - (1 : Int)))) 0 (Int.toNat ((↑(p + 1) : Int) - (1
 : Int))) 40 1) (sbN 40 (Int.toNat ((↑(p + 1) : Int) - (1 : Int)))) ≤ List.length (splice R (Int.toNat ((↑(p + 1) : Int) - (1 : Int))) [Value.int IntKind.u8 (adI (48 : Int) (lowI IntKind.u8 ((mdI h (10 : Int) *
 (18446744073709551616 : Int) + l) % (10 : Int))))]), tkD (loO (some (Value.int IntKind.i64 ((↑(p + 1) : Int) - (1 : Int)))) 0 (Int.toNat ((↑(p + 1) : Int) - (1 : Int))) 40 1) (sbN 40 (Int.toNat ((↑(p + 1) : Int) - (1 :
 Int)))) (splice R (Int.toNat ((↑(p + 1) : Int) - (1 : Int))) [Value.int IntKind.u8 (adI (48 : Int) (lowI IntKind.u8 ((mdI h (10 : Int) * (18446744073709551616 : Int) + l) % (10 : Int))))]) = List.map (Value.int
 IntKind.u8) (intsOf (tkD (loO (some (Value.int IntKind.i64 ((↑(p + 1) : Int) - (1 : Int)))) 0 (Int.toNat ((↑(p + 1) : Int) - (1 : Int))) 40 1) (sbN 40 (Int.toNat ((↑(p + 1) : Int) - (1 : Int)))) (splice R (Int.toNat ((↑(p
 + 1) : Int) - (1 : Int))) [Value.int IntKind.u8 (adI (48 : Int) (lowI IntKind.u8 ((mdI h (10 : Int) * (18446744073709551616 : Int) + l) % (10 : Int))))])))]) := by kernel_rfl
theorem tt_more (inr : Bool) (h l : Int) (s : ByteArray) : prjZ [1, 3] (codeZ (txV noL) Try.prog (runZ (txV noL) Try.prog 5) 37 inr 100000 (ttB Try.prog) (SL 22 (ttS s)) [(1, hlR h l)] 2 [false]) =
  Res.ok ((Xt.normal, 22, [(1, Value.pointer (some (Addr.mk 1 0 none))), (3, Value.string (ByteArray.mk (Array.mk (List.take (Int.toNat (adI ((h % (10 : Int) * (18446744073709551616 : Int) + l) % (10 : Int)) (1 : Int)) -
 Int.toNat ((h % (10 : Int) * (18446744073709551616 : Int) + l) % (10 : Int))) (List.drop (Int.toNat ((h % (10 : Int) * (18446744073709551616 : Int) + l) % (10 : Int))) [(48 : UInt8), (49 : UInt8), (50 : UInt8), (51 :
 UInt8), (52 : UInt8), (53 : UInt8), (54 : UInt8), (55 : UInt8), (56 : UInt8), (57 : UInt8)]) ++ Array.toList (ByteArray.data s)))))], [(2, Rw.mk Kd.shut [Value.int IntKind.u64 (h / (10 : Int)), Value.int IntKind.u64 ((h %
 (10 : Int) * (18446744073709551616 : Int) + l) / (10 : Int))]), (1, Rw.mk Kd.shut [Value.int IntKind.u64 (h / (10 : Int)), Value.int IntKind.u64 ((h % (10 : Int) * (18446744073709551616 : Int) + l) / (10 : Int))])], 3,
 [1, 2], []), [], [wf64 h, wf64 l, rg IntKind.i64 (adI ((h % (10 : Int) * (18446744073709551616 : Int) + l) % (10 : Int)) (1 : Int)), (0 : Int) ≤ adI ((h % (10 : Int) * (18446744073709551616 : Int) + l) % (10 : Int)) (1 :
 Int) ∧ adI ((h % (10 : Int) * (18446744073709551616 : Int) + l) % (10 : Int)) (1 : Int) ≤ (10 : Int), (0 : Int) ≤ (h % (10 : Int) * (18446744073709551616 : Int) + l) % (10 : Int) ∧ (h % (10 : Int) * (18446744073709551616
 : Int) + l) % (10 : Int) ≤ (↑(Int.toNat (adI ((h % (10 : Int) * (18446744073709551616 : Int) + l) % (10 : Int)) (1 : Int))) : Int), List.length (List.take (Int.toNat (adI ((h % (10 : Int) * (18446744073709551616 : Int) +
 l) % (10 : Int)) (1 : Int)) - Int.toNat ((h % (10 : Int) * (18446744073709551616 : Int) + l) % (10 : Int))) (List.drop (Int.toNat ((h % (10 : Int) * (18446744073709551616 : Int) + l) % (10 : Int))) [(48 : UInt8), (49 :
 UInt8), (50 : UInt8), (51 : UInt8), (52 : UInt8), (53 : UInt8), (54 : UInt8), (55 : UInt8), (56 : UInt8), (57 : UInt8)])) + List.length (Array.toList (ByteArray.data s)) ≤ 9223372036854775807, (h / (10 : Int) == (0 : Int)
 && ((h % (10 : Int) * (18446744073709551616 : Int) + l) / (10 : Int) == (0 : Int) && true)) = false]) := by kernel_rfl
theorem tt_last (inr : Bool) (h l : Int) (s : ByteArray) : prjZ [2] (codeZ (txV noL) Try.prog (runZ (txV noL) Try.prog 5) 37 inr 100000 (ttB Try.prog) (SL 22 (ttS s)) [(1, hlR h l)] 2 [true]) =
  Res.ok ((Xt.ret, 22, [(2, Value.string (ByteArray.mk (Array.mk (List.take (Int.toNat (adI ((h % (10 : Int) * (18446744073709551616 : Int) + l) % (10 : Int)) (1 : Int)) - Int.toNat ((h % (10 : Int) * (18446744073709551616
 : Int) + l) % (10 : Int))) (List.drop (Int.toNat ((h % (10 : Int) * (18446744073709551616 : Int) + l) % (10 : Int))) [(48 : UInt8), (49 : UInt8), (50 : UInt8), (51 : UInt8), (52 : UInt8), (53 : UInt8), (54 : UInt8), (55 :
 UInt8), (56 : UInt8), (57 : UInt8)]) ++ Array.toList (ByteArray.data s)))))], [(2, Rw.mk Kd.shut [Value.int IntKind.u64 (h / (10 : Int)), Value.int IntKind.u64 ((h % (10 : Int) * (18446744073709551616 : Int) + l) / (10 :
 Int))]), (1, Rw.mk Kd.shut [Value.int IntKind.u64 h, Value.int IntKind.u64 l])], 3, [2], []), [], [wf64 h, wf64 l, rg IntKind.i64 (adI ((h % (10 : Int) * (18446744073709551616 : Int) + l) % (10 : Int)) (1 : Int)), (0 :
 Int) ≤ adI ((h % (10 : Int) * (18446744073709551616 : Int) + l) % (10 : Int)) (1 : Int) ∧ adI ((h % (10 : Int) * (18446744073709551616 : Int) + l) % (10 : Int)) (1 : Int) ≤ (10 : Int), (0 : Int) ≤ (h % (10 : Int) *
 (18446744073709551616 : Int) + l) % (10 : Int) ∧ (h % (10 : Int) * (18446744073709551616 : Int) + l) % (10 : Int) ≤ (↑(Int.toNat (adI ((h % (10 : Int) * (18446744073709551616 : Int) + l) % (10 : Int)) (1 : Int))) : Int),
 List.length (List.take (Int.toNat (adI ((h % (10 : Int) * (18446744073709551616 : Int) + l) % (10 : Int)) (1 : Int)) - Int.toNat ((h % (10 : Int) * (18446744073709551616 : Int) + l) % (10 : Int))) (List.drop (Int.toNat
 ((h % (10 : Int) * (18446744073709551616 : Int) + l) % (10 : Int))) [(48 : UInt8), (49 : UInt8), (50 : UInt8), (51 : UInt8), (52 : UInt8), (53 : UInt8), (54 : UInt8), (55 : UInt8), (56 : UInt8), (57 : UInt8)])) +
 List.length (Array.toList (ByteArray.data s)) ≤ 9223372036854775807, (h / (10 : Int) == (0 : Int) && ((h % (10 : Int) * (18446744073709551616 : Int) + l) / (10 : Int) == (0 : Int) && true)) = true]) := by kernel_rfl
/-! ### the digits -/
def strI (ns : List Int) : ByteArray := ⟨⟨ns.map fun n => UInt8.ofNat n.toNat⟩⟩
def dgC (h l : Int) : Int := 48 + (h % 10 * 18446744073709551616 + l) % 10
def dgL (h l : Int) : Int := (h % 10 * 18446744073709551616 + l) / 10
/-- A number's digits, the last one first worked out. -/
def tdg : Nat → Int → Int → List Int → List Int
  | 0, _, _, acc => acc
  | k + 1, h, l, acc => if h / 10 = 0 ∧ dgL h l = 0 then dgC h l :: acc else tdg k (h / 10) (dgL h l) (dgC h l :: acc)
theorem intsOf_mp {k : IntKind} : ∀ l : List Int, intsOf (l.map (Value.int k)) = l
  | [] => rfl
  | x :: l => by
      have := intsOf_mp (k := k) l
      unfold intsOf at this ⊢
      rw [List.map_cons, List.map_cons, this]
def dgR (p : Nat) (acc : List Int) : List Value := (List.replicate p 0 ++ acc).map (Value.int .u8)
theorem dgR_fl (p : Nat) (acc : List Int) : Fl (dgR p acc) := Fl.ints _ _
theorem dgR_len (p : Nat) (acc : List Int) : (dgR p acc).length = p + acc.length := by unfold dgR; rw [List.length_map, List.length_append, List.length_replicate]
theorem dgR_set (p : Nat) (acc : List Int) (c : Int) : splice (dgR (p + 1) acc) p [Value.int .u8 c] = dgR p (c :: acc) := by
  have e : dgR (p + 1) acc = (List.replicate p (0 : Int)).map (Value.int .u8) ++ (Value.int .u8 0 :: acc.map (Value.int .u8)) := by
    unfold dgR
    rw [List.replicate_succ', List.append_assoc, List.map_append, List.singleton_append, List.map_cons]
  rw [e, splice_at (by rw [List.length_map, List.length_replicate]) (by simp)]
  unfold dgR
  rw [List.map_append, List.map_cons, List.append_assoc]
  rfl
theorem dgR_tk (p : Nat) (acc : List Int) (h : p + acc.length = 40) : tkD p (40 - p) (dgR p acc) = acc.map (Value.int .u8) := by
  rw [tkD_eq]
  unfold dgR
  rw [List.map_append, List.drop_left' (by rw [List.length_map, List.length_replicate]), List.take_of_length_le (by rw [List.length_map]; omega)]
theorem lo40 {p : Nat} (h : p < 40) : loO (some (Value.int .i64 (p : Int))) 0 p 40 1 = p := by
  unfold loO slO
  have e : Nat.beq 40 p = false := by cases hb : Nat.beq 40 p with | false => rfl | true => exact absurd (Nat.eq_of_beq_eq_true hb) (by omega)
  simp only [e, cond_false]
  omega
theorem or0 {x y : Int} (hx : wf64 x) (hy : wf64 y) : (IntKind.wrap IntKind.u64 ((BitVec.ofInt 64 x ||| BitVec.ofInt 64 y).toNat : Nat) == 0) = decide (x = 0 ∧ y = 0) := by
  obtain ⟨a, rfl⟩ := Int.eq_ofNat_of_zero_le hx.1
  obtain ⟨b, rfl⟩ := Int.eq_ofNat_of_zero_le hy.1
  have ha : a < 2 ^ 64 := by have := hx.2; omega
  have hb : b < 2 ^ 64 := by have := hy.2; omega
  have h1 : a ||| b < 2 ^ 64 := Nat.or_lt_two_pow ha hb
  rw [BitVec.toNat_or, BitVec.ofInt_natCast, BitVec.ofInt_natCast, BitVec.toNat_ofNat, BitVec.toNat_ofNat, Nat.mod_eq_of_lt ha, Nat.mod_eq_of_lt hb, wr64]
  by_cases hz : a = 0 ∧ b = 0
  · obtain ⟨rfl, rfl⟩ := hz
    rfl
  · have h2 : a ||| b ≠ 0 := fun e => hz (by rwa [Nat.or_eq_zero_iff] at e)
    have h3 : ¬ (((a : Nat) : Int) = 0 ∧ ((b : Nat) : Int) = 0) := by omega
    rw [decide_eq_false h3, beq_eq_false_iff_ne]
    omega
theorem nxt_wf {h l : Int} (h0 : wf64 h) (l0 : wf64 l) : wf64 (h / 10) ∧ wf64 (dgL h l) := by
  have h1 := h0.1
  have h2 := h0.2
  have l1 := l0.1
  have l2 := l0.2
  unfold dgL wf64
  omega
theorem nxt_lt {h l : Int} {k : Nat} (h0 : wf64 h) (l0 : wf64 l) (hk : h * 18446744073709551616 + l < 10 ^ (k + 1)) : h / 10 * 18446744073709551616 + dgL h l < 10 ^ k := by
  have h1 := h0.1
  have l1 := l0.1
  rw [Int.pow_succ] at hk
  unfold dgL
  generalize (10 : Int) ^ k = P at *
  omega
theorem txV_X (L : LFun) : XOkZ (txV L) Try.prog := noXz_ok rfl
theorem txV_T (L : LFun) : TOkZ (txV L) Try.prog := T_okV rfl txT_one
theorem ti_loop {inr : Bool} {h0 : Hp} : ∀ (k p : Nat) (h l : Int) (acc : List Int), wf64 h → wf64 l → h * 18446744073709551616 + l < 10 ^ k → 0 < k → k ≤ p → p + acc.length = 40 →
    LRuns inr Try.prog (tiB Try.prog) 3 3 h0 39 (tiS p) [(2, ⟨.shut, dgR p acc⟩), (1, hlR h l)] 3 (.ret, [(2, .string (strI (tdg k h l acc)))], [])
  | 0, p, h, l, acc, w1, w2, hv, hk, hp, ha => absurd hk (by omega)
  | k + 1, 0, h, l, acc, w1, w2, hv, hk, hp, ha => absurd hp (by omega)
  | k + 1, p + 1, h, l, acc, w1, w2, hv, hk, hp, ha => by
      have x1 := w1.1
      have x2 := w1.2
      have x3 := w2.1
      have x4 := w2.2
      have e1 : ((p + 1 : Nat) : Int) - 1 = (p : Int) := by omega
      have e2 : adI 48 (lowI .u8 ((h % 10 * 18446744073709551616 + l) % 10)) = dgC h l := by rw [adI_eq, lw8 (by omega)]; rfl
      have e3 := dgR_set p acc (dgC h l)
      have e4 := lo40 (p := p) (by omega)
      have e6 := dgR_tk p (dgC h l :: acc) (by simp only [List.length_cons]; omega)
      have ln := dgR_len (p + 1) acc
      have ln2 := dgR_len p (dgC h l :: acc)
      rw [List.length_cons] at ln2
      have ew : (h % 10 * 18446744073709551616 + l) / 10 = dgL h l := rfl
      obtain ⟨n1, n2⟩ := nxt_wf w1 w2
      have eo := or0 n1 n2
      have rc : 48 ≤ dgC h l ∧ dgC h l < 58 := by unfold dgC; omega
      by_cases hz : h / 10 = 0 ∧ dgL h l = 0
      · have ed : tdg (k + 1) h l acc = dgC h l :: acc := if_pos hz
        rw [ed]
        have hr := fun o => code_runs (txV_X noL) (noL_okV rfl) (runZ_ok (txV_X noL) (txV_T noL) (noL_okV rfl) mixed 5) mixed (ti_last inr h l (dgR (p + 1) acc) p) o
        rw [decide_eq_true hz] at eo
        simp only [e1, Int.toNat_natCast, mdI_eq, dvI_eq, e2, e3, e4, sbN_eq, e6, intsOf_mp, ew, eo, adN_eq, ln, ln2] at hr
        refine LRuns.exit (hr ?_) (by intro e; cases e) rfl (by omega) (by omega) (fun n => n) ?_ trivial rfl
        · repeat' (first | exact alls_nil | refine alls_cons ?_ ?_)
          all_goals first | with_reducible assumption | with_reducible rfl | omega | (simp only [rg]; omega)
        · exact ⟨rfl, rfl, trivial⟩
      · have ed : tdg (k + 1) h l acc = tdg k (h / 10) (dgL h l) (dgC h l :: acc) := if_neg hz
        rw [ed]
        have hl := nxt_lt w1 w2 hv
        have hk0 : 0 < k := by
          match k, hl with
          | 0, hl =>
            have b1 := n1.1
            have b2 := n2.1
            have : (10 : Int) ^ 0 = 1 := rfl
            rw [this] at hl
            exact absurd (show h / 10 = 0 ∧ dgL h l = 0 by omega) hz
          | k + 1, _ => omega
        have nx := ti_loop (inr := inr) (h0 := h0) k p (h / 10) (dgL h l) (dgC h l :: acc) n1 n2 hl hk0 (by omega) (by rw [List.length_cons]; omega)
        have hr := fun o => code_runs (txV_X noL) (noL_okV rfl) (runZ_ok (txV_X noL) (txV_T noL) (noL_okV rfl) mixed 5) mixed (ti_more inr h l (dgR (p + 1) acc) p) o
        rw [decide_eq_false hz] at eo
        simp only [e1, Int.toNat_natCast, mdI_eq, dvI_eq, e2, e3, ew, eo, ln] at hr
        refine LRuns.step (hr ?_) rfl (by omega) (by omega) (fun n => n) ?_ ?_ rfl nx
        · repeat' (first | exact alls_nil | refine alls_cons ?_ ?_)
          all_goals first | with_reducible assumption | with_reducible rfl | omega | (simp only [rg]; omega)
        · exact ⟨rfl, rb_ptr rfl, rfl, rb_ptr rfl, rfl, rfl, trivial⟩
        · exact ⟨rb_row (m := 2) rfl rfl rfl rfl (dgR_fl _ _), rb_row (m := 1) rfl rfl rfl rfl (Fl.of rfl), trivial⟩
end Go.Proofs.Ytpiapipmhlpmjaa
