/-
  Chapter 12: slices.Insert of a pair at any place.
-/
import Derived.Test.YtojakfnljopjbaaGrAS
import Derived.Test.YtojakfnljopjbaaGrAX
import Derived.Lib.Overlaps
import Derived.Test.YtojakfnljopjbaaGrAT
namespace Go.Proofs.Ytojakfnljopjbaa
set_option linter.unusedSimpArgs false
set_option linter.unusedVariables false
set_option linter.unusedSectionVars false
open Go Go.RowKit

theorem all1_app {a b : List Value} : all1 (a ++ b) = true ↔ all1 a = true ∧ all1 b = true := by
 induction a with
 | nil => simp [all1]
 | cons x a ih =>
  simp only [List.cons_append, all1]
  cases one1 x with
  | true => simpa using ih
  | false => simp
theorem all1_drop {a : List Value} (h : all1 a = true) (k : Nat) : all1 (a.drop k) = true := by
 rw [← List.take_append_drop k a, all1_app] at h
 exact h.2
def ovlY : XFun := fun f args h => bif Nat.beq f 55 then (match args with
 | [.slice (some ⟨a, _, none⟩) _ _, .slice (some ⟨b, _, none⟩) _ _] => match lk h a, lk h b with
  | some ⟨.shut, _⟩, some ⟨.shut, csb⟩ => bif Nat.beq a b then none else some (.bool false, [0 < csb.length])
  | _, _ => none
 | _ => none) else none
theorem ovlY_ok : XOneZ Try.prog ovlY := by
 intro f args h v ob e ho W σ w args' hR ha
 unfold ovlY at e
 obtain ⟨hf, e1⟩ := Ba e
 clear e
 obtain rfl := Nat.eq_of_beq_eq_true hf
 clear hf
 have e := e1
 clear e1
 split at e
 case h_2 => cases e
 rename_i a oa la ca b ob' lb cb
 split at e
 case h_2 => cases e
 rename_i csa csb hla hlb
 cases hab : Nat.beq a b with
 | true => rw [hab] at e; cases e
 | false =>
  rw [hab] at e
  cases e
  have hpos := ho.1
  refine ⟨rfl, ?_⟩
  obtain ⟨x1, l1, e1, el1, rfl⟩ := B9 ha
  obtain ⟨x2, l2, e2, el2, rfl⟩ := B9 el1
  simp only [renL, oI] at el2
  subst el2
  have na := hR.shr.1 a _ hla fun e => by cases e
  have nb := hR.shr.1 b _ hlb fun e => by cases e
  obtain ⟨p, c1, hbp, _, rfl, _⟩ : ∃ p c1, σ.b a = some p ∧ cpR σ ca = some c1 ∧ x1 = .slice (some ⟨p.1, p.2 + oa, none⟩) la c1 ∧ σ.f a ≠ none := by
   rcases B7 e1 with h | h
   ·exact h
   ·exact absurd h.1 na
  obtain ⟨q, c2, hbq, _, rfl, _⟩ : ∃ q c2, σ.b b = some q ∧ cpR σ cb = some c2 ∧ x2 = .slice (some ⟨q.1, q.2 + ob', none⟩) lb c2 ∧ σ.f b ≠ none := by
   rcases B7 e2 with h | h
   ·exact h
   ·exact absurd h.1 nb
  have hne : p.1 ≠ q.1 := fun e => by
   have := hR.inj a b _ _ p q hla hlb (fun e => by cases e) (fun e => by cases e) hbp hbq e
   subst this
   rw [Dc] at hab; cases hab
  obtain ⟨ba, sa, va, hba, hva, hs1, hs2, ta, hta⟩ := hR.row _ _ hla
  rw [hbp] at hba
  cases hba
  obtain ⟨bb, sb, vb, hbb, hvb, hs3, hs4, tb, htb⟩ := hR.row _ _ hlb
  rw [hbq] at hbb
  cases hbb
  have hvl := Bn hvb
  rw [run_callFunc_extern Try.func55 (by kernel_rfl) (by kernel_rfl) (by kernel_rfl) (e := Extern.SlicesOverlaps.overlaps #[22, 22] #[4]) (by kernel_rfl),
   Lib.run_overlaps_apart w 22 4 29 (by kernel_rfl) 3 ?_ ⟨_, _, none⟩ ⟨_, _, none⟩ la c1 lb c2 hne ta tb va.toArray.size vb.toArray.size ?_ ?_ ?_ ?_ ?_]
  ·rfl
  ·intro w'
   have hz := info_size (P := Try.prog) (t := 29) (n := 3) (by kernel_rfl)
   obtain ⟨i, hi, h3⟩ := hz
   simp [sizeOf, typeInfo, hi, h3]
  ·simp [World.shape?, hta]
  ·simp [World.shape?, htb]
  ·have e : vb.length = csb.length := hvl
   simp only [List.size_toArray]; omega
  ·exact frozen_of_row w _ _ _ ta hta
  ·exact frozen_of_row w _ _ _ ta hta

def ipH (r : Rw) (V : List Value) : Hp := [(0, r), (1, ⟨.shut, V⟩)]
def ipV (m : Nat) : Tv := ⟨noTz, ovlY, noL, tbl 49 [22, 31], allSy 49 [(25, m), (40, 41), (43, 42), (50, 42)], fun _ => [], fun _ => 0⟩
theorem ipp_e1 (n c : Nat) (i : Int) (X V : List Value) : runZ (ipV 1) Try.prog 5 49 [.slice (some ⟨0, 0, none⟩) n c, .int .i64 i, .slice (some ⟨1, 0, none⟩) 1 1] (ipH ⟨.shut, X⟩ V) 2 [true] =
 Res.ok ((Value.slice (some (Addr.mk 0 0 none)) (n + 1) c, [(0, Rw.mk Kd.shut (Bg X (n * 3) (List.take 3 V))), (1, Rw.mk Kd.shut V)], 2, [0]), [], [c < 18446744073709551616, (0 : Int) ≤ i ∧ i ≤ (↑n : Int), (i == (↑n : Int)) = true, c < 18446744073709551616, n + 1 ≤ c, true = true, n * 3 + List.length (List.take 3 V) ≤ List.length X, 3 ≤ List.length V, all1 (List.take 3 V) = true]) := by kernel_rfl
theorem ipp_e2 (n c : Nat) (i : Int) (X V : List Value) : runZ (ipV 2) Try.prog 5 49 [.slice (some ⟨0, 0, none⟩) n c, .int .i64 i, .slice (some ⟨1, 0, none⟩) 1 1] (ipH ⟨.shut, X⟩ V) 2 [true] =
 Res.ok ((Value.slice (some (Addr.mk 2 0 none)) (n + 1) (B0 + 2), [(2, Rw.mk (Kd.room 3 [Value.slice none 0 0, Value.slice none 0 0, Value.bool false]) (List.take (n * 3) X ++ List.take 3 V)), (0, Rw.mk Kd.shut X), (1, Rw.mk Kd.shut V)], 3, []), [], [c < 18446744073709551616, (0 : Int) ≤ i ∧ i ≤ (↑n : Int), (i == (↑n : Int)) = true, c < 18446744073709551616, c < n + 1, n * 3 ≤ List.length X, (n + 1) * 56 ≤ 140737488355328 ∧ n + 1 ≤ 9223372036854775807, 3 ≤ List.length V, all1 (List.take 3 V) = true]) := by kernel_rfl
theorem ipp_in (n c : Nat) (i : Int) (X V : List Value) : runZ (ipV 0) Try.prog 5 49 [.slice (some ⟨0, 0, none⟩) n c, .int .i64 i, .slice (some ⟨1, 0, none⟩) 1 1] (ipH ⟨.shut, X⟩ V) 2 [false, false] =
 Res.ok ((Value.slice (some (Addr.mk 0 0 none)) (n + 1) c, [(0, Rw.mk Kd.shut (Bg (Bg X (loO (some (Value.int IntKind.i64 (adI i (1 : Int)))) 0 (Int.toNat (adI i (1 : Int))) c 3) (List.take (Nat.min (sbN (n + 1) (Int.toNat i)) (sbN (n + 1) (Int.toNat (adI i (1 : Int)))) * 3) (tkD (loO (some (Value.int IntKind.i64 i)) 0 (Int.toNat i) c 3) (sbN (n + 1) (Int.toNat i) * 3) X))) (loO (some (Value.int IntKind.i64 i)) 0 (Int.toNat i) c 3) (List.take (Nat.min 1 (sbN (n + 1) (Int.toNat i)) * 3) (List.take 3 V)))), (1, Rw.mk Kd.shut V)], 2, [0, 0]), [], ((fun (q0 q1 q2 q3 q4 : Prop) => [q0, (0 : Int) ≤ i ∧ i ≤ (↑n : Int), (i == (↑n : Int)) = false, q1, q0, decide ((↑(n + 1) : Int) > (↑c : Int)) = false, q1, q0, (0 : Int) ≤ (↑(n + 1) : Int) ∧ (↑(n + 1) : Int) ≤ (↑c : Int), q2, q0, q3, 0 < List.length X, q2, q0, q3, q0, q4, adN (loO (some (Value.int IntKind.i64 (adI i (1 : Int)))) 0
 (Int.toNat (adI i (1 : Int))) c 3) (List.length (List.take (Nat.min (sbN (n + 1) (Int.toNat i)) (sbN (n + 1) (Int.toNat (adI i (1 : Int)))) * 3) (tkD (loO (some (Value.int IntKind.i64 i)) 0 (Int.toNat i) c 3) (sbN (n + 1) (Int.toNat i) * 3) X))) ≤ List.length X, adN (loO (some (Value.int IntKind.i64 i)) 0 (Int.toNat i) c 3) (sbN (n + 1) (Int.toNat i) * 3) ≤ List.length X, all1 (tkD (loO (some (Value.int IntKind.i64 i)) 0 (Int.toNat i) c 3) (sbN (n + 1) (Int.toNat i) * 3) X) = true, q0, q4, adN (loO (some (Value.int IntKind.i64 i)) 0 (Int.toNat i) c 3) (List.length (List.take (Nat.min 1 (sbN (n + 1) (Int.toNat i)) * 3) (List.take 3 V))) ≤ List.length (Bg X (loO (some (Value.int IntKind.i64 (adI i (1 : Int)))) 0 (Int.toNat (adI i (1 : Int))) c 3) (List.take (Nat.min (sbN (n + 1) (Int.toNat i)) (sbN (n + 1) (Int.toNat (adI i (1 : Int)))) * 3) (tkD (loO (some (Value.int IntKind.i64 i)) 0
 (Int.toNat i) c 3) (sbN (n + 1) (Int.toNat i) * 3) X))), 3 ≤ List.length V, all1 (List.take 3 V) = true]) (c < 18446744073709551616) (rg IntKind.i64 (↑(n + 1) : Int)) (rg IntKind.i64 (adI i (1 : Int))) ((0 : Int) ≤ adI i (1 : Int) ∧ adI i (1 : Int) ≤ (↑(n + 1) : Int)) ((0 : Int) ≤ i ∧ i ≤ (↑(n + 1) :
 Int)))) := by kernel_rfl
theorem ipp_out (n c : Nat) (i : Int) (X V : List Value) : runZ (ipV 0) Try.prog 5 49 [.slice (some ⟨0, 0, none⟩) n c, .int .i64 i, .slice (some ⟨1, 0, none⟩) 1 1] (ipH ⟨.shut, X⟩ V) 2 [false, true] =
 Res.ok ((Value.slice (some (Addr.mk 2 0 none)) (Int.toNat i + Int.toNat ((↑(n + 1) : Int) - i)) (B0 + 2), [(2, Rw.mk (Kd.room 3 [Value.slice none 0 0, Value.slice none 0 0, Value.bool false]) (Bg (Bg (List.take (Int.toNat i * 3) X ++ zrep [Value.slice none 0 0, Value.slice none 0 0, Value.bool false] (Int.toNat ((↑(n + 1) : Int) - i) * 3)) (Int.toNat i * 3) (List.take (Nat.min 1 (sbN (Int.toNat i + Int.toNat ((↑(n + 1) : Int) - i)) (Int.toNat i)) * 3) (List.take 3 V))) (Int.toNat (adI i (1 : Int)) * 3) (List.take (Nat.min (sbN n (Int.toNat i)) (sbN (Int.toNat i + Int.toNat ((↑(n + 1) : Int) - i)) (Int.toNat (adI i (1 : Int)))) * 3) (tkD (loO (some (Value.int IntKind.i64 i)) 0 (Int.toNat i) c 3) (sbN n (Int.toNat i) * 3) X)))), (0, Rw.mk Kd.shut X), (1, Rw.mk Kd.shut V)], 5, []), [], ((fun (q0 q1 q2 q3 : Prop) => [q0, q1, (i == (↑n : Int)) = false, q2, q0, decide ((↑(n + 1) :
 Int) > (↑c : Int)) = true, q0, (0 : Int) ≤ i ∧ i ≤ (↑c : Int), q2, rg IntKind.i64 ((↑(n + 1) : Int) - i), (0 : Int) < (↑(n + 1) : Int) - i ∧ c < 18446744073709551616 ∧ c < Int.toNat i + Int.toNat ((↑(n + 1) : Int) - i), (Int.toNat i + Int.toNat ((↑(n + 1) : Int) - i)) * 56 ≤ 140737488355328 ∧ Int.toNat i + Int.toNat ((↑(n + 1) : Int) - i) ≤ 9223372036854775807, Int.toNat i * 3 ≤ List.length X, q3, (0 : Int) ≤ i ∧ i < (↑(Int.toNat i + Int.toNat ((↑(n + 1) : Int) - i)) : Int), (Int.toNat i + Int.toNat ((↑(n + 1) : Int) - i)) * 3 ≤ List.length (List.take (Int.toNat i * 3) X ++ zrep [Value.slice none 0 0, Value.slice none 0 0, Value.bool false] (Int.toNat ((↑(n + 1) : Int) - i) * 3)), adN (Int.toNat i * 3) (List.length (List.take (Nat.min 1 (sbN (Int.toNat i + Int.toNat ((↑(n + 1) : Int) - i)) (Int.toNat i)) * 3) (List.take 3 V))) ≤ List.length (List.take (Int.toNat i * 3) X ++ zrep
 [Value.slice none 0 0, Value.slice none 0 0, Value.bool false] (Int.toNat ((↑(n + 1) : Int) - i) * 3)), 3 ≤ List.length V, all1 (List.take 3 V) = true, rg IntKind.i64 (adI i (1 : Int)), q3, (0 : Int) ≤ adI i (1 : Int) ∧ adI i (1 : Int) < (↑(Int.toNat i + Int.toNat ((↑(n + 1) : Int) - i)) : Int), (Int.toNat i + Int.toNat ((↑(n + 1) : Int) - i)) * 3 ≤ List.length (Bg (List.take (Int.toNat i * 3) X ++ zrep [Value.slice none 0 0, Value.slice none 0 0, Value.bool false] (Int.toNat ((↑(n + 1) : Int) - i) * 3)) (Int.toNat i * 3) (List.take (Nat.min 1 (sbN (Int.toNat i + Int.toNat ((↑(n + 1) : Int) - i)) (Int.toNat i)) * 3) (List.take 3 V))), q0, q1, adN (Int.toNat (adI i (1 : Int)) * 3) (List.length (List.take (Nat.min (sbN n (Int.toNat i)) (sbN (Int.toNat i + Int.toNat ((↑(n + 1) : Int) - i)) (Int.toNat (adI i (1 : Int)))) * 3) (tkD (loO (some (Value.int IntKind.i64 i)) 0 (Int.toNat i) c
 3) (sbN n (Int.toNat i) * 3) X))) ≤ List.length (Bg (List.take (Int.toNat i * 3) X ++ zrep [Value.slice none 0 0, Value.slice none 0 0, Value.bool false] (Int.toNat ((↑(n + 1) : Int) - i) * 3)) (Int.toNat i * 3) (List.take (Nat.min 1 (sbN (Int.toNat i + Int.toNat ((↑(n + 1) : Int) - i)) (Int.toNat i)) * 3) (List.take 3 V))), adN (loO (some (Value.int IntKind.i64 i)) 0 (Int.toNat i) c 3) (sbN n (Int.toNat i) * 3) ≤ List.length X, all1 (tkD (loO (some (Value.int IntKind.i64 i)) 0 (Int.toNat i) c 3) (sbN n (Int.toNat i) * 3) X) = true]) (c < 18446744073709551616) ((0 : Int) ≤ i ∧ i ≤ (↑n : Int)) (rg IntKind.i64 (↑(n + 1) : Int)) (B0 + 2 = B0 +
 2))) := by kernel_rfl

def insC (cs : List Value) (i : Int) (V : List Value) : List Value := cs.take (i.toNat * 3) ++ (V ++ cs.drop (i.toNat * 3))
theorem ipX {V : Tv} (h : V.X = ovlY) : XOkZ V Try.prog := XOneZ.ok ovlY_ok h
theorem zPr_no : ∀ x ∈ zPr, noAd x = true := fun x hx => by
 simp only [zPr, List.mem_cons, List.not_mem_nil, or_false] at hx
 rcases hx with rfl | rfl | rfl <;> rfl
theorem all1_mem {l : List Value} (h : ∀ x ∈ l, one1 x = true) : all1 l = true := by
 induction l with
 | nil => rfl
 | cons x l ih => simp only [all1, h x (by simp), cond_true]; exact ih fun y hy => h y (by simp [hy])
theorem zPr_one {x : Value} (h : x ∈ zPr) : one1 x = true := List.all_eq_true.1 (show zPr.all one1 = true by rfl) x h
theorem slO_ne {o l m s : Nat} (h : m ≠ l) : slO o l m s = o + l * s := by unfold slO; rw [Ca h]; rfl
theorem zrep_len3 (m : Nat) : (zrep zPr (m * 3)).length = m * 3 := by
 rw [show zrep zPr (m * 3) = (List.range (m * 3)).map (fun i => (zPr[i % zPr.length]?).getD undef) from rfl, List.length_map, List.length_range]
theorem ip_in_row {A D R V : List Value} {a d : Nat} (ha : A.length = a) (hd : D.length = d) (hV : V.length = 3) (hR : 3 ≤ R.length) :
  Bg (Bg (A ++ (D ++ R)) (a + 3) D) a V = (A ++ (V ++ D)) ++ R.drop 3 := by
 have e1 : A ++ (D ++ R) = (A ++ (D ++ R).take 3) ++ (D ++ R).drop 3 := by rw [List.append_assoc, List.take_append_drop]
 have l1 : (A ++ (D ++ R).take 3).length = a + 3 := by rw [List.length_append, List.length_take, List.length_append]; omega
 rw [e1, Dt l1 (by rw [List.length_drop, List.length_append]; omega), List.append_assoc, List.append_assoc]
 rw [Dt ha (by rw [hV]; simp only [List.length_append, List.length_take, List.length_drop]; omega), hV]
 have l2 : ((D ++ R).take 3).length = 3 := by rw [List.length_take, List.length_append]; omega
 rw [List.drop_append, l2, List.drop_of_length_le (by omega), Nat.sub_self, List.drop_zero, List.nil_append, List.drop_drop, List.drop_append]
 rw [List.drop_of_length_le (by omega), List.nil_append, hd, show 3 + d - d = 3 by omega]
 simp only [List.append_assoc]
theorem ip_out_row {A D Z V : List Value} {a d : Nat} (ha : A.length = a) (hd : D.length = d) (hV : V.length = 3) (hZ : Z.length = 3 + d) :
  Bg (Bg (A ++ Z) a V) (a + 3) D = A ++ (V ++ D) := by
 rw [Dt ha (by omega), Dt (by rw [List.length_append]; omega) (by rw [List.length_drop]; omega), List.drop_drop, List.drop_of_length_le (by omega), List.append_nil, List.append_assoc]
theorem ipp_tri {n : Nat} {i : Int} {cs V : List Value} (h0 : 0 ≤ i) (hi : i ≤ (n : Int)) (hn : n ≤ 1000) (hcs : cs.length = n * 3) (hV : V.length = 3) (hV1 : all1 V = true) (hc1 : all1 cs = true) :
  Tri Try.prog 49 [.slice (some ⟨0, 0, none⟩) n (B0 + 0), .int .i64 i, .slice (some ⟨1, 0, none⟩) 1 1] (ipH ⟨.room 3 zPr, cs⟩ V) 2
   (.slice (some ⟨2 + 3, 0, none⟩) (n + 1) (B0 + (2 + 3)), (2 + 3, ⟨.room 3 zPr, insC cs i V⟩) :: delH (ipH ⟨.room 3 zPr, cs⟩ V) 0, 2 + 3 + 1, [0]) := by
 have hT : ∀ m, TOkZ (ipV m) Try.prog := fun m => D4 rfl
 have hL : ∀ m, LOkZ (ipV m) Try.prog := fun m => C9 rfl
 obtain ⟨k, rfl⟩ : ∃ k : Nat, i = (k : Int) := ⟨i.toNat, by omega⟩
 have hkn : k ≤ n := by omega
 have tV : List.take 3 V = V := List.take_of_length_le (by omega)
 have hA : (cs.take (k * 3)).length = k * 3 := by rw [List.length_take, hcs]; omega
 have hD : (cs.drop (k * 3)).length = (n - k) * 3 := by rw [List.length_drop, hcs]; omega
 have cAD : cs.take (k * 3) ++ cs.drop (k * 3) = cs := List.take_append_drop _ _
 have hD1 : all1 (cs.drop (k * 3)) = true := all1_drop hc1 _
 have eI : insC cs (k : Int) V = cs.take (k * 3) ++ (V ++ cs.drop (k * 3)) := by unfold insC; rw [Int.toNat_natCast]
 refine ins_tri (m := 0) (n := n) (K := 3) (sz := 3) (z := zPr) (cs := cs) (by omega) rfl (by omega) hcs zPr_no (fun q rest hm hr hz => ?_) ?_
 ·have hlow := Nat.lt_of_le_of_lt hm Ih
  simp only [B0] at hlow
  have hXl : (cs ++ rest).length = n * 3 + rest.length := by rw [List.length_append, hcs]
  have hr1 : all1 rest = true := all1_mem fun x hx => zPr_one (hz x hx)
  by_cases hk : k = n
  ·subst hk
   have T := C6 (ipX rfl) (hT _) (hL _) (ipp_e1 k (k + 1 + q) (k : Int) (cs ++ rest) V) ?_ rfl
   ·refine ⟨_, _, _, rest.drop 3, T, by omega, ?_, ?_, fun x hx => hz x (List.mem_of_mem_drop hx), fun j hj => by simpa using hj⟩
    ·have e : Bg (cs ++ rest) (k * 3) (List.take 3 V) = insC cs (k : Int) V ++ rest.drop 3 := by
      have e2 : cs.take (k * 3) = cs := List.take_of_length_le (by omega)
      have e3 : cs.drop (k * 3) = [] := List.drop_of_length_le (by omega)
      rw [tV, Dt hcs (by omega), eI, e2, e3, List.append_nil, hV]
     rw [← e]; rfl
    ·rw [eI, List.length_append, List.length_append, List.length_append, hA, hD, List.length_drop, hV]; omega
   ·simp only [Alls, tV, hXl, hV]
    repeat' apply And.intro
    all_goals first | omega | (with_reducible assumption) | (with_reducible exact trivial) | (with_reducible rfl) | exact beq_self_eq_true _
  ·have hk2 : k < n := by omega
   have eD : tkD (k * 3) ((n + 1 - k) * 3) (cs ++ rest) = cs.drop (k * 3) ++ rest.take 3 := by
    rw [Jx, List.drop_append_of_le_length (by omega), List.take_append, hD, List.take_of_length_le (by omega)]
    congr 2; omega
   have T := ipp_in n (n + 1 + q) (k : Int) (cs ++ rest) V
   have ea : adI (k : Int) 1 = ((k + 1 : Nat) : Int) := by rw [adI_eq]; omega
   have eo1 : ∀ v : Value, loO (some v) 0 k (n + 1 + q) 3 = k * 3 := fun v => by show slO 0 k (n + 1 + q) 3 = _; rw [slO_ne (by omega), Nat.zero_add]
   have eo2 : ∀ v : Value, loO (some v) 0 (k + 1) (n + 1 + q) 3 = k * 3 + 3 := fun v => by show slO 0 (k + 1) (n + 1 + q) 3 = _; rw [slO_ne (by omega)]; omega
   have em : Nat.min (n + 1 - k) (n + 1 - (k + 1)) * 3 = (n - k) * 3 := by rw [show Nat.min (n + 1 - k) (n + 1 - (k + 1)) = min (n + 1 - k) (n + 1 - (k + 1)) from rfl]; omega
   have em1 : Nat.min 1 (n + 1 - k) * 3 = 3 := by rw [show Nat.min 1 (n + 1 - k) = min 1 (n + 1 - k) from rfl]; omega
   have eM : List.take ((n - k) * 3) (cs.drop (k * 3) ++ rest.take 3) = cs.drop (k * 3) := by rw [← hD, List.take_left]
   simp only [ea, Int.toNat_natCast, eo1, eo2, Dh, em, em1, eD, eM, tV] at T
   have eS : Bg (Bg (cs ++ rest) (k * 3 + 3) (cs.drop (k * 3))) (k * 3) V = insC cs (k : Int) V ++ rest.drop 3 := by
    have := ip_in_row (R := rest) (V := V) hA hD hV (by omega)
    rw [← List.append_assoc, cAD] at this
    rw [eI]; exact this
   rw [eS] at T
   have T2 := C6 (ipX rfl) (hT _) (hL _) T ?_ rfl
   ·refine ⟨_, _, _, rest.drop 3, T2, by omega, rfl, ?_, fun x hx => hz x (List.mem_of_mem_drop hx), fun j hj => by simpa using hj⟩
    rw [eI, List.length_append, List.length_append, List.length_append, hA, hD, List.length_drop, hV]; omega
   ·have h3 : all1 (cs.drop (k * 3) ++ rest.take 3) = true := all1_app.2 ⟨hD1, by
     rw [← List.take_append_drop 3 rest, all1_app] at hr1; exact hr1.1⟩
    simp only [Alls, hXl, hV, hD, Iq, Dj, rg, decide_eq_false_iff_not, beq_eq_false_iff_ne]
    repeat' apply And.intro
    all_goals first | omega | (with_reducible assumption) | (with_reducible exact trivial) | (with_reducible rfl)
 ·by_cases hk : k = n
  ·subst hk
   have T := ipp_e2 k k (k : Int) cs V
   rw [tV, List.take_of_length_le (by omega)] at T
   have eE : cs ++ V = insC cs (k : Int) V := by rw [eI, List.take_of_length_le (by omega), List.drop_of_length_le (by omega), List.append_nil]
   rw [eE] at T
   refine ⟨_, _, _, C6 (ipX rfl) (hT _) (hL _) T ?_ rfl, by omega, rfl, fun j hj => by cases hj⟩
   simp only [Alls, hcs, hV]
   repeat' apply And.intro
   all_goals first | omega | (with_reducible assumption) | (with_reducible exact trivial) | (with_reducible rfl) | exact beq_self_eq_true _
  ·have hk2 : k < n := by omega
   have T := ipp_out n n (k : Int) cs V
   have ea : adI (k : Int) 1 = ((k + 1 : Nat) : Int) := by rw [adI_eq]; omega
   have en : Int.toNat (((n + 1 : Nat) : Int) - (k : Int)) = n + 1 - k := by omega
   have el : k + (n + 1 - k) = n + 1 := by omega
   have eo1 : ∀ v : Value, loO (some v) 0 k n 3 = k * 3 := fun v => by show slO 0 k n 3 = _; rw [slO_ne (by omega), Nat.zero_add]
   have em : Nat.min (n - k) (n + 1 - (k + 1)) * 3 = (n - k) * 3 := by rw [show Nat.min (n - k) (n + 1 - (k + 1)) = min (n - k) (n + 1 - (k + 1)) from rfl]; omega
   have em1 : Nat.min 1 (n + 1 - k) * 3 = 3 := by rw [show Nat.min 1 (n + 1 - k) = min 1 (n + 1 - k) from rfl]; omega
   have eD : tkD (k * 3) ((n - k) * 3) cs = cs.drop (k * 3) := by rw [Jx, List.take_of_length_le (by omega)]
   have eM : List.take ((n - k) * 3) (cs.drop (k * 3)) = cs.drop (k * 3) := List.take_of_length_le (by omega)
   have eZ : (k + 1) * 3 = k * 3 + 3 := by omega
   have hZ : (zrep zPr ((n + 1 - k) * 3)).length = 3 + (n - k) * 3 := by rw [zrep_len3]; omega
   have eR := ip_out_row (V := V) hA hD hV hZ
   have T0 : runZ (ipV 0) Try.prog 5 49 [.slice (some ⟨0, 0, none⟩) n n, .int .i64 (k : Int), .slice (some ⟨1, 0, none⟩) 1 1] (ipH ⟨.shut, cs⟩ V) 2 [false, true] = _ := T
   clear T0
   simp only [ea, Int.toNat_natCast, eo1, Dh, en, el, em, em1, eD, eM, tV, eZ] at T
   obtain ⟨Z, hZe⟩ : ∃ Z, zrep zPr ((n + 1 - k) * 3) = Z := ⟨_, rfl⟩
   rw [hZe] at hZ eR
   unfold zPr at hZe
   rw [hZe] at T
   refine ⟨_, _, _, C6 (ipX rfl) (hT _) (hL _) T ?_ rfl, by omega, ?_, fun j hj => by cases hj⟩
   ·simp only [Alls, hZ, hcs, hV, hA, hD, Iq, Dj, List.length_append, rg, decide_eq_true_eq, beq_eq_false_iff_ne]
    repeat' apply And.intro
    all_goals first | omega | (with_reducible assumption) | (with_reducible exact trivial) | (with_reducible rfl)
   ·rw [eI, ← eR]; rfl
def cellV (k : Nat) : DV → Value
 | .fl v => v
 | .sl len _ _ => .slice (some ⟨k, 0, none⟩) len (B0 + k)
def E9 : List DV → Nat → List Value
 | [], _ => []
 | d :: ds, k => cellV k d :: E9 ds (k + 1)
structure Pw where
 b : Nat × Nat
 c : Nat
 f : Option (List Nat)
 e : Option Addr
def pwD : Pw := ⟨(0, 0), 0, some [], none⟩
structure OnW (σ : Sg) (k : Nat) (p : Pw) : Prop where
 b : σ.b k = some p.b
 c : σ.c k = some p.c
 f : σ.f k = p.f.map fun l => (l, [])
 e : σ.e k = p.e
theorem DR.pw {W w : World} {F : List Nat} : ∀ {d : DV} {u : Value}, DR W w F d u → ∃ p : Pw, ∀ σ k, OnW σ k p → renV σ (cellV k d) = some u
 | .fl v, u, h => by
   simp only [DR] at h
   obtain ⟨rfl, h⟩ := h
   exact ⟨pwD, fun σ k _ => h σ⟩
 | .sl len cap ds, u, h => by
   simp only [DR] at h
   rcases h with ⟨rfl, rfl, h1, a, rfl⟩ | ⟨b, s, c', rfl, h1, h2⟩
   ·refine ⟨⟨(0, 0), 0, none, a⟩, fun σ k O => ?_⟩
    have e : cpR σ (B0 + k) = some 0 := by rw [Bq]; exact O.c
    exact (Dl O.b O.f rfl e).trans (by rw [O.e])
   ·refine ⟨⟨(b, s), c', some [], none⟩, fun σ k O => ?_⟩
    have e : cpR σ (B0 + k) = some c' := by rw [Bq]; exact O.c
    have hn : σ.f k ≠ none := by rw [O.f]; intro e; cases e
    simpa [cellV] using B5 (o := 0) (l := len) O.b e hn (.inr h1.1)
theorem DRv.pw {W w : World} {F : List Nat} : ∀ {ds : List DV} {us : List Value}, DRv W w F ds us → ∃ ps : List Pw, ps.length = ds.length ∧ ∀ σ k, (∀ j p, ps[j]? = some p → OnW σ (k + j) p) → renL σ (E9 ds k) = some us
 | [], us, h => by simp only [DRv] at h; subst h; exact ⟨[], rfl, fun σ k _ => rfl⟩
 | d :: ds, us, h => by
   simp only [DRv] at h
   obtain ⟨u, us', rfl, h1, h2⟩ := h
   obtain ⟨p, g1⟩ := h1.pw
   obtain ⟨ps, g2, g3⟩ := DRv.pw h2
   refine ⟨p :: ps, by simp [g2], fun σ k hO => Bi (g1 σ k (by simpa using hO 0 p rfl)) (g3 σ (k + 1) fun j q hq => ?_)⟩
   have := hO (j + 1) q (by simpa using hq)
   rwa [show k + (j + 1) = k + 1 + j by omega] at this
theorem K7 : ∀ (ds : List DV) (k : Nat), (E9 ds k).length = ds.length
 | [], k => rfl
 | d :: ds, k => by simp [E9, K7 ds]
theorem K6 : ∀ {ds : List DV} {k : Nat}, (∀ d ∈ ds, DVone d) → all1 (E9 ds k) = true
 | [], k, _ => rfl
 | d :: ds, k, h => by
   have h1 := h d (List.mem_cons_self ..)
   have h2 := K6 (k := k + 1) fun e he => h e (List.mem_cons_of_mem _ he)
   cases d with
   | fl v => simp only [E9, cellV, all1, show one1 v = true from h1, cond_true, h2]
   | sl len cap es => simp only [E9, cellV, all1, one1, cond_true, h2]
def sgI (b bv : Nat) (c : Nat) (qs : List Pw) : Sg := ⟨fun n => if n = 0 then some (b, 0) else if n = 1 then some (bv, 0) else if n < 10 then none else (qs[n - 10]?).map (·.b), fun n => if n = 0 then some c else if n < 10 then none else (qs[n - 10]?).map (·.c), fun n => if n < 10 then some ([], []) else (match qs[n - 10]? with | some q => q.f.map fun l => (l, []) | none => none), fun n => if n < 10 then none else (match qs[n - 10]? with | some q => q.e | none => none), true⟩
theorem sgI_on {b bv c : Nat} {qs : List Pw} {j : Nat} {q : Pw} (h : qs[j]? = some q) : OnW (sgI b bv c qs) (10 + j) q := by
 have h1 : ¬ (10 + j = 0) := by omega
 have h2 : ¬ (10 + j = 1) := by omega
 have h3 : ¬ (10 + j < 10) := by omega
 have h4 : 10 + j - 10 = j := by omega
 refine ⟨?_, ?_, ?_, ?_⟩ <;> simp [sgI, h1, h2, h3, h4, h]
def insD (ds : List DV) (i : Nat) (es : List DV) : List DV := ds.take (i * 3) ++ (es ++ ds.drop (i * 3))
section
variable {W : World} {σ : Sg} {h : Hp} {w : World}
theorem insD_step (hR : Rl W σ h w) {nx : Nat} (hf : Fresh σ nx (nx + 1)) {m v n : Nat} {ds es : List DV} {xs : List Value} {ob : List Prop} {i : Int} (hlm : lk h m = some ⟨.dp 3 zPr ds, []⟩) (hlv : lk h v = some ⟨.shut, xs⟩) (hel : elD h xs = some (es, ob)) (ho : Alls ob)
  (h0 : 0 ≤ i) (hi : i ≤ (n : Int)) (hn : n ≤ 1000) (hds : ds.length = n * 3) (hxs : xs.length = 3) (h1 : ∀ d ∈ ds, DVone d) (h2 : ∀ d ∈ es, DVone d) {args' : List Value} (ha : renL σ [.slice (some ⟨m, 0, none⟩) n (B0 + m), .int .i64 i, .slice (some ⟨v, 0, none⟩) 1 1] = some args') :
  Calls Try.prog 49 args'.toArray w fun e w' => ∃ σ' v', Stp W nx (nx + 1) σ h w σ' ((nx, ⟨.dp 3 zPr (insD ds i.toNat es), []⟩) :: delH (delH h m) v) w' ∧ renV σ' (.slice (some ⟨nx, 0, none⟩) (n + 1) (B0 + nx)) = some v' ∧ e = .returned v' := by
 obtain ⟨b, s, vs0, hb, hv0, q1, q2, q3, us, tt, rest, c, hc, hblk, hrl, hcl, hrz, hdu⟩ := hR.row m _ hlm
 subst q1
 obtain ⟨bv, sv, vs, hbv, hvv, r1, r2, tv, hbk⟩ := hR.row v _ hlv
 subst r1
 have hmo : (⟨.dp 3 zPr ds, []⟩ : Rw).own := fun e => by cases e
 have hvo : (⟨.shut, xs⟩ : Rw).own := fun e => by cases e
 have hmv : m ≠ v := fun e => by subst e; rw [hlm] at hlv; cases hlv
 have hbb : b ≠ bv := fun e => hmv (hR.inj m v _ _ (b, 0) (bv, 0) hlm hlv hmo hvo hb hbv e)
 have hE := Im hR hel ho hvv
 have hul := hdu.len2
 have hvl := Bn hvv
 have hel3 : es.length = 3 := by rw [← hE.len2, hvl, hxs]
 obtain ⟨ps, p1, p2⟩ := DRv.pw ((hdu.more fun q hq => D8 hlm hq).app2 hE)
 have hW : W.heap.size ≤ b ∧ W.heap.size ≤ bv := ⟨q2, r2⟩
 obtain ⟨c1, hc1⟩ : ∃ c1, E9 ds 10 = c1 := ⟨_, rfl⟩
 obtain ⟨c2, hc2⟩ : ∃ c2, E9 es (10 + ds.length) = c2 := ⟨_, rfl⟩
 have happ : ∀ (a b : List DV) (k : Nat), E9 (a ++ b) k = E9 a k ++ E9 b (k + a.length) := by
  intro a
  induction a with
  | nil => intro b k; rfl
  | cons x a ih => intro b k; simp only [List.cons_append, E9, ih, List.length_cons]; rw [show k + 1 + a.length = k + (a.length + 1) by omega]
 have hren := p2 (sgI b bv c ps) 10 fun j p hp => sgI_on hp
 rw [happ, hc1, hc2] at hren
 obtain ⟨g1, g2, k1, k2, k3⟩ := Id hren
 have hl1 : c1.length = ds.length := by rw [← hc1]; exact K7 ds 10
 have hg1 : g1 = us ∧ g2 = vs := by
  have e1 : g1.length = us.length := by rw [Bn k1, hl1, hul]
  exact (List.append_inj k3 e1.symm) |>.imp Eq.symm Eq.symm
 obtain ⟨rfl, rfl⟩ := hg1
 have hl2 : c2.length = 3 := by rw [← hc2, K7, hel3]
 have a1 : all1 c1 = true := by rw [← hc1]; exact K6 h1
 have a2 : all1 c2 = true := by rw [← hc2]; exact K6 h2
 have T := ipp_tri (n := n) (i := i) (cs := c1) (V := c2) h0 hi hn (by rw [hl1, hds]) hl2 a2 a1
 have hR0 : Rl W (sgI b bv c ps) (ipH ⟨.room 3 zPr, c1⟩ c2) w := by
  have cls : ∀ k r, lk (ipH ⟨.room 3 zPr, c1⟩ c2) k = some r → (k = 0 ∧ r = ⟨.room 3 zPr, c1⟩) ∨ (k = 1 ∧ r = ⟨.shut, c2⟩) := fun k r e => by
   simp only [ipH, B3] at e
   split at e
   ·rename_i e1; cases e; exact .inl ⟨e1.symm, rfl⟩
   ·split at e
    ·rename_i e1; cases e; exact .inr ⟨e1.symm, rfl⟩
    ·cases e
  refine ⟨⟨hR.ext, fun k r e => ?_, fun k j r s p q hk hj hr hs hp hq e => ?_⟩, rfl, fun k r e _ => ?_, fun k r x e hx => ?_, fun k r x e hx => ?_⟩
  ·rcases cls k r e with ⟨rfl, rfl⟩ | ⟨rfl, rfl⟩
   ·exact ⟨b, 0, g1, rfl, k1, rfl, q2, tt, rest, c, rfl, hblk, hrl, hcl, hrz⟩
   ·exact ⟨bv, 0, g2, rfl, k2, rfl, r2, tv, hbk⟩
  ·rcases cls k r hk with ⟨rfl, rfl⟩ | ⟨rfl, rfl⟩ <;> rcases cls j s hj with ⟨rfl, rfl⟩ | ⟨rfl, rfl⟩
   ·rfl
   ·simp [sgI] at hp hq; subst hp; subst hq; exact absurd e hbb
   ·simp [sgI] at hp hq; subst hp; subst hq; exact absurd e.symm hbb
   ·rfl
  ·rcases cls k r e with ⟨rfl, _⟩ | ⟨rfl, _⟩ <;> simp [sgI]
  ·rcases cls k r e with ⟨rfl, _⟩ | ⟨rfl, _⟩ <;> simp [sh, sgI] at hx
  ·rcases cls k r e with ⟨rfl, _⟩ | ⟨rfl, _⟩ <;> simp [ex, sgI] at hx
 have hB0 : Bd (ipH ⟨.room 3 zPr, c1⟩ c2) 2 := fun k hk => by
  simp only [ipH, B3]
  rw [if_neg (by omega), if_neg (by omega)]
  rfl
 have hfr0 : Fresh (sgI b bv c ps) 2 6 := fun k hk1 hk2 => by
  simp only [sgI]
  rw [if_neg (by omega), if_neg (by omega), if_pos (by omega), if_neg (by omega), if_pos (by omega)]
  exact ⟨rfl, rfl⟩
 obtain ⟨x1, l1, e1, e2, rfl⟩ := B9 ha
 obtain ⟨x2, l2, e3, e4, rfl⟩ := B9 e2
 obtain ⟨x3, l3, e5, e6, rfl⟩ := B9 e4
 simp only [renL, oI] at e6
 subst e6
 have hnc : n ≤ c := by
  rw [List.length_append, hul, hds] at hrl
  omega
 have nnm : σ.f m ≠ none := hR.shr.1 m _ hlm hmo
 have nnv : σ.f v ≠ none := hR.shr.1 v _ hlv hvo
 have hx1 : x1 = .slice (some ⟨b, 0, none⟩) n c := by
  have := B5 (l := n) (o := 0) (c := B0 + m) (c' := c) hb (by rw [Bq]; exact hc) nnm (.inr hnc)
  rw [this] at e1
  simpa using e1.symm
 have hx3 : x3 = .slice (some ⟨bv, 0, none⟩) 1 1 := by
  have := B5 (l := 1) (o := 0) (c := 1) (c' := 1) hbv (by unfold cpR; rw [if_pos (by unfold B0; omega)]) nnv (.inr (Nat.le_refl _))
  rw [this] at e5
  simpa using e5.symm
 have hargs : renL (sgI b bv c ps) [.slice (some ⟨0, 0, none⟩) n (B0 + 0), .int .i64 i, .slice (some ⟨1, 0, none⟩) 1 1] = some [x1, x2, x3] := by
  refine Bi ?_ (Bi ?_ (Bi ?_ rfl))
  ·rw [hx1]
   have := B5 (σ := sgI b bv c ps) (n := 0) (l := n) (o := 0) (c := B0 + 0) (c' := c) (p := (b, 0)) rfl (by rw [Bq]; rfl) (by simp [sgI]) (.inr hnc)
   simpa using this
  ·simp only [renV] at e3 ⊢; exact e3
  ·rw [hx3]
   have := B5 (σ := sgI b bv c ps) (n := 1) (l := 1) (o := 0) (c := 1) (c' := 1) (p := (bv, 0)) rfl (by unfold cpR; rw [if_pos (by unfold B0; omega)]) (by simp [sgI]) (.inr (Nat.le_refl _))
   simpa using this
 refine (T.2 hB0 W _ w _ hR0 hfr0 hargs).mono ?_
 rintro e w' ⟨τ, u, S, hu, rfl⟩
 simp only at S hu
 have hl5 : lk ((2 + 3, (⟨.room 3 zPr, insC c1 i c2⟩ : Rw)) :: delH (ipH ⟨.room 3 zPr, c1⟩ c2) 0) (2 + 3) = some ⟨.room 3 zPr, insC c1 i c2⟩ := by rw [B3, if_pos rfl]
 obtain ⟨b', s', vs', t1, t2, t3, t4, t5, rest', c', t6, t7, t8, t9, t10⟩ := S.rl.row _ _ hl5
 subst t3
 have ho5 : (⟨.room 3 zPr, insC c1 i c2⟩ : Rw).own := fun e => by cases e
 have hcells : vs' = g1.take (i.toNat * 3) ++ (g2 ++ g1.drop (i.toNat * 3)) := by
  have y1 := Cf S.le _ _ k1
  have y2 := Cf S.le _ _ k2
  have y3 : renL τ (insC c1 i c2) = some (g1.take (i.toNat * 3) ++ (g2 ++ g1.drop (i.toNat * 3))) := C7 (Dw _ y1) (C7 y2 (Cr _ y1))
  simp only at t2
  rw [y3] at t2
  exact (Option.some.inj t2).symm
 have hwh : w.heap.size ≤ b' ∨ b' = b ∨ b' = bv := by
  rcases S.src _ _ (b', 0) hl5 ho5 t1 with g | ⟨k, r, q, g1', g2', g3', g4'⟩
  ·exact .inl g
  ·simp only [ipH, B3] at g1'
   split at g1'
   ·rename_i e1; subst e1; simp [sgI] at g3'; subst g3'; exact .inr (.inl g4'.symm)
   ·split at g1'
    ·rename_i e1; subst e1; simp [sgI] at g3'; subst g3'; exact .inr (.inr g4'.symm)
    ·cases g1'
 have same : ∀ k, k < w.heap.size → k ≠ b → k ≠ bv → w'.heap[k]? = w.heap[k]? := fun k hk hkb hkv => S.fr k hk (fun j r p hj hr hp => by
  simp only [ipH, B3] at hj
  split at hj
  ·rename_i e1; subst e1; simp [sgI] at hp; subst hp; exact Ne.symm hkb
  ·split at hj
   ·rename_i e1; subst e1; simp [sgI] at hp; subst hp; exact Ne.symm hkv
   ·cases hj) fun j r hj hx => by
  simp only [ipH, B3] at hj
  split at hj
  ·rename_i e1; subst e1; simp [ex, sgI] at hx
  ·split at hj
   ·rename_i e1; subst e1; simp [ex, sgI] at hx
   ·cases hj
 have hbz : b < w.heap.size := hR.lt hlm hmo hb
 have hbvz : bv < w.heap.size := hR.lt hlv hvo hbv
 have shsame : ∀ k j s, lk h j = some s → k ∈ sh σ j → w'.heap[k]? = w.heap[k]? := fun k j s hj hk => by
  obtain ⟨g1', g2'⟩ := hR.shr.2.1 j s k hj hk
  exact same k g1' (fun e => g2' m _ (b, 0) hlm hmo hb e.symm) (fun e => g2' v _ (bv, 0) hlv hvo hbv e.symm)
 have exsame : ∀ k j s, lk h j = some s → k ∈ ex σ j → w'.heap[k]? = w.heap[k]? := fun k j s hj hk => by
  obtain ⟨g1', g2', _⟩ := hR.shr.2.2 j s k hj hk
  exact same k g1' (fun e => g2' m _ (b, 0) hlm hmo hb e.symm) (fun e => g2' v _ (bv, 0) hlv hvo hbv e.symm)
 have FA : ∀ k, k ∈ Bs σ h → w'.heap[k]? = w.heap[k]? := fun k hk => by
  obtain ⟨j, s, hj, hk2⟩ := Ci hk
  exact shsame k j s hj hk2
 have hne : ∀ j r, lk h j = some r → j ≠ nx := fun j r hj e => by
  subst e
  obtain ⟨b9, s9, v9, hb9, _⟩ := hR.row _ _ hj
  rw [(hf j (Nat.le_refl _) (by omega)).1] at hb9
  cases hb9
 obtain ⟨ρ, hρ⟩ : ∃ ρ, ρ = σ.vwc nx (b', 0) c' (some (Bs σ h)) none := ⟨_, rfl⟩
 have hbs : ∀ k, k ≠ nx → ρ.b k = σ.b k ∧ ρ.c k = σ.c k ∧ ρ.f k = σ.f k ∧ ρ.e k = σ.e k ∧ ρ.w = σ.w := fun k hk => by subst hρ; simp only [Sg.vwc]; rw [if_neg hk, if_neg hk, if_neg hk, if_neg hk]; exact ⟨rfl, rfl, rfl, rfl, trivial⟩
 have hbN : ρ.b nx = some (b', 0) := by subst hρ; simp [Sg.vwc]
 have hcN : ρ.c nx = some c' := by subst hρ; simp [Sg.vwc]
 have hfN : ρ.f nx = some (Bs σ h, []) := by subst hρ; simp [Sg.vwc]
 have hle : σ.le ρ := by
  have hf0 := hf nx (Nat.le_refl _) (by omega)
  refine ⟨fun k q e => ?_, fun k q e => ?_, fun k q e => ?_⟩
  ·have hk : k ≠ nx := fun e2 => by subst e2; rw [hf0.1] at e; cases e
   rw [(hbs k hk).1]; exact e
  ·have hk : k ≠ nx := fun e2 => by subst e2; rw [hf0.2] at e; cases e
   rw [(hbs k hk).2.1]; exact e
  ·have hk : k ≠ nx := fun e2 => by subst e2; rw [hf0.1] at e; cases e
   exact (hbs k hk).2
 have shs : ∀ k, k ≠ nx → sh ρ k = sh σ k := fun k hk => by unfold sh; rw [(hbs k hk).2.2.1]
 have shN : sh ρ nx = Bs σ h := by unfold sh; rw [hfN]; rfl
 have exs : ∀ k, k ≠ nx → ex ρ k = ex σ k := fun k hk => by unfold ex; rw [(hbs k hk).2.2.1]
 have exN : ex ρ nx = [] := by unfold ex; rw [hfN]; rfl
 have cls : ∀ k r, lk ((nx, (⟨.dp 3 zPr (insD ds i.toNat es), []⟩ : Rw)) :: delH (delH h m) v) k = some r → (k = nx ∧ r = ⟨.dp 3 zPr (insD ds i.toNat es), []⟩) ∨ (k ≠ nx ∧ k ≠ m ∧ k ≠ v ∧ lk h k = some r) := fun k r e => by
  rw [B3] at e
  split at e
  ·rename_i e1; cases e; exact .inl ⟨e1.symm, rfl⟩
  ·rename_i e1
   rw [Bf] at e
   split at e
   ·cases e
   ·rename_i e2
    rw [Bf] at e
    split at e
    ·cases e
    ·rename_i e3; exact .inr ⟨Ne.symm e1, Ne.symm e3, Ne.symm e2, e⟩
 have oblk : ∀ k r p, lk h k = some r → r.own → σ.b k = some p → k ≠ m → k ≠ v → p.1 < w.heap.size ∧ p.1 ≠ b ∧ p.1 ≠ bv := fun k r p hk hr hp h3 h4 => ⟨hR.lt hk hr hp, fun e => h3 (hR.inj k m r _ p (b, 0) hk hlm hr hmo hp hb e), fun e => h4 (hR.inj k v r _ p (bv, 0) hk hlv hr hvo hp hbv e)⟩
 refine ⟨ρ, u, ⟨hle, fun k hk => ?_, ⟨⟨S.rl.ext, fun k r hk => ?_, fun k j r s p q hk hj hr hs hp hq e => ?_⟩, (by subst hρ; exact hR.wf), fun k r hk hr => ?_, fun k r x hk hx => ?_, fun k r x hk hx => ?_⟩, S.size, fun k hk hno _ => ?_, fun k r p hk hr hp => ?_, fun k r x hk hx => ?_, fun k r x hk hx => ?_⟩, ?_, rfl⟩
 ·have hk2 : k ≠ nx := by omega
  exact ⟨(hbs k hk2).1, (hbs k hk2).2.1⟩
 ·rcases cls k r hk with ⟨rfl, rfl⟩ | ⟨e1, e2, e3, e4⟩
  ·refine ⟨b', 0, [], hbN, rfl, rfl, t4, rfl, vs', t5, rest', c', hcN, t7, t8, t9, t10, ?_⟩
   rw [shN, hcells]
   have d1 : DRv W w (Bs σ h) ds g1 := hdu.more fun q hq => D8 hlm hq
   exact DRv.keep FA _ _ ((d1.take _).app2 (hE.app2 (d1.dropv _)))
  ·exact (hR.row k r e4).keep hle (fun hr p hp => by
    obtain ⟨y1, y2, y3⟩ := oblk k r p e4 hr hp e2 e3
    exact same _ y1 y2 y3) (fun q hq => shsame q k r e4 hq) fun q hq => exsame q k r e4 hq
 ·have ob' : ∀ k r p, k ≠ nx → k ≠ m → k ≠ v → lk h k = some r → r.own → ρ.b k = some p → p.1 ≠ b' := fun k r p h1' h2' h3' h4' h5' h6' e => by
   rw [(hbs k h1').1] at h6'
   obtain ⟨y1, y2, y3⟩ := oblk k r p h4' h5' h6' h2' h3'
   rcases hwh with y | y | y
   ·omega
   ·exact y2 (e.trans y)
   ·exact y3 (e.trans y)
  rcases cls k r hk with ⟨rfl, rfl⟩ | ⟨e1', e2', e3', e4'⟩ <;> rcases cls j s hj with ⟨f1, f2⟩ | ⟨f1, f2, f3, f4⟩
  ·exact f1.symm
  ·rw [hbN] at hp; cases hp
   exact absurd e.symm (ob' j s q f1 f2 f3 f4 hs hq)
  ·subst f1
   rw [hbN] at hq; cases hq
   exact absurd e (ob' k r p e1' e2' e3' e4' hr hp)
  ·rw [(hbs k e1').1] at hp
   rw [(hbs j f1).1] at hq
   exact hR.inj k j r s p q e4' f4 hr hs hp hq e
 ·rcases cls k r hk with ⟨rfl, rfl⟩ | ⟨e1', e2', e3', e4'⟩
  ·rw [hfN]; intro e; cases e
  ·rw [(hbs k e1').2.2.1]; exact hR.shr.1 k r e4' hr
 ·have hsrc : ∃ j s, lk h j = some s ∧ x ∈ sh σ j := by
   rcases cls k r hk with ⟨rfl, rfl⟩ | ⟨e1', e2', e3', e4'⟩
   ·rw [shN] at hx; exact Ci hx
   ·rw [shs k e1'] at hx; exact ⟨k, r, e4', hx⟩
  obtain ⟨j, s, hj, hxj⟩ := hsrc
  obtain ⟨y1, y2⟩ := hR.shr.2.1 j s x hj hxj
  refine ⟨Nat.lt_of_lt_of_le y1 S.size, fun k2 r2 q hk2 hr2 hq => ?_⟩
  rcases cls k2 r2 hk2 with ⟨rfl, rfl⟩ | ⟨e1', e2', e3', e4'⟩
  ·rw [hbN] at hq; cases hq
   rcases hwh with y | y | y
   ·intro e; simp only at e; omega
   ·intro e; exact y2 m _ (b, 0) hlm hmo hb (y.symm.trans e)
   ·intro e; exact y2 v _ (bv, 0) hlv hvo hbv (y.symm.trans e)
  ·rw [(hbs k2 e1').1] at hq; exact y2 k2 r2 q e4' hr2 hq
 ·rcases cls k r hk with ⟨rfl, rfl⟩ | ⟨e1, e2, e3, e4⟩
  ·rw [exN] at hx; cases hx
  rw [exs k e1] at hx
  obtain ⟨y1, y2, y3⟩ := hR.shr.2.2 k r x e4 hx
  refine ⟨Nat.lt_of_lt_of_le y1 S.size, fun k2 r2 q hk2 hr2 hq => ?_, fun k2 r2 hk2 => ?_⟩
  ·rcases cls k2 r2 hk2 with ⟨rfl, rfl⟩ | ⟨e1', e2', e3', e4'⟩
   ·rw [hbN] at hq; cases hq
    rcases hwh with y | y | y
    ·intro e; simp only at e; omega
    ·intro e; exact y2 m _ (b, 0) hlm hmo hb (y.symm.trans e)
    ·intro e; exact y2 v _ (bv, 0) hlv hvo hbv (y.symm.trans e)
   ·rw [(hbs k2 e1').1] at hq; exact y2 k2 r2 q e4' hr2 hq
  ·rcases cls k2 r2 hk2 with ⟨rfl, rfl⟩ | ⟨e1', e2', e3', e4'⟩
   ·rw [shN, exN]
    refine ⟨fun hs => ?_, fun hs => by cases hs⟩
    obtain ⟨j, s, hj, hs2⟩ := Ci hs
    exact (y3 j s hj).1 hs2
   ·rw [shs k2 e1', exs k2 e1']
    exact y3 k2 r2 e4'
 ·exact same k hk (fun e => hno m _ (b, 0) hlm hmo hb e.symm) (fun e => hno v _ (bv, 0) hlv hvo hbv e.symm)
 ·rcases cls k r hk with ⟨rfl, rfl⟩ | ⟨e1', e2', e3', e4'⟩
  ·rw [hbN] at hp; cases hp
   rcases hwh with y | y | y
   ·exact .inl y
   ·exact .inr ⟨m, _, (b, 0), hlm, hmo, hb, y.symm⟩
   ·exact .inr ⟨v, _, (bv, 0), hlv, hvo, hbv, y.symm⟩
  ·rw [(hbs k e1').1] at hp; exact .inr ⟨k, r, p, e4', hr, hp, rfl⟩
 ·rcases cls k r hk with ⟨rfl, rfl⟩ | ⟨e1', e2', e3', e4'⟩
  ·rw [shN] at hx; exact .inr (.inr (Ci hx))
  ·rw [shs k e1'] at hx; exact .inr (.inr ⟨k, r, e4', hx⟩)
 ·rcases cls k r hk with ⟨rfl, rfl⟩ | ⟨e1', e2', e3', e4'⟩
  ·rw [exN] at hx; cases hx
  ·rw [exs k e1'] at hx; exact .inr (.inr ⟨k, r, e4', hx⟩)
 ·have hvl' : n + 1 ≤ c' := by
   have z1 : vs'.length = n * 3 + 3 := by
    rw [hcells]
    have w1 : g1.length = n * 3 := hul.trans hds
    have w2 : g2.length = 3 := hvl.trans hxs
    simp only [List.length_append, List.length_take, List.length_drop, w1, w2]
    omega
   rw [List.length_append] at t8
   omega
  have y1 := B5 (σ := τ) (l := n + 1) (o := 0) (c := B0 + (2 + 3)) (c' := c') t1 (by rw [Bq]; exact t6) (S.rl.shr.1 _ _ hl5 ho5) (.inr hvl')
  rw [y1] at hu
  rw [B5 (σ := ρ) (l := n + 1) (o := 0) (c := B0 + nx) (c' := c') hbN (by rw [Bq]; exact hcN) (by rw [hfN]; intro e; cases e) (.inr hvl')]
  exact hu
end
def zP : List Value := [.slice none 0 0, .slice none 0 0, .bool false]
def b1 (x : Int) : Rw := ⟨.room 1 [.int .u8 0], [.int .u8 x]⟩
def cP (k v : Nat) : List Value := [.slice (some ⟨k, 0, none⟩) 1 (B0 + k), .slice (some ⟨v, 0, none⟩) 1 (B0 + v), .bool false]
def sP (k v : Nat) : List Value := [.slice (some ⟨k, 0, none⟩) 1 1, .slice (some ⟨v, 0, none⟩) 1 1, .bool false]
def inH (r : Rw) : Hp := [(14, ⟨.shut, sP 12 13⟩), (13, ⟨.lent, [.int .u8 50]⟩), (12, ⟨.lent, [.int .u8 97]⟩), (3, ⟨.shut, sP 1 2⟩), (2, ⟨.lent, [.int .u8 49]⟩), (1, ⟨.lent, [.int .u8 98]⟩), (0, ⟨.shut, [.bool true, .slice (some ⟨11, 0, none⟩) 1 (B0 + 11)]⟩), (9, b1 49), (8, b1 98), (7, ⟨.shut, []⟩), (5, ⟨.shut, sP 1 2⟩), (6, ⟨.shut, cP 8 9⟩), (10, ⟨.shut, cP 8 9⟩), (11, r), (22, b1 50), (21, b1 97), (20, ⟨.shut, []⟩), (18, ⟨.shut, sP 12 13⟩), (19, ⟨.shut, cP 21 22⟩), (23, ⟨.shut, cP 21 22⟩)]
def inV : Tv := ⟨noTz, mtX, noL, tbl 49 [31], lsSy 49 [(12, 0), (30, 0), (60, 0), (66, 0), (73, 0), (76, 0), (77, 0), (80, 0), (82, 0)], fun _ => [], fun _ => 0⟩
theorem ins_in (k : Nat) (x y z : Value) (rest : List Value) : runZ inV Try.prog 5 49 [.slice (some ⟨11, 0, none⟩) 1 (k + 2), .int .i64 0, .slice (some ⟨23, 0, none⟩) 1 1] (inH ⟨.shut, cP 8 9 ++ x :: y :: z :: rest⟩) 24 [false] =
 Res.ok ((Value.slice (some (Addr.mk 11 0 none)) 2 (k + 2), [(14, Rw.mk Kd.shut [Value.slice (some (Addr.mk 12 0 none)) 1 1, Value.slice (some (Addr.mk 13 0 none)) 1 1, Value.bool false]), (13, Rw.mk Kd.lent [Value.int IntKind.u8 (50 : Int)]), (12, Rw.mk Kd.lent [Value.int IntKind.u8 (97 : Int)]), (3, Rw.mk Kd.shut [Value.slice (some (Addr.mk 1 0 none)) 1 1, Value.slice (some (Addr.mk 2 0 none)) 1 1, Value.bool false]), (2, Rw.mk Kd.lent [Value.int IntKind.u8 (49 : Int)]), (1, Rw.mk Kd.lent [Value.int IntKind.u8 (98 : Int)]), (0, Rw.mk Kd.shut [Value.bool true, Value.slice (some (Addr.mk 11 0 none)) 1 (B0 + 11)]), (9, Rw.mk (Kd.room 1 [Value.int IntKind.u8 (0 : Int)]) [Value.int IntKind.u8 (49 : Int)]), (8, Rw.mk (Kd.room 1 [Value.int IntKind.u8 (0 : Int)]) [Value.int IntKind.u8 (98 : Int)]), (7, Rw.mk Kd.shut []), (5, Rw.mk Kd.shut [Value.slice (some (Addr.mk 1 0 none)) 1 1,
 Value.slice (some (Addr.mk 2 0 none)) 1 1, Value.bool false]), (6, Rw.mk Kd.shut [Value.slice (some (Addr.mk 8 0 none)) 1 (B0 + 8), Value.slice (some (Addr.mk 9 0 none)) 1 (B0 + 9), Value.bool false]), (10, Rw.mk Kd.shut [Value.slice (some (Addr.mk 8 0 none)) 1 (B0 + 8), Value.slice (some (Addr.mk 9 0 none)) 1 (B0 + 9), Value.bool false]), (11, Rw.mk Kd.shut (Value.slice (some (Addr.mk 21 0 none)) 1 (B0 + 21) :: Value.slice (some (Addr.mk 22 0 none)) 1 (B0 + 22) :: Value.bool false :: Value.slice (some (Addr.mk 8 0 none)) 1 (B0 + 8) :: Value.slice (some (Addr.mk 9 0 none)) 1 (B0 + 9) :: Value.bool false :: rest)), (22, Rw.mk (Kd.room 1 [Value.int IntKind.u8 (0 : Int)]) [Value.int IntKind.u8 (50 : Int)]), (21, Rw.mk (Kd.room 1 [Value.int IntKind.u8 (0 : Int)]) [Value.int IntKind.u8 (97 : Int)]), (20, Rw.mk Kd.shut []), (18, Rw.mk Kd.shut [Value.slice (some
 (Addr.mk 12 0 none)) 1 1, Value.slice (some (Addr.mk 13 0 none)) 1 1, Value.bool false]), (19, Rw.mk Kd.shut [Value.slice (some (Addr.mk 21 0 none)) 1 (B0 + 21), Value.slice (some (Addr.mk 22 0 none)) 1 (B0 + 22), Value.bool false]), (23, Rw.mk Kd.shut [Value.slice (some (Addr.mk 21 0 none)) 1 (B0 + 21), Value.slice (some (Addr.mk 22 0 none)) 1 (B0 + 22), Value.bool false])], 24, [11, 11]), [], ((fun (q0 q1 q2 q3 : Prop) => [q0, (0 : Int) ≤ (0 : Int) ∧ (0 : Int) ≤ (1 : Int), q0, false = false, q0, (0 : Int) ≤ (2 : Int) ∧ (2 : Int) ≤ (↑(k + 2) : Int), q0, q1, q0, q1, q0, q2, q3, q3, all1 [Value.slice (some (Addr.mk 8 0 none)) 1 (B0 + 8), Value.slice (some (Addr.mk 9 0 none)) 1 (B0 + 9), Value.bool false, x, y, z] = true, q0, q2, 3 ≤ List.length (Bg ([Value.slice (some (Addr.mk 8 0 none)) 1 (B0 + 8), Value.slice (some (Addr.mk 9 0 none)) 1 (B0 + 9),
 Value.bool false] ++ x :: y :: z :: rest) 3 [Value.slice (some (Addr.mk 8 0 none)) 1 (B0 + 8), Value.slice (some (Addr.mk 9 0 none)) 1 (B0 + 9), Value.bool false]), 3 ≤ 3, true = true]) (k + 2 < 18446744073709551616) ((0 : Int) ≤ (1 : Int) ∧ (1 : Int) ≤ (2 : Int)) ((0 : Int) ≤ (0 : Int) ∧ (0 : Int) ≤ (2 : Int)) (6 ≤ List.length ([Value.slice (some (Addr.mk 8 0 none)) 1 (B0 + 8), Value.slice (some (Addr.mk 9 0 none)) 1 (B0 + 9), Value.bool false] ++ x :: y :: z ::
 rest)))) := by kernel_rfl
theorem ins_out  : runZ inV Try.prog 5 49 [.slice (some ⟨11, 0, none⟩) 1 1, .int .i64 0, .slice (some ⟨23, 0, none⟩) 1 1] (inH ⟨.shut, cP 8 9⟩) 24 [true] =
 Res.ok ((Value.slice (some (Addr.mk 24 0 none)) 2 (B0 + 24), [(24, Rw.mk (Kd.room 3 [Value.slice none 0 0, Value.slice none 0 0, Value.bool false]) [Value.slice (some (Addr.mk 21 0 none)) 1 (B0 + 21), Value.slice (some (Addr.mk 22 0 none)) 1 (B0 + 22), Value.bool false, Value.slice (some (Addr.mk 8 0 none)) 1 (B0 + 8), Value.slice (some (Addr.mk 9 0 none)) 1 (B0 + 9), Value.bool false]), (14, Rw.mk Kd.shut [Value.slice (some (Addr.mk 12 0 none)) 1 1, Value.slice (some (Addr.mk 13 0 none)) 1 1, Value.bool false]), (13, Rw.mk Kd.lent [Value.int IntKind.u8 (50 : Int)]), (12, Rw.mk Kd.lent [Value.int IntKind.u8 (97 : Int)]), (3, Rw.mk Kd.shut [Value.slice (some (Addr.mk 1 0 none)) 1 1, Value.slice (some (Addr.mk 2 0 none)) 1 1, Value.bool false]), (2, Rw.mk Kd.lent [Value.int IntKind.u8 (49 : Int)]), (1, Rw.mk Kd.lent [Value.int IntKind.u8 (98 : Int)]), (0, Rw.mk Kd.shut
 [Value.bool true, Value.slice (some (Addr.mk 11 0 none)) 1 (B0 + 11)]), (9, Rw.mk (Kd.room 1 [Value.int IntKind.u8 (0 : Int)]) [Value.int IntKind.u8 (49 : Int)]), (8, Rw.mk (Kd.room 1 [Value.int IntKind.u8 (0 : Int)]) [Value.int IntKind.u8 (98 : Int)]), (7, Rw.mk Kd.shut []), (5, Rw.mk Kd.shut [Value.slice (some (Addr.mk 1 0 none)) 1 1, Value.slice (some (Addr.mk 2 0 none)) 1 1, Value.bool false]), (6, Rw.mk Kd.shut [Value.slice (some (Addr.mk 8 0 none)) 1 (B0 + 8), Value.slice (some (Addr.mk 9 0 none)) 1 (B0 + 9), Value.bool false]), (10, Rw.mk Kd.shut [Value.slice (some (Addr.mk 8 0 none)) 1 (B0 + 8), Value.slice (some (Addr.mk 9 0 none)) 1 (B0 + 9), Value.bool false]), (11, Rw.mk Kd.shut [Value.slice (some (Addr.mk 8 0 none)) 1 (B0 + 8), Value.slice (some (Addr.mk 9 0 none)) 1 (B0 + 9), Value.bool false]), (22, Rw.mk (Kd.room 1 [Value.int IntKind.u8 (0 :
 Int)]) [Value.int IntKind.u8 (50 : Int)]), (21, Rw.mk (Kd.room 1 [Value.int IntKind.u8 (0 : Int)]) [Value.int IntKind.u8 (97 : Int)]), (20, Rw.mk Kd.shut []), (18, Rw.mk Kd.shut [Value.slice (some (Addr.mk 12 0 none)) 1 1, Value.slice (some (Addr.mk 13 0 none)) 1 1, Value.bool false]), (19, Rw.mk Kd.shut [Value.slice (some (Addr.mk 21 0 none)) 1 (B0 + 21), Value.slice (some (Addr.mk 22 0 none)) 1 (B0 + 22), Value.bool false]), (23, Rw.mk Kd.shut [Value.slice (some (Addr.mk 21 0 none)) 1 (B0 + 21), Value.slice (some (Addr.mk 22 0 none)) 1 (B0 + 22), Value.bool false])], 27, []), [], [1 < 18446744073709551616, (0 : Int) ≤ (0 : Int) ∧ (0 : Int) ≤ (1 : Int), 1 < 18446744073709551616, true =
 true]) := by kernel_rfl
theorem inX {V : Tv} (h : V.X = mtX) : XOkZ V Try.prog := XOneZ.ok mtX_ok h
theorem zP_no : ∀ x ∈ zP, noAd x = true := fun x hx => by
 simp only [zP, List.mem_cons, List.not_mem_nil, or_false] at hx
 rcases hx with rfl | rfl | rfl <;> rfl
theorem zP_one {x : Value} (h : x ∈ zP) : one1 x = true := by
 simp only [zP, List.mem_cons, List.not_mem_nil, or_false] at h
 rcases h with rfl | rfl | rfl <;> rfl
theorem list3 {l : List Value} (h : 3 ≤ l.length) : ∃ x y z r, l = x :: y :: z :: r := by
 rcases l with _ | ⟨x, _ | ⟨y, _ | ⟨z, r⟩⟩⟩
 ·simp at h
 ·simp at h
 ·simp at h
 ·exact ⟨x, y, z, r, rfl⟩
theorem ins_in_tri : Tri Try.prog 49 [.slice (some ⟨11, 0, none⟩) 1 (B0 + 11), .int .i64 0, .slice (some ⟨23, 0, none⟩) 1 1] (inH ⟨.room 3 zP, cP 8 9⟩) 24 (.slice (some ⟨24 + 3, 0, none⟩) (1 + 1) (B0 + (24 + 3)), (24 + 3, ⟨.room 3 zP, cP 21 22 ++ cP 8 9⟩) :: delH (inH ⟨.room 3 zP, cP 8 9⟩) 11, 24 + 3 + 1, [11]) := by
 have hX : XOkZ inV Try.prog := inX rfl
 have hT : TOkZ inV Try.prog := D4 rfl
 have hL : LOkZ inV Try.prog := C9 rfl
 refine ins_tri (m := 11) (n := 1) (K := 3) (sz := 3) (z := zP) (cs := cP 8 9) (by omega) rfl (by omega) rfl zP_no (fun k rest hm hr hz => ?_) ?_
 ·obtain ⟨x, y, z, rest, rfl⟩ := list3 (by omega : 3 ≤ rest.length)
  ·have hk : 1 + 1 + k = k + 2 := by omega
   rw [hk] at hm ⊢
   have hlow := Nat.lt_of_le_of_lt hm Ih
   have h1 : one1 x = true := zP_one (hz x (by simp))
   have h2 : one1 y = true := zP_one (hz y (by simp))
   have h3 : one1 z = true := zP_one (hz z (by simp))
   have T := C6 hX hT hL (ins_in k x y z rest) ?_ rfl
   ·refine ⟨_, _, _, rest, T, ?_, rfl, ?_, fun v hv => hz v (by simp [hv]), fun j hj => by simpa using hj⟩
    ·omega
    ·simp only [List.length_cons] at hr
     simp only [cP, List.cons_append, List.nil_append, List.length_cons]
     omega
   ·simp only [B0] at hlow ⊢
    have ha : ∀ o1 l1 c1 o2 l2 c2, all1 [.slice o1 l1 c1, .slice o2 l2 c2, .bool false, x, y, z] = true := fun o1 l1 c1 o2 l2 c2 => by
     show (bif one1 x then (bif one1 y then (bif one1 z then true else false) else false) else false) = true
     rw [h1, h2, h3]; rfl
    simp only [Alls, ha, List.length_append, List.length_cons, List.length_nil, Bg, List.length_set, List.cons_append, List.nil_append]
    repeat' apply And.intro
    all_goals first | trivial | omega | skip
 ·exact ⟨_, _, _, C6 hX hT hL ins_out (by simp [Alls]) rfl, by omega, rfl, fun j hj => by cases hj⟩
def inT : TFun := fun f args h nx tp => bif Nat.beq f 49 then (match args with
 | [.slice (some ⟨11, 0, none⟩) 1 _, .int _ 0, .slice (some ⟨23, 0, none⟩) 1 1] => frc h fun h => some (.ok ((.slice (some ⟨27, 0, none⟩) 2 (B0 + 27), (27, ⟨.room 3 zP, cP 21 22 ++ cP 8 9⟩) :: delH h 11, 28, [11]), tp, [h = inH ⟨.room 3 zP, cP 8 9⟩ ∧ args = [.slice (some ⟨11, 0, none⟩) 1 (B0 + 11), .int .i64 0, .slice (some ⟨23, 0, none⟩) 1 1] ∧ nx = 24]))
 | _ => none) else none
theorem inT_one : Cv Try.prog inT := by
 intro f args h nx tp out tp' ob e ho
 unfold inT at e
 rcases Be e with ⟨hf, e1⟩ | ⟨_, e1⟩
 case inr => cases e1
 clear e
 obtain rfl := Nat.eq_of_beq_eq_true hf
 split at e1
 case h_2 => cases e1
 rw [Cz] at e1
 simp only [oI, Res.ok.injEq, pI] at e1
 obtain ⟨rfl, rfl, rfl⟩ := e1
 obtain ⟨⟨rfl, ha, rfl⟩, _⟩ := ho
 rw [ha]
 exact ins_in_tri
def awV : Tv := ⟨inT, mtX, noL, fun _ => [], noSy, fun _ => [], fun _ => 0⟩
theorem mt_aw  : prjV (runZ awV Try.prog 30 16 [] [] 0 []) =
 Res.ok (Value.bool true, [], [[(14, Rw.mk Kd.shut [Value.slice (some (Addr.mk 12 0 none)) 1 1, Value.slice (some (Addr.mk 13 0 none)) 1 1, Value.bool false]), (13, Rw.mk Kd.lent [Value.int IntKind.u8 (50 : Int)]), (12, Rw.mk Kd.lent [Value.int IntKind.u8 (97 : Int)]), (3, Rw.mk Kd.shut [Value.slice (some (Addr.mk 1 0 none)) 1 1, Value.slice (some (Addr.mk 2 0 none)) 1 1, Value.bool false]), (2, Rw.mk Kd.lent [Value.int IntKind.u8 (49 : Int)]), (1, Rw.mk Kd.lent [Value.int IntKind.u8 (98 : Int)]), (0, Rw.mk Kd.shut [Value.bool true, Value.slice (some (Addr.mk 11 0 none)) 1 (B0 + 11)]), (9, Rw.mk (Kd.room 1 [Value.int IntKind.u8 (0 : Int)]) [Value.int IntKind.u8 (49 : Int)]), (8, Rw.mk (Kd.room 1 [Value.int IntKind.u8 (0 : Int)]) [Value.int IntKind.u8 (98 : Int)]), (7, Rw.mk Kd.shut []), (5, Rw.mk Kd.shut [Value.slice (some (Addr.mk 1 0 none)) 1 1, Value.slice (some (Addr.mk 2 0 none))
 1 1, Value.bool false]), (6, Rw.mk Kd.shut [Value.slice (some (Addr.mk 8 0 none)) 1 (B0 + 8), Value.slice (some (Addr.mk 9 0 none)) 1 (B0 + 9), Value.bool false]), (10, Rw.mk Kd.shut [Value.slice (some (Addr.mk 8 0 none)) 1 (B0 + 8), Value.slice (some (Addr.mk 9 0 none)) 1 (B0 + 9), Value.bool false]), (11, Rw.mk (Kd.room 3 [Value.slice none 0 0, Value.slice none 0 0, Value.bool false]) [Value.slice (some (Addr.mk 8 0 none)) 1 (B0 + 8), Value.slice (some (Addr.mk 9 0 none)) 1 (B0 + 9), Value.bool false]), (22, Rw.mk (Kd.room 1 [Value.int IntKind.u8 (0 : Int)]) [Value.int IntKind.u8 (50 : Int)]), (21, Rw.mk (Kd.room 1 [Value.int IntKind.u8 (0 : Int)]) [Value.int IntKind.u8 (97 : Int)]), (20, Rw.mk Kd.shut []), (18, Rw.mk Kd.shut [Value.slice (some (Addr.mk 12 0 none)) 1 1, Value.slice (some (Addr.mk 13 0 none)) 1 1, Value.bool false]), (19, Rw.mk Kd.shut
 [Value.slice (some (Addr.mk 21 0 none)) 1 (B0 + 21), Value.slice (some (Addr.mk 22 0 none)) 1 (B0 + 22), Value.bool false]), (23, Rw.mk Kd.shut [Value.slice (some (Addr.mk 21 0 none)) 1 (B0 + 21), Value.slice (some (Addr.mk 22 0 none)) 1 (B0 + 22), Value.bool false])] = inH (Rw.mk (Kd.room 3 [Value.slice none 0 0, Value.slice none 0 0, Value.bool false]) [Value.slice (some (Addr.mk 8 0 none)) 1 (B0 + 8), Value.slice (some (Addr.mk 9 0 none)) 1 (B0 + 9), Value.bool false]) ∧ [Value.slice (some (Addr.mk 11 0 none)) 1 (B0 + 11), Value.int IntKind.i64 (0 : Int), Value.slice (some (Addr.mk 23 0 none)) 1 1] = [Value.slice (some (Addr.mk 11 0 none)) 1 (B0 + 11), Value.int IntKind.i64 (0 : Int), Value.slice (some (Addr.mk 23 0 none)) 1 1] ∧ 24 =
 24]) := by kernel_rfl
theorem inT_okV {V : Tv} (h : V.T = inT) : TOkZ V Try.prog := fun f args hp nx tp out tp' ob e ho => by rw [h] at e; exact inT_one f args hp nx tp out tp' ob e ho
theorem aw_gok : GOk Try.prog 16 [] gTrueY :=
 gTrueY_tri (Ia (inX rfl) (inT_okV rfl) (C9 rfl) mt_aw ⟨⟨rfl, rfl, rfl⟩, trivial⟩ rfl)
def insT9 : TFun := fun f args h nx tp => bif Nat.beq f 49 then (match args with
 | [.slice (some ⟨m, 0, none⟩) n c, .int .i64 i, .slice (some ⟨v, 0, none⟩) 1 1] => frc h fun h => match lk h m, lk h v with
  | some ⟨.dp 3 z ds, _⟩, some ⟨.shut, xs⟩ => frc xs fun xs => (match elD h xs with
   | some (es, ob) => some (.ok ((.slice (some ⟨nx, 0, none⟩) (n + 1) (B0 + nx), (nx, ⟨.dp 3 zPr (insD ds i.toNat es), []⟩) :: delH (delH h m) v, nx + 1, [m, v]), tp, (c = B0 + m ∧ z = zPr ∧ 0 ≤ i ∧ i ≤ (n : Int) ∧ n ≤ 1000 ∧ ds.length = n * 3 ∧ xs.length = 3 ∧ Br ds ∧ Br es) :: ob))
   | none => none)
  | _, _ => none
 | _ => none) else none
theorem insT9_one : Cv Try.prog insT9 := by
 intro f args h nx tp out tp' ob e ho
 unfold insT9 at e
 rcases Be e with ⟨hf, e1⟩ | ⟨_, e1⟩
 case inr => cases e1
 clear e
 obtain rfl := Nat.eq_of_beq_eq_true hf
 split at e1
 case h_2 => cases e1
 rename_i m n c i v
 rw [Cz] at e1
 split at e1
 case h_2 => cases e1
 rename_i z ds cs0 xs hlm hlv
 rw [Cz] at e1
 split at e1
 case h_2 => cases e1
 rename_i es ob1 hel
 simp only [oI, Res.ok.injEq, pI] at e1
 obtain ⟨rfl, rfl, rfl⟩ := e1
 obtain ⟨⟨rfl, rfl, g1, g2, g3, g4, g5, g6, g7⟩, g8⟩ := ho
 refine ⟨⟨by simp only; omega, fun j hj hd => ?_, fun hb j hj => ?_⟩, fun hB W σ w args' hR hfr ha => ?_⟩
 ·simp only at hj hd ⊢
  rw [B3, if_neg (by omega), Bf, if_neg (fun e => hd (by simp [e])), Bf, if_neg (fun e => hd (by simp [e]))]
 ·simp only at hj ⊢
  rw [B3, if_neg (by omega), Bf]
  split
  ·rfl
  ·rw [Bf]
   split
   ·rfl
   ·exact hb j (by omega)
 ·have hcs0 : cs0 = [] := by
   obtain ⟨b, s, vs, hb, hv, hk⟩ := hR.row m _ hlm
   obtain ⟨_, _, rfl, _⟩ := hk
   have := Bn hv
   exact List.eq_nil_of_length_eq_zero this.symm
  subst hcs0
  refine (insD_step hR hfr hlm hlv hel g8 g1 g2 g3 g4 g5 g6 g7 ha).mono ?_
  rintro e w' ⟨σ', v', S, hv, rfl⟩
  exact ⟨σ', v', S, hv, rfl⟩
end Go.Proofs.Ytojakfnljopjbaa
