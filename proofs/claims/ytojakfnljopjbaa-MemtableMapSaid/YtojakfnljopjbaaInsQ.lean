/-
  Chapter 12: slices.Insert of a pair at any place.
-/
import Derived.Test.YtojakfnljopjbaaMdQ
import Derived.Test.YtojakfnljopjbaaInsG
import Derived.Test.YtojakfnljopjbaaRoomT
import Derived.Lib.Overlaps
namespace Go.Proofs.Ytojakfnljopjbaa
set_option linter.unusedSimpArgs false
set_option linter.unusedVariables false
set_option linter.unusedSectionVars false
open Go Go.RowKit

theorem all1_app {a b : List Value} : all1 (a ++ b) = true ↔ all1 a = true ∧ all1 b = true := by
  induction a with
  | nil => simp [all1]
  | cons x a ih =>
    simp only [List.cons_append, all1]
    cases one1 x with
    | true => simpa using ih
    | false => simp
theorem all1_drop {a : List Value} (h : all1 a = true) (k : Nat) : all1 (a.drop k) = true := by
  rw [← List.take_append_drop k a, all1_app] at h
  exact h.2
/-- Two rows do not overlap. -/
def ovlY : XFun := fun f args h => bif Nat.beq f 55 then (match args with
  | [.slice (some ⟨a, _, none⟩) _ _, .slice (some ⟨b, _, none⟩) _ _] => match lk h a, lk h b with
    | some ⟨.shut, _⟩, some ⟨.shut, csb⟩ => bif Nat.beq a b then none else some (.bool false, [0 < csb.length])
    | _, _ => none
  | _ => none) else none
theorem ovlY_ok : XOneZ Try.prog ovlY := by
  intro f args h v ob e ho W σ w args' hR ha
  unfold ovlY at e
  obtain ⟨hf, e1⟩ := bif_of e
  clear e
  obtain rfl := Nat.eq_of_beq_eq_true hf
  clear hf
  have e := e1
  clear e1
  split at e
  case h_2 => cases e
  rename_i a oa la ca b ob' lb cb
  split at e
  case h_2 => cases e
  rename_i csa csb hla hlb
  cases hab : Nat.beq a b with
  | true => rw [hab] at e; cases e
  | false =>
    rw [hab] at e
    cases e
    have hpos := ho.1
    refine ⟨rfl, ?_⟩
    obtain ⟨x1, l1, e1, el1, rfl⟩ := renL_cons ha
    obtain ⟨x2, l2, e2, el2, rfl⟩ := renL_cons el1
    simp only [renL, Option.some.injEq] at el2
    subst el2
    have na := hR.shr.1 a _ hla fun e => by cases e
    have nb := hR.shr.1 b _ hlb fun e => by cases e
    obtain ⟨p, c1, hbp, _, rfl, _⟩ : ∃ p c1, σ.b a = some p ∧ cpR σ ca = some c1 ∧ x1 = .slice (some ⟨p.1, p.2 + oa, none⟩) la c1 ∧ σ.f a ≠ none := by
      rcases renV_slice e1 with h | h
      · exact h
      · exact absurd h.1 na
    obtain ⟨q, c2, hbq, _, rfl, _⟩ : ∃ q c2, σ.b b = some q ∧ cpR σ cb = some c2 ∧ x2 = .slice (some ⟨q.1, q.2 + ob', none⟩) lb c2 ∧ σ.f b ≠ none := by
      rcases renV_slice e2 with h | h
      · exact h
      · exact absurd h.1 nb
    have hne : p.1 ≠ q.1 := fun e => by
      have := hR.inj a b _ _ p q hla hlb (fun e => by cases e) (fun e => by cases e) hbp hbq e
      subst this
      rw [nbeq_rfl] at hab; cases hab
    obtain ⟨ba, sa, va, hba, hva, hs1, hs2, ta, hta⟩ := hR.row _ _ hla
    rw [hbp] at hba
    cases hba
    obtain ⟨bb, sb, vb, hbb, hvb, hs3, hs4, tb, htb⟩ := hR.row _ _ hlb
    rw [hbq] at hbb
    cases hbb
    have hvl := renL_len hvb
    rw [run_callFunc_extern Try.func55 (by kernel_rfl) (by kernel_rfl) (by kernel_rfl) (e := Extern.SlicesOverlaps.overlaps #[22, 22] #[4]) (by kernel_rfl),
      Lib.run_overlaps_apart w 22 4 29 (by kernel_rfl) 3 ?_ ⟨_, _, none⟩ ⟨_, _, none⟩ la c1 lb c2 hne ta tb va.toArray.size vb.toArray.size ?_ ?_ ?_ ?_ ?_]
    · rfl
    · intro w'
      have hz := info_size (P := Try.prog) (t := 29) (n := 3) (by kernel_rfl)
      obtain ⟨i, hi, h3⟩ := hz
      simp [sizeOf, typeInfo, hi, h3]
    · simp [World.shape?, hta]
    · simp [World.shape?, htb]
    · have e : vb.length = csb.length := hvl
      simp only [List.size_toArray]; omega
    · exact frozen_of_row w _ _ _ ta hta
    · exact frozen_of_row w _ _ _ ta hta

/-- The memory at the call. -/
def ipH (r : Rw) (V : List Value) : Hp := [(0, r), (1, ⟨.shut, V⟩)]
def ipV (m : Nat) : Tv := ⟨noTz, ovlY, noL, tbl 49 [22, 31], allSy 49 [(25, m), (40, 41), (43, 42), (50, 42)], fun _ => [], fun _ => 0⟩
theorem ipp_e1 (n c : Nat) (i : Int) (X V : List Value) : runZ (ipV 1) Try.prog 5 49 [.slice (some ⟨0, 0, none⟩) n c, .int .i64 i, .slice (some ⟨1, 0, none⟩) 1 1] (ipH ⟨.shut, X⟩ V) 2 [true] =
  Res.ok ((Value.slice (some (Addr.mk 0 0 none)) (n + 1) c, [(0, Rw.mk Kd.shut (splice X (n * 3) (List.take 3 V))), (1, Rw.mk Kd.shut V)], 2, [0]), [], [c < 18446744073709551616, (0 : Int) ≤ i ∧ i ≤ (↑n : Int), (i == (↑n :
 Int)) = true, c < 18446744073709551616, n + 1 ≤ c, true = true, n * 3 + List.length (List.take 3 V) ≤ List.length X, 3 ≤ List.length V, all1 (List.take 3 V) = true]) := by kernel_rfl
theorem ipp_e2 (n c : Nat) (i : Int) (X V : List Value) : runZ (ipV 2) Try.prog 5 49 [.slice (some ⟨0, 0, none⟩) n c, .int .i64 i, .slice (some ⟨1, 0, none⟩) 1 1] (ipH ⟨.shut, X⟩ V) 2 [true] =
  Res.ok ((Value.slice (some (Addr.mk 2 0 none)) (n + 1) (capBig + 2), [(2, Rw.mk (Kd.room 3 [Value.slice none 0 0, Value.slice none 0 0, Value.bool false]) (List.take (n * 3) X ++ List.take 3 V)), (0, Rw.mk Kd.shut X), (1,
 Rw.mk Kd.shut V)], 3, []), [], [c < 18446744073709551616, (0 : Int) ≤ i ∧ i ≤ (↑n : Int), (i == (↑n : Int)) = true, c < 18446744073709551616, c < n + 1, n * 3 ≤ List.length X, (n + 1) * 56 ≤ 140737488355328 ∧ n + 1 ≤
 9223372036854775807, 3 ≤ List.length V, all1 (List.take 3 V) = true]) := by kernel_rfl
theorem ipp_in (n c : Nat) (i : Int) (X V : List Value) : runZ (ipV 0) Try.prog 5 49 [.slice (some ⟨0, 0, none⟩) n c, .int .i64 i, .slice (some ⟨1, 0, none⟩) 1 1] (ipH ⟨.shut, X⟩ V) 2 [false, false] =
  Res.ok ((Value.slice (some (Addr.mk 0 0 none)) (n + 1) c, [(0, Rw.mk Kd.shut (splice (splice X (loO (some (Value.int IntKind.i64 (adI i (1 : Int)))) 0 (Int.toNat (adI i (1 : Int))) c 3) (List.take (Nat.min (sbN (n + 1)
 (Int.toNat i)) (sbN (n + 1) (Int.toNat (adI i (1 : Int)))) * 3) (tkD (loO (some (Value.int IntKind.i64 i)) 0 (Int.toNat i) c 3) (sbN (n + 1) (Int.toNat i) * 3) X))) (loO (some (Value.int IntKind.i64 i)) 0 (Int.toNat i) c
 3) (List.take (Nat.min 1 (sbN (n + 1) (Int.toNat i)) * 3) (List.take 3 V)))), (1, Rw.mk Kd.shut V)], 2, [0, 0]), [], ((fun (q0 q1 q2 q3 q4 : Prop) => [q0, (0 : Int) ≤ i ∧ i ≤ (↑n : Int), (i == (↑n : Int)) = false, q1, q0,
 decide ((↑(n + 1) : Int) > (↑c : Int)) = false, q1, q0, (0 : Int) ≤ (↑(n + 1) : Int) ∧ (↑(n + 1) : Int) ≤ (↑c : Int), q2, q0, q3, 0 < List.length X, q2, q0, q3, q0, q4, adN (loO (some (Value.int IntKind.i64 (adI i (1 :
 Int)))) 0 (Int.toNat (adI i (1 : Int))) c 3) (List.length (List.take (Nat.min (sbN (n + 1) (Int.toNat i)) (sbN (n + 1) (Int.toNat (adI i (1 : Int)))) * 3) (tkD (loO (some (Value.int IntKind.i64 i)) 0 (Int.toNat i) c 3)
 (sbN (n + 1) (Int.toNat i) * 3) X))) ≤ List.length X, adN (loO (some (Value.int IntKind.i64 i)) 0 (Int.toNat i) c 3) (sbN (n + 1) (Int.toNat i) * 3) ≤ List.length X, all1 (tkD (loO (some (Value.int IntKind.i64 i)) 0
 (Int.toNat i) c 3) (sbN (n + 1) (Int.toNat i) * 3) X) = true, q0, q4, adN (loO (some (Value.int IntKind.i64 i)) 0 (Int.toNat i) c 3) (List.length (List.take (Nat.min 1 (sbN (n + 1) (Int.toNat i)) * 3) (List.take 3 V))) ≤
 List.length (splice X (loO (some (Value.int IntKind.i64 (adI i (1 : Int)))) 0 (Int.toNat (adI i (1 : Int))) c 3) (List.take (Nat.min (sbN (n + 1) (Int.toNat i)) (sbN (n + 1) (Int.toNat (adI i (1 : Int)))) * 3) (tkD (loO
 (some (Value.int IntKind.i64 i)) 0 (Int.toNat i) c 3) (sbN (n + 1) (Int.toNat i) * 3) X))), 3 ≤ List.length V, all1 (List.take 3 V) = true]) (c < 18446744073709551616) (rg IntKind.i64 (↑(n + 1) : Int)) (rg IntKind.i64
 (adI i (1 : Int))) ((0 : Int) ≤ adI i (1 : Int) ∧ adI i (1 : Int) ≤ (↑(n + 1) : Int)) ((0 : Int) ≤ i ∧ i ≤ (↑(n + 1) : Int)))) := by kernel_rfl
theorem ipp_out (n c : Nat) (i : Int) (X V : List Value) : runZ (ipV 0) Try.prog 5 49 [.slice (some ⟨0, 0, none⟩) n c, .int .i64 i, .slice (some ⟨1, 0, none⟩) 1 1] (ipH ⟨.shut, X⟩ V) 2 [false, true] =
  Res.ok ((Value.slice (some (Addr.mk 2 0 none)) (Int.toNat i + Int.toNat ((↑(n + 1) : Int) - i)) (capBig + 2), [(2, Rw.mk (Kd.room 3 [Value.slice none 0 0, Value.slice none 0 0, Value.bool false]) (splice (splice
 (List.take (Int.toNat i * 3) X ++ zrep [Value.slice none 0 0, Value.slice none 0 0, Value.bool false] (Int.toNat ((↑(n + 1) : Int) - i) * 3)) (Int.toNat i * 3) (List.take (Nat.min 1 (sbN (Int.toNat i + Int.toNat ((↑(n +
 1) : Int) - i)) (Int.toNat i)) * 3) (List.take 3 V))) (Int.toNat (adI i (1 : Int)) * 3) (List.take (Nat.min (sbN n (Int.toNat i)) (sbN (Int.toNat i + Int.toNat ((↑(n + 1) : Int) - i)) (Int.toNat (adI i (1 : Int)))) * 3)
 (tkD (loO (some (Value.int IntKind.i64 i)) 0 (Int.toNat i) c 3) (sbN n (Int.toNat i) * 3) X)))), (0, Rw.mk Kd.shut X), (1, Rw.mk Kd.shut V)], 5, []), [], ((fun (q0 q1 q2 q3 : Prop) => [q0, q1, (i == (↑n : Int)) = false,
 q2, q0, decide ((↑(n + 1) : Int) > (↑c : Int)) = true, q0, (0 : Int) ≤ i ∧ i ≤ (↑c : Int), q2, rg IntKind.i64 ((↑(n + 1) : Int) - i), (0 : Int) < (↑(n + 1) : Int) - i ∧ c < 18446744073709551616 ∧ c < Int.toNat i +
 Int.toNat ((↑(n + 1) : Int) - i), (Int.toNat i + Int.toNat ((↑(n + 1) : Int) - i)) * 56 ≤ 140737488355328 ∧ Int.toNat i + Int.toNat ((↑(n + 1) : Int) - i) ≤ 9223372036854775807, Int.toNat i * 3 ≤ List.length X, q3, (0 :
 Int) ≤ i ∧ i < (↑(Int.toNat i + Int.toNat ((↑(n + 1) : Int) - i)) : Int), (Int.toNat i + Int.toNat ((↑(n + 1) : Int) - i)) * 3 ≤ List.length (List.take (Int.toNat i * 3) X ++ zrep [Value.slice none 0 0, Value.slice none 0
 0, Value.bool false] (Int.toNat ((↑(n + 1) : Int) - i) * 3)), adN (Int.toNat i * 3) (List.length (List.take (Nat.min 1 (sbN (Int.toNat i + Int.toNat ((↑(n + 1) : Int) - i)) (Int.toNat i)) * 3) (List.take 3 V))) ≤
 List.length (List.take (Int.toNat i * 3) X ++ zrep [Value.slice none 0 0, Value.slice none 0 0, Value.bool false] (Int.toNat ((↑(n + 1) : Int) - i) * 3)), 3 ≤ List.length V, all1 (List.take 3 V) = true, rg IntKind.i64
 (adI i (1 : Int)), q3, (0 : Int) ≤ adI i (1 : Int) ∧ adI i (1 : Int) < (↑(Int.toNat i + Int.toNat ((↑(n + 1) : Int) - i)) : Int), (Int.toNat i + Int.toNat ((↑(n + 1) : Int) - i)) * 3 ≤ List.length (splice (List.take
 (Int.toNat i * 3) X ++ zrep [Value.slice none 0 0, Value.slice none 0 0, Value.bool false] (Int.toNat ((↑(n + 1) : Int) - i) * 3)) (Int.toNat i * 3) (List.take (Nat.min 1 (sbN (Int.toNat i + Int.toNat ((↑(n + 1) : Int) -
 i)) (Int.toNat i)) * 3) (List.take 3 V))), q0, q1, adN (Int.toNat (adI i (1 : Int)) * 3) (List.length (List.take (Nat.min (sbN n (Int.toNat i)) (sbN (Int.toNat i + Int.toNat ((↑(n + 1) : Int) - i)) (Int.toNat (adI i (1 :
 Int)))) * 3) (tkD (loO (some (Value.int IntKind.i64 i)) 0 (Int.toNat i) c 3) (sbN n (Int.toNat i) * 3) X))) ≤ List.length (splice (List.take (Int.toNat i * 3) X ++ zrep [Value.slice none 0 0, Value.slice none 0 0,
 Value.bool false] (Int.toNat ((↑(n + 1) : Int) - i) * 3)) (Int.toNat i * 3) (List.take (Nat.min 1 (sbN (Int.toNat i + Int.toNat ((↑(n + 1) : Int) - i)) (Int.toNat i)) * 3) (List.take 3 V))), adN (loO (some (Value.int
 IntKind.i64 i)) 0 (Int.toNat i) c 3) (sbN n (Int.toNat i) * 3) ≤ List.length X, all1 (tkD (loO (some (Value.int IntKind.i64 i)) 0 (Int.toNat i) c 3) (sbN n (Int.toNat i) * 3) X) = true]) (c < 18446744073709551616) ((0 :
 Int) ≤ i ∧ i ≤ (↑n : Int)) (rg IntKind.i64 (↑(n + 1) : Int)) (capBig + 2 = capBig + 2))) := by kernel_rfl

/-! ### what comes of it -/
def insC (cs : List Value) (i : Int) (V : List Value) : List Value := cs.take (i.toNat * 3) ++ (V ++ cs.drop (i.toNat * 3))
theorem ipX {V : Tv} (h : V.X = ovlY) : XOkZ V Try.prog := XOneZ.ok ovlY_ok h
theorem zPr_no : ∀ x ∈ zPr, noAd x = true := fun x hx => by
  simp only [zPr, List.mem_cons, List.not_mem_nil, or_false] at hx
  rcases hx with rfl | rfl | rfl <;> rfl
theorem all1_mem {l : List Value} (h : ∀ x ∈ l, one1 x = true) : all1 l = true := by
  induction l with
  | nil => rfl
  | cons x l ih => simp only [all1, h x (by simp), cond_true]; exact ih fun y hy => h y (by simp [hy])
theorem zPr_one {x : Value} (h : x ∈ zPr) : one1 x = true := List.all_eq_true.1 (show zPr.all one1 = true by rfl) x h
theorem slO_ne {o l m s : Nat} (h : m ≠ l) : slO o l m s = o + l * s := by unfold slO; rw [nbeq_ne h]; rfl
theorem zrep_len3 (m : Nat) : (zrep zPr (m * 3)).length = m * 3 := by
  rw [show zrep zPr (m * 3) = (List.range (m * 3)).map (fun i => (zPr[i % zPr.length]?).getD undef) from rfl, List.length_map, List.length_range]
theorem ip_in_row {A D R V : List Value} {a d : Nat} (ha : A.length = a) (hd : D.length = d) (hV : V.length = 3) (hR : 3 ≤ R.length) :
    splice (splice (A ++ (D ++ R)) (a + 3) D) a V = (A ++ (V ++ D)) ++ R.drop 3 := by
  have e1 : A ++ (D ++ R) = (A ++ (D ++ R).take 3) ++ (D ++ R).drop 3 := by rw [List.append_assoc, List.take_append_drop]
  have l1 : (A ++ (D ++ R).take 3).length = a + 3 := by rw [List.length_append, List.length_take, List.length_append]; omega
  rw [e1, splice_at l1 (by rw [List.length_drop, List.length_append]; omega), List.append_assoc, List.append_assoc]
  rw [splice_at ha (by rw [hV]; simp only [List.length_append, List.length_take, List.length_drop]; omega), hV]
  have l2 : ((D ++ R).take 3).length = 3 := by rw [List.length_take, List.length_append]; omega
  rw [List.drop_append, l2, List.drop_of_length_le (by omega), Nat.sub_self, List.drop_zero, List.nil_append, List.drop_drop, List.drop_append]
  rw [List.drop_of_length_le (by omega), List.nil_append, hd, show 3 + d - d = 3 by omega]
  simp only [List.append_assoc]
theorem ip_out_row {A D Z V : List Value} {a d : Nat} (ha : A.length = a) (hd : D.length = d) (hV : V.length = 3) (hZ : Z.length = 3 + d) :
    splice (splice (A ++ Z) a V) (a + 3) D = A ++ (V ++ D) := by
  rw [splice_at ha (by omega), splice_at (by rw [List.length_append]; omega) (by rw [List.length_drop]; omega), List.drop_drop, List.drop_of_length_le (by omega), List.append_nil, List.append_assoc]
theorem ipp_tri {n : Nat} {i : Int} {cs V : List Value} (h0 : 0 ≤ i) (hi : i ≤ (n : Int)) (hn : n ≤ 1000) (hcs : cs.length = n * 3) (hV : V.length = 3) (hV1 : all1 V = true) (hc1 : all1 cs = true) :
    Tri Try.prog 49 [.slice (some ⟨0, 0, none⟩) n (capBig + 0), .int .i64 i, .slice (some ⟨1, 0, none⟩) 1 1] (ipH ⟨.room 3 zPr, cs⟩ V) 2
      (.slice (some ⟨2 + 3, 0, none⟩) (n + 1) (capBig + (2 + 3)), (2 + 3, ⟨.room 3 zPr, insC cs i V⟩) :: delH (ipH ⟨.room 3 zPr, cs⟩ V) 0, 2 + 3 + 1, [0]) := by
  have hT : ∀ m, TOkZ (ipV m) Try.prog := fun m => noTz_okV rfl
  have hL : ∀ m, LOkZ (ipV m) Try.prog := fun m => noL_okV rfl
  obtain ⟨k, rfl⟩ : ∃ k : Nat, i = (k : Int) := ⟨i.toNat, by omega⟩
  have hkn : k ≤ n := by omega
  have tV : List.take 3 V = V := List.take_of_length_le (by omega)
  have hA : (cs.take (k * 3)).length = k * 3 := by rw [List.length_take, hcs]; omega
  have hD : (cs.drop (k * 3)).length = (n - k) * 3 := by rw [List.length_drop, hcs]; omega
  have cAD : cs.take (k * 3) ++ cs.drop (k * 3) = cs := List.take_append_drop _ _
  have hD1 : all1 (cs.drop (k * 3)) = true := all1_drop hc1 _
  have eI : insC cs (k : Int) V = cs.take (k * 3) ++ (V ++ cs.drop (k * 3)) := by unfold insC; rw [Int.toNat_natCast]
  refine ins_tri (m := 0) (n := n) (K := 3) (sz := 3) (z := zPr) (cs := cs) (by omega) rfl (by omega) hcs zPr_no (fun q rest hm hr hz => ?_) ?_
  · have hlow := Nat.lt_of_le_of_lt hm maxLen_low
    simp only [capBig] at hlow
    have hXl : (cs ++ rest).length = n * 3 + rest.length := by rw [List.length_append, hcs]
    have hr1 : all1 rest = true := all1_mem fun x hx => zPr_one (hz x hx)
    by_cases hk : k = n
    · subst hk
      have T := run_tri (ipX rfl) (hT _) (hL _) (ipp_e1 k (k + 1 + q) (k : Int) (cs ++ rest) V) ?_ rfl
      · refine ⟨_, _, _, rest.drop 3, T, by omega, ?_, ?_, fun x hx => hz x (List.mem_of_mem_drop hx), fun j hj => by simpa using hj⟩
        · have e : splice (cs ++ rest) (k * 3) (List.take 3 V) = insC cs (k : Int) V ++ rest.drop 3 := by
            have e2 : cs.take (k * 3) = cs := List.take_of_length_le (by omega)
            have e3 : cs.drop (k * 3) = [] := List.drop_of_length_le (by omega)
            rw [tV, splice_at hcs (by omega), eI, e2, e3, List.append_nil, hV]
          rw [← e]; rfl
        · rw [eI, List.length_append, List.length_append, List.length_append, hA, hD, List.length_drop, hV]; omega
      · simp only [Alls, tV, hXl, hV]
        repeat' apply And.intro
        all_goals first | omega | (with_reducible assumption) | (with_reducible exact trivial) | (with_reducible rfl) | exact beq_self_eq_true _
    · have hk2 : k < n := by omega
      have eD : tkD (k * 3) ((n + 1 - k) * 3) (cs ++ rest) = cs.drop (k * 3) ++ rest.take 3 := by
        rw [tkD_eq, List.drop_append_of_le_length (by omega), List.take_append, hD, List.take_of_length_le (by omega)]
        congr 2; omega
      have T := ipp_in n (n + 1 + q) (k : Int) (cs ++ rest) V
      have ea : adI (k : Int) 1 = ((k + 1 : Nat) : Int) := by rw [adI_eq]; omega
      have eo1 : ∀ v : Value, loO (some v) 0 k (n + 1 + q) 3 = k * 3 := fun v => by show slO 0 k (n + 1 + q) 3 = _; rw [slO_ne (by omega), Nat.zero_add]
      have eo2 : ∀ v : Value, loO (some v) 0 (k + 1) (n + 1 + q) 3 = k * 3 + 3 := fun v => by show slO 0 (k + 1) (n + 1 + q) 3 = _; rw [slO_ne (by omega)]; omega
      have em : Nat.min (n + 1 - k) (n + 1 - (k + 1)) * 3 = (n - k) * 3 := by rw [show Nat.min (n + 1 - k) (n + 1 - (k + 1)) = min (n + 1 - k) (n + 1 - (k + 1)) from rfl]; omega
      have em1 : Nat.min 1 (n + 1 - k) * 3 = 3 := by rw [show Nat.min 1 (n + 1 - k) = min 1 (n + 1 - k) from rfl]; omega
      have eM : List.take ((n - k) * 3) (cs.drop (k * 3) ++ rest.take 3) = cs.drop (k * 3) := by rw [← hD, List.take_left]
      simp only [ea, Int.toNat_natCast, eo1, eo2, sbN_eq, em, em1, eD, eM, tV] at T
      have eS : splice (splice (cs ++ rest) (k * 3 + 3) (cs.drop (k * 3))) (k * 3) V = insC cs (k : Int) V ++ rest.drop 3 := by
        have := ip_in_row (R := rest) (V := V) hA hD hV (by omega)
        rw [← List.append_assoc, cAD] at this
        rw [eI]; exact this
      rw [eS] at T
      have T2 := run_tri (ipX rfl) (hT _) (hL _) T ?_ rfl
      · refine ⟨_, _, _, rest.drop 3, T2, by omega, rfl, ?_, fun x hx => hz x (List.mem_of_mem_drop hx), fun j hj => by simpa using hj⟩
        rw [eI, List.length_append, List.length_append, List.length_append, hA, hD, List.length_drop, hV]; omega
      · have h3 : all1 (cs.drop (k * 3) ++ rest.take 3) = true := all1_app.2 ⟨hD1, by
          rw [← List.take_append_drop 3 rest, all1_app] at hr1; exact hr1.1⟩
        simp only [Alls, hXl, hV, hD, adN_eq, splice_length, rg, decide_eq_false_iff_not, beq_eq_false_iff_ne]
        repeat' apply And.intro
        all_goals first | omega | (with_reducible assumption) | (with_reducible exact trivial) | (with_reducible rfl)
  · by_cases hk : k = n
    · subst hk
      have T := ipp_e2 k k (k : Int) cs V
      rw [tV, List.take_of_length_le (by omega)] at T
      have eE : cs ++ V = insC cs (k : Int) V := by rw [eI, List.take_of_length_le (by omega), List.drop_of_length_le (by omega), List.append_nil]
      rw [eE] at T
      refine ⟨_, _, _, run_tri (ipX rfl) (hT _) (hL _) T ?_ rfl, by omega, rfl, fun j hj => by cases hj⟩
      simp only [Alls, hcs, hV]
      repeat' apply And.intro
      all_goals first | omega | (with_reducible assumption) | (with_reducible exact trivial) | (with_reducible rfl) | exact beq_self_eq_true _
    · have hk2 : k < n := by omega
      have T := ipp_out n n (k : Int) cs V
      have ea : adI (k : Int) 1 = ((k + 1 : Nat) : Int) := by rw [adI_eq]; omega
      have en : Int.toNat (((n + 1 : Nat) : Int) - (k : Int)) = n + 1 - k := by omega
      have el : k + (n + 1 - k) = n + 1 := by omega
      have eo1 : ∀ v : Value, loO (some v) 0 k n 3 = k * 3 := fun v => by show slO 0 k n 3 = _; rw [slO_ne (by omega), Nat.zero_add]
      have em : Nat.min (n - k) (n + 1 - (k + 1)) * 3 = (n - k) * 3 := by rw [show Nat.min (n - k) (n + 1 - (k + 1)) = min (n - k) (n + 1 - (k + 1)) from rfl]; omega
      have em1 : Nat.min 1 (n + 1 - k) * 3 = 3 := by rw [show Nat.min 1 (n + 1 - k) = min 1 (n + 1 - k) from rfl]; omega
      have eD : tkD (k * 3) ((n - k) * 3) cs = cs.drop (k * 3) := by rw [tkD_eq, List.take_of_length_le (by omega)]
      have eM : List.take ((n - k) * 3) (cs.drop (k * 3)) = cs.drop (k * 3) := List.take_of_length_le (by omega)
      have eZ : (k + 1) * 3 = k * 3 + 3 := by omega
      have hZ : (zrep zPr ((n + 1 - k) * 3)).length = 3 + (n - k) * 3 := by rw [zrep_len3]; omega
      have eR := ip_out_row (V := V) hA hD hV hZ
      have T0 : runZ (ipV 0) Try.prog 5 49 [.slice (some ⟨0, 0, none⟩) n n, .int .i64 (k : Int), .slice (some ⟨1, 0, none⟩) 1 1] (ipH ⟨.shut, cs⟩ V) 2 [false, true] = _ := T
      clear T0
      simp only [ea, Int.toNat_natCast, eo1, sbN_eq, en, el, em, em1, eD, eM, tV, eZ] at T
      obtain ⟨Z, hZe⟩ : ∃ Z, zrep zPr ((n + 1 - k) * 3) = Z := ⟨_, rfl⟩
      rw [hZe] at hZ eR
      unfold zPr at hZe
      rw [hZe] at T
      refine ⟨_, _, _, run_tri (ipX rfl) (hT _) (hL _) T ?_ rfl, by omega, ?_, fun j hj => by cases hj⟩
      · simp only [Alls, hZ, hcs, hV, hA, hD, adN_eq, splice_length, List.length_append, rg, decide_eq_true_eq, beq_eq_false_iff_ne]
        repeat' apply And.intro
        all_goals first | omega | (with_reducible assumption) | (with_reducible exact trivial) | (with_reducible rfl)
      · rw [eI, ← eR]; rfl
end Go.Proofs.Ytojakfnljopjbaa
