/-
  Times, of the program and of the document.
-/
import Derived.Test.YtmjmdjcgjmjigaaChainC
namespace Go.Proofs.Ytmjmdjcgjmjigaa
set_option linter.unusedSimpArgs false
set_option linter.unusedVariables false
set_option linter.unusedSectionVars false
open Go.ChangeShapes Go.WideShapes Go.ChangeAt Go.RowKit
theorem cells_snoc' (k : IntKind) (l : List Int) (z : Int) : cellsOf k (l ++ [z]) = cellsOf k l ++ [.int k z] := by simp [cellsOf]
theorem cells_len' (k : IntKind) (l : List Int) : (cellsOf k l).length = l.length * 1 := by simp [cellsOf]
theorem eiU64 : EI Try.prog 36 35 1 8 := ei_of Try.underlying36 (z := .int .u64 0) (by kernel_rfl) rfl (by decide)
/-- The first k moments of n. -/
def timesK (n now : Int) (k : Nat) : List Int := (List.range k).map fun (i : Nat) => now - (n - 1 - (i : Int))
theorem timesK_succ (n now : Int) (k : Nat) : timesK n now (k + 1) = timesK n now k ++ [now - (n - 1 - (k : Int))] := by simp [timesK, List.range_succ]
theorem timesK_len (n now : Int) (k : Nat) : (timesK n now k).length = k := by simp [timesK]
def timesBad (n now : Int) : Bool := decide (n < 0) || (decide (128 < n) || decide (now < n))
def timesL (n now : Int) : List Int := if timesBad n now then [] else timesK n now n.toNat
def timesE (n now : Int) : Int := if timesBad n now then 5 else 0
/-- What is given back: an own list, and an error. -/
def RetOwn3 (W : World) (size : Nat) (xs : List Value) (z : Int) (e : Ending) (w' : World) : Prop := ∃ v R, e = .returned (.tuple #[v, .int .i64 z]) ∧ OwnV size xs v R ∧ St W w' R
set_option maxHeartbeats 4000000 in
theorem Times_any (n now : Int) (hn1 : -9223372036854775808 ≤ n) (hn2 : n ≤ 9223372036854775807) (h1 : 0 ≤ now) (h2 : now ≤ 18446744073709551615) (W : World) :
    Calls Try.prog 14 #[.int .i64 n, .int .u64 now] W (RetOwn3 W 1 (cellsOf .u64 (timesL n now)) (timesE n now)) := by
  by_cases hb : timesBad n now = true
  · have HE : Hid (timesE n now = 5) := if_pos hb
    have HL : Hid (timesL n now = []) := if_pos hb
    have hS := St.refl W
    rw [HE.out, HL.out]
    by_cases g1 : n < 0
    · clear hb
      go_enter Try.func14, Try.ntmps14
      (repeat' (first | fail | go_values | go_skip | go_guarded | go_step | go_upon | go_back | dsimp only))
      go_ret2
      exact ⟨_, [], rfl, OwnV.nil 1, hS⟩
    · by_cases g2 : 128 < n
      · clear hb
        go_enter Try.func14, Try.ntmps14
        (repeat' (first | fail | go_values | go_skip | go_guarded | go_step | go_upon | go_back | dsimp only))
        go_ret2
        exact ⟨_, [], rfl, OwnV.nil 1, hS⟩
      · have g3 : now < n := by simpa [timesBad, g1, g2] using hb
        have g1' : 0 ≤ n := by omega
        have g2' : n ≤ 128 := by omega
        clear hb
        go_enter Try.func14, Try.ntmps14
        (repeat' (first | fail | go_values | go_skip | go_guarded | go_step | go_upon | go_back | dsimp only))
        go_ret2
        exact ⟨_, [], rfl, OwnV.nil 1, hS⟩
  · have HE : Hid (timesE n now = 0) := if_neg hb
    have HL : Hid (timesL n now = timesK n now n.toNat) := if_neg hb
    have g : 0 ≤ n ∧ n ≤ 128 ∧ n ≤ now := by simp [timesBad] at hb; omega
    obtain ⟨g1, g2, g3⟩ := g
    have hS := St.refl W
    rw [HE.out, HL.out]
    clear hb HE HL
    obtain ⟨m, rfl⟩ := Int.eq_ofNat_of_zero_le g1
    rw [Int.toNat_natCast]
    have g4 : m ≤ 128 := by omega
    go_enter Try.func14, Try.ntmps14
    (repeat' (first | fail | go_values | go_skip | go_guarded | go_step | go_upon | go_back | dsimp only))
    go_loopw [6, 21] (fun v i wr => ∃ (k : Nat) (R : Blocks), i = .int .i64 (k : Int) ∧ k ≤ m ∧ OwnV 1 (cellsOf .u64 (timesK m now k)) v R ∧ St W wr R) (fun _ i _ => m - (intOf i).toNat)
    case atStart => exact ⟨0, [], rfl, by omega, OwnV.nil 1, hS⟩
    case round =>
      clear hS
      obtain ⟨k, R, rfl, hk, ho, hS⟩ := hrel
      by_cases hlt : k < m
      · have HT := Lib.hid (timesK_succ m now k)
        (repeat' (first | (first | ((with_reducible refine g_mk ?_); (refine s_mk (n := 1) (cs := [.int .u64 (now - ((m : Int) - 1 - (k : Int)))]) (e := 35) hS (fun w => by go_simp; first | done | exact rfl) ?_; clear hS; intro b_ w_ hS hA_; (try replace hA := hA.trans hA_); clear hA_; (try simp only [Act.put, List.setIfInBounds_toArray, List.set_cons_zero, List.set_cons_succ]))) | ((with_reducible refine g_append ?_); (refine s_app 1 hS rfl ho _ _ eiU64 _ _ rfl rfl 0 _ 1 _ rfl _ rfl rfl rfl (by decide) (k) (by rw [cells_len', timesK_len]) (by omega) (by omega) ?_; clear hS; intro v_ R_ w_ ho_ hS hA_; (try replace hA := hA.trans hA_); clear hA_; obtain ⟨A_, n_, c_, rfl, hl_, hnc_, hcm_⟩ := ho_.form (by decide); simp only [List.take_succ_cons, List.take_zero, List.cons_append, List.nil_append] at hS; (try simp only [Act.put, List.setIfInBounds_toArray, List.set_cons_zero, List.set_cons_succ])))) | go_values | go_skip | go_guarded | go_step | go_upon | go_back | dsimp only))
        exact ⟨⟨k + 1, R_, by go_num, by omega, by rw [HT.out, cells_snoc']; exact ho_, hS.tail⟩, by simp [intOf]; omega⟩
      · have hkm : k = m := by omega
        subst hkm
        obtain ⟨A_, n_, c_, rfl, hl_, hnc_, hcm_⟩ := ho.form (by decide)
        (repeat' (first | fail | go_values | go_skip | go_guarded | go_step | go_upon | go_back | dsimp only))
        go_ret2
        exact ⟨_, R, rfl, ho, hS⟩
end Go.Proofs.Ytmjmdjcgjmjigaa
