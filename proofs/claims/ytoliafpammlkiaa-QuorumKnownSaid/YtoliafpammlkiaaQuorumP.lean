/-
  Plain facts on sets of replicas: the seven low bits of a number.
-/
import Derived.Laws.BitsAllLaws
import Derived.Laws.BitsLemmas
import Derived.WalkKit
namespace Go.Proofs.Ytoliafpammlkiaa
set_option linter.unusedSimpArgs false
set_option linter.unusedVariables false
open Go.RowKit

/-- The seven low bits. -/
def low (s : Int) : Nat := (s % 128).toNat
theorem low_lt (s : Int) : low s < 128 := by unfold low; omega

theorem ofInt_mod (s : Int) (k : Nat) (hk : k ≤ 64) : (BitVec.ofInt 64 s).toNat % 2 ^ k = (s % (2 ^ k : Nat)).toNat := by
  have hp : 0 < 2 ^ k := Nat.two_pow_pos k
  have hd : (2 : Nat) ^ k ∣ 2 ^ 64 := Nat.pow_dvd_pow 2 hk
  rw [BitVec.toNat_ofInt]
  obtain ⟨c, hc⟩ := hd
  have h1 : (s % ((2 ^ 64 : Nat) : Int)) % ((2 ^ k : Nat) : Int) = s % ((2 ^ k : Nat) : Int) := by
    rw [Int.emod_emod_of_dvd]
    exact Int.natCast_dvd_natCast.2 ⟨c, hc⟩
  have h2 : 0 ≤ s % ((2 ^ 64 : Nat) : Int) := Int.emod_nonneg _ (by simp)
  rw [← h1]
  generalize s % ((2 ^ 64 : Nat) : Int) = r at h2
  obtain ⟨m, rfl⟩ := Int.eq_ofNat_of_zero_le h2
  simp
  norm_cast

theorem wrap_small (m : Nat) (h : m < 9223372036854775808) : IntKind.i64.wrap (m : Int) = m := by rw [IntKind.wrap_i64]; omega

/-- s & (2^k - 1). -/
theorem and_mask (s : Int) (k : Nat) (hk : k ≤ 62) (m : Int) (hm : m = ((2 ^ k - 1 : Nat) : Int)) : bits .and .i64 s m = s % ((2 ^ k : Nat) : Int) := by
  subst hm
  have hp : 0 < 2 ^ k := Nat.two_pow_pos k
  have hb : (2 : Nat) ^ k ≤ 2 ^ 62 := Nat.pow_le_pow_right (by omega) hk
  show IntKind.i64.wrap ((BitVec.ofInt 64 s &&& BitVec.ofInt 64 ((2 ^ k - 1 : Nat) : Int)).toNat : Int) = _
  rw [BitVec.toNat_and]
  have h1 : (BitVec.ofInt 64 ((2 ^ k - 1 : Nat) : Int)).toNat = 2 ^ k - 1 := by
    rw [BitVec.ofInt_natCast, BitVec.toNat_ofNat]; exact Nat.mod_eq_of_lt (by omega)
  rw [h1, Nat.and_two_pow_sub_one_eq_mod, ofInt_mod s k (by omega)]
  have key : ∀ p : Nat, 0 < p → p ≤ 4611686018427387904 → IntKind.i64.wrap ((s % (p : Int)).toNat : Int) = s % (p : Int) := by
    intro p hp hb
    have h2 := Int.emod_nonneg s (b := (p : Int)) (by omega)
    have h3 := Int.emod_lt_of_pos s (b := (p : Int)) (by omega)
    rw [Int.toNat_of_nonneg h2, IntKind.wrap_i64]
    omega
  exact key _ hp hb
theorem and_127 (s : Int) : bits .and .i64 s 127 = (low s : Int) := by
  rw [and_mask s 7 (by omega) 127 rfl]; unfold low; simp; omega
theorem and_1 (s : Int) : bits .and .i64 s 1 = s % 2 := and_mask s 1 (by omega) 1 rfl
theorem or_pow (m r : Nat) (hm : m < 128) (hr : r < 7) : bits .or .i64 (m : Int) ((2 ^ r : Nat) : Int) = ((m ||| 2 ^ r : Nat) : Int) := by
  have hx : m ||| 2 ^ r < 128 := Nat.or_lt_two_pow (n := 7) (by omega) (Nat.pow_lt_pow_right (by omega) hr)
  have h2 : (2 : Nat) ^ r < 2 ^ 7 := Nat.pow_lt_pow_right (by omega) hr
  have e7 : (2 : Nat) ^ 7 = 128 := rfl
  rw [e7] at h2
  generalize (2 : Nat) ^ r = p at *
  show IntKind.i64.wrap ((BitVec.ofInt 64 (m : Int) ||| BitVec.ofInt 64 (p : Int)).toNat : Int) = _
  rw [BitVec.toNat_or, BitVec.ofInt_natCast, BitVec.ofInt_natCast, BitVec.toNat_ofNat, BitVec.toNat_ofNat, Nat.mod_eq_of_lt (by omega), Nat.mod_eq_of_lt (by omega)]
  exact wrap_small _ (by omega)
/-- a & b & 127. -/
theorem and_and_127 (a b : Int) : bits .and .i64 (bits .and .i64 a b) 127 = ((low a &&& low b : Nat) : Int) := by
  rw [and_127]
  congr 1
  have e : bits .and .i64 a b = IntKind.i64.wrap ((BitVec.ofInt 64 a &&& BitVec.ofInt 64 b).toNat : Int) := rfl
  rw [e]
  have h2 : (IntKind.i64.wrap ((BitVec.ofInt 64 a &&& BitVec.ofInt 64 b).toNat : Int)) % 128 = ((BitVec.ofInt 64 a &&& BitVec.ofInt 64 b).toNat : Int) % 128 := by
    rw [IntKind.wrap_i64]; omega
  unfold low
  have h3 : (BitVec.ofInt 64 a &&& BitVec.ofInt 64 b).toNat = (BitVec.ofInt 64 a).toNat &&& (BitVec.ofInt 64 b).toNat := BitVec.toNat_and ..
  rw [h2, h3]
  have k1 := ofInt_mod a 7 (by omega)
  have k2 := ofInt_mod b 7 (by omega)
  have k3 := Nat.and_mod_two_pow (a := (BitVec.ofInt 64 a).toNat) (b := (BitVec.ofInt 64 b).toNat) (n := 7)
  have e7 : (2 : Nat) ^ 7 = 128 := rfl
  rw [e7] at k1 k2 k3
  have e8 : ((128 : Nat) : Int) = 128 := rfl
  rw [e8] at k1 k2
  rw [← k1, ← k2, ← k3]
  generalize (BitVec.ofInt 64 a).toNat &&& (BitVec.ofInt 64 b).toNat = x
  omega

/-! ### what is computed, of the seven bits m -/
def hasB (m : Nat) (r : Int) : Bool := decide (0 ≤ r) && decide (r < 7) && m.testBit r.toNat
def mem (m : Nat) : List Int := List.map (fun (i : Nat) => (i : Int)) ((List.range 7).filter fun i => m.testBit i)
def cnt (m : Nat) : Nat := ((List.range 7).filter fun i => m.testBit i).length
/-- The set of a list's replicas. -/
def ofL (l : List Int) : Int := (List.range 7).foldl (fun (s : Int) (i : Nat) => if (i : Int) ∈ l then s + ((2 ^ i : Nat) : Int) else s) 0

theorem cnt_le (m : Nat) : cnt m ≤ 7 := by unfold cnt; exact Nat.le_trans (List.length_filter_le _ _) (by simp)
theorem mem_len (m : Nat) : (mem m).length = cnt m := by simp [mem, cnt]

end Go.Proofs.Ytoliafpammlkiaa
