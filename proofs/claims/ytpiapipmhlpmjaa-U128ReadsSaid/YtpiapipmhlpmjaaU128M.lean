/-
  Numbers of 128 bits in plain words: bytes, sums, differences, order.
-/
import Derived.Test.YtpiapipmhlpmjaaVmY
namespace Go.Proofs.Ytpiapipmhlpmjaa
set_option linter.unusedSimpArgs false
set_option linter.unusedVariables false
open Go Go.RowKit

/-- A number's value. -/
def nm (h l : Int) : Int := h * 18446744073709551616 + l
def wf64 (x : Int) : Prop := 0 ≤ x ∧ x < 18446744073709551616
def wfB (x : Int) : Prop := 0 ≤ x ∧ x < 256
instance (x : Int) : Decidable (wf64 x) := inferInstanceAs (Decidable (_ ∧ _))
def top128 : Int := 340282366920938463463374607431768211456
def addV (h1 l1 h2 l2 : Int) : Int × Int × Bool := if nm h1 l1 + nm h2 l2 < top128 then ((nm h1 l1 + nm h2 l2) / 18446744073709551616, (nm h1 l1 + nm h2 l2) % 18446744073709551616, false) else (0, 0, true)
def subV (h1 l1 h2 l2 : Int) : Int × Int × Bool := if nm h1 l1 < nm h2 l2 then (0, 0, true) else ((nm h1 l1 - nm h2 l2) / 18446744073709551616, (nm h1 l1 - nm h2 l2) % 18446744073709551616, false)
def cmpV (h1 l1 h2 l2 : Int) : Int := if nm h1 l1 < nm h2 l2 then -1 else if nm h1 l1 = nm h2 l2 then 0 else 1
/-- The value of bytes, the lowest first. -/
def vL : List Int → Int
  | [] => 0
  | x :: xs => x + 256 * vL xs
/-- So many bytes of a number. -/
def byL (n : Int) : Nat → List Int
  | 0 => []
  | k + 1 => n % 256 :: byL (n / 256) k
theorem byL_len (n : Int) : ∀ k, (byL n k).length = k
  | 0 => rfl
  | k + 1 => by simp [byL, byL_len (n / 256) k]
theorem byL_wf : ∀ (k : Nat) (n : Int), ∀ x ∈ byL n k, wfB x
  | 0, n, x, h => by simp [byL] at h
  | k + 1, n, x, h => by
      simp only [byL, List.mem_cons] at h
      rcases h with rfl | h
      · exact ⟨by omega, by omega⟩
      · exact byL_wf k _ x h
theorem vL_byL : ∀ (k : Nat) (n : Int), 0 ≤ n → n < 256 ^ k → vL (byL n k) = n
  | 0, n, h0, h1 => by simp at h1; simp [byL, vL]; omega
  | k + 1, n, h0, h1 => by
      have h2 : n / 256 < 256 ^ k := by
        rw [Int.pow_succ] at h1
        exact Int.ediv_lt_of_lt_mul (by decide) h1
      simp only [byL, vL, vL_byL k (n / 256) (by omega) h2]
      omega
theorem vL_app : ∀ (a b : List Int), vL (a ++ b) = vL a + 256 ^ a.length * vL b
  | [], b => by simp [vL]
  | x :: a, b => by
      simp only [List.cons_append, vL, vL_app a b, List.length_cons, Int.pow_succ]
      rw [Int.mul_add, ← Int.mul_assoc 256, Int.mul_comm 256 (256 ^ a.length)]
      omega
theorem vL_bd : ∀ (a : List Int), (∀ x ∈ a, wfB x) → 0 ≤ vL a ∧ vL a < 256 ^ a.length
  | [], _ => by simp [vL]
  | x :: a, h => by
      have h1 := h x (by simp)
      have h2 := vL_bd a (fun y hy => h y (by simp [hy]))
      simp only [vL, List.length_cons, Int.pow_succ]
      unfold wfB at h1
      omega
theorem byL_vL : ∀ (a : List Int), (∀ x ∈ a, wfB x) → byL (vL a) a.length = a
  | [], _ => rfl
  | x :: a, h => by
      have h1 := h x (by simp)
      unfold wfB at h1
      have h2 := byL_vL a (fun y hy => h y (by simp [hy]))
      simp only [vL, List.length_cons, byL]
      rw [show (x + 256 * vL a) % 256 = x by omega, show (x + 256 * vL a) / 256 = vL a by omega, h2]
/-- A number's 16 bytes. -/
def b16 (h l : Int) : List Int := byL l 8 ++ byL h 8
theorem b16_len (h l : Int) : (b16 h l).length = 16 := by simp [b16, byL_len]
theorem b16_wf (h l : Int) : ∀ x ∈ b16 h l, wfB x := by
  intro x hx
  simp only [b16, List.mem_append] at hx
  rcases hx with hx | hx <;> exact byL_wf _ _ x hx
theorem vL_b16 {h l : Int} (hh : wf64 h) (hl : wf64 l) : vL (b16 h l) = nm h l := by
  unfold wf64 at hh hl
  rw [b16, vL_app, vL_byL 8 l hl.1 (by simpa using hl.2), vL_byL 8 h hh.1 (by simpa using hh.2), byL_len, nm]
  simp; omega
/-- Bytes that are added, with a carry. -/
def adL : List Int → List Int → Int → List Int × Int
  | x :: xs, y :: ys, c => ((x + y + c) % 256 :: (adL xs ys ((x + y + c) / 256)).1, (adL xs ys ((x + y + c) / 256)).2)
  | _, _, c => ([], c)
theorem adL_ok : ∀ (xs ys : List Int) (c : Int), xs.length = ys.length → (∀ x ∈ xs, wfB x) → (∀ y ∈ ys, wfB y) → 0 ≤ c → c ≤ 1 →
    vL (adL xs ys c).1 + 256 ^ xs.length * (adL xs ys c).2 = vL xs + vL ys + c ∧ (∀ z ∈ (adL xs ys c).1, wfB z) ∧ (adL xs ys c).1.length = xs.length ∧ 0 ≤ (adL xs ys c).2 ∧ (adL xs ys c).2 ≤ 1
  | [], [], c, _, _, _, h0, h1 => by simp [adL, vL]; omega
  | x :: xs, [], c, h, _, _, _, _ => by simp at h
  | [], y :: ys, c, h, _, _, _, _ => by simp at h
  | x :: xs, y :: ys, c, h, hx, hy, h0, h1 => by
      have a := hx x (by simp)
      have b := hy y (by simp)
      unfold wfB at a b
      have ih := adL_ok xs ys ((x + y + c) / 256) (by simpa using h) (fun z hz => hx z (by simp [hz])) (fun z hz => hy z (by simp [hz])) (by omega) (by omega)
      obtain ⟨e1, e2, e3, e4, e5⟩ := ih
      refine ⟨?_, ?_, by simp [adL, e3], by simpa [adL] using e4, by simpa [adL] using e5⟩
      · simp only [adL, vL, List.length_cons, Int.pow_succ]
        have : 256 ^ xs.length * 256 * (adL xs ys ((x + y + c) / 256)).2 = 256 * (256 ^ xs.length * (adL xs ys ((x + y + c) / 256)).2) := by
          rw [Int.mul_comm (256 ^ xs.length) 256, Int.mul_assoc]
        rw [this]
        omega
      · intro z hz
        simp only [adL, List.mem_cons] at hz
        rcases hz with rfl | hz
        · exact ⟨by omega, by omega⟩
        · exact e2 z hz
/-- Bytes that are taken away, with a borrow. -/
def sbL : List Int → List Int → Int → List Int × Int
  | x :: xs, y :: ys, c => ((x - y - c) % 256 :: (sbL xs ys (if x - y - c < 0 then 1 else 0)).1, (sbL xs ys (if x - y - c < 0 then 1 else 0)).2)
  | _, _, c => ([], c)
theorem sbL_ok : ∀ (xs ys : List Int) (c : Int), xs.length = ys.length → (∀ x ∈ xs, wfB x) → (∀ y ∈ ys, wfB y) → 0 ≤ c → c ≤ 1 →
    vL (sbL xs ys c).1 - 256 ^ xs.length * (sbL xs ys c).2 = vL xs - vL ys - c ∧ (∀ z ∈ (sbL xs ys c).1, wfB z) ∧ (sbL xs ys c).1.length = xs.length ∧ 0 ≤ (sbL xs ys c).2 ∧ (sbL xs ys c).2 ≤ 1
  | [], [], c, _, _, _, h0, h1 => by simp [sbL, vL]; omega
  | x :: xs, [], c, h, _, _, _, _ => by simp at h
  | [], y :: ys, c, h, _, _, _, _ => by simp at h
  | x :: xs, y :: ys, c, h, hx, hy, h0, h1 => by
      have a := hx x (by simp)
      have b := hy y (by simp)
      unfold wfB at a b
      have hc : ∃ d, (if x - y - c < 0 then (1 : Int) else 0) = d ∧ 0 ≤ d ∧ d ≤ 1 ∧ (x - y - c) % 256 = x - y - c + 256 * d := by
        refine ⟨_, rfl, ?_, ?_, ?_⟩ <;> split <;> omega
      obtain ⟨d, hd, d0, d1, d2⟩ := hc
      have ih := sbL_ok xs ys d (by simpa using h) (fun z hz => hx z (by simp [hz])) (fun z hz => hy z (by simp [hz])) d0 d1
      obtain ⟨e1, e2, e3, e4, e5⟩ := ih
      simp only [sbL, hd]
      refine ⟨?_, ?_, by simp [e3], e4, e5⟩
      · simp only [vL, List.length_cons, Int.pow_succ]
        have : 256 ^ xs.length * 256 * (sbL xs ys d).2 = 256 * (256 ^ xs.length * (sbL xs ys d).2) := by
          rw [Int.mul_comm (256 ^ xs.length) 256, Int.mul_assoc]
        rw [this]
        omega
      · intro z hz
        simp only [List.mem_cons] at hz
        rcases hz with rfl | hz
        · exact ⟨by omega, by omega⟩
        · exact e2 z hz
/-- Which is greater, from the highest byte down. -/
def cmL : List (Int × Int) → Int
  | [] => 0
  | (x, y) :: t => if x < y then -1 else if x > y then 1 else cmL t
theorem cmL_app : ∀ (a b : List (Int × Int)), cmL (a ++ b) = if cmL a = 0 then cmL b else cmL a
  | [], b => by simp [cmL]
  | (x, y) :: t, b => by
      simp only [List.cons_append, cmL, cmL_app t b]
      split
      · simp
      · split
        · simp
        · rfl
theorem cmL_rev : ∀ (xs ys : List Int), xs.length = ys.length → (∀ x ∈ xs, wfB x) → (∀ y ∈ ys, wfB y) →
    cmL (xs.zip ys).reverse = if vL xs < vL ys then -1 else if vL xs = vL ys then 0 else 1
  | [], [], _, _, _ => by simp [cmL, vL]
  | x :: xs, [], h, _, _ => by simp at h
  | [], y :: ys, h, _, _ => by simp at h
  | x :: xs, y :: ys, h, hx, hy => by
      have a := hx x (by simp)
      have b := hy y (by simp)
      unfold wfB at a b
      have ih := cmL_rev xs ys (by simpa using h) (fun z hz => hx z (by simp [hz])) (fun z hz => hy z (by simp [hz]))
      have e1 : vL (x :: xs) = x + 256 * vL xs := rfl
      have e2 : vL (y :: ys) = y + 256 * vL ys := rfl
      have e3 : cmL [(x, y)] = if x < y then -1 else if x > y then 1 else 0 := rfl
      rw [List.zip_cons_cons, List.reverse_cons, cmL_app, e3]
      generalize vL (x :: xs) = X at *
      generalize vL (y :: ys) = Y at *
      have hc : (vL xs < vL ys ∧ cmL (xs.zip ys).reverse = -1) ∨ (vL xs = vL ys ∧ cmL (xs.zip ys).reverse = 0) ∨ (vL ys < vL xs ∧ cmL (xs.zip ys).reverse = 1) := by
        rw [ih]
        rcases Int.lt_trichotomy (vL xs) (vL ys) with h1 | h1 | h1
        · exact .inl ⟨h1, if_pos h1⟩
        · exact .inr (.inl ⟨h1, by rw [if_neg (by omega), if_pos h1]⟩)
        · exact .inr (.inr ⟨h1, by rw [if_neg (by omega), if_neg (by omega)]⟩)
      clear ih
      generalize cmL (xs.zip ys).reverse = c at *
      rcases hc with ⟨h1, rfl⟩ | ⟨h1, rfl⟩ | ⟨h1, rfl⟩
      · rw [if_neg (by decide), if_pos (by omega)]
      · rw [if_pos rfl]
        rcases Int.lt_trichotomy x y with h2 | h2 | h2
        · rw [if_pos h2, if_pos (by omega)]
        · rw [if_neg (by omega), if_neg (by omega), if_neg (by omega), if_pos (by omega)]
        · rw [if_neg (by omega), if_pos h2, if_neg (by omega), if_neg (by omega)]
      · rw [if_neg (by decide), if_neg (by omega), if_neg (by omega)]
/-- Where the first difference is. -/
theorem cmL_first : ∀ (l : List (Int × Int)), (∃ j x y, l[j]? = some (x, y) ∧ (∀ p ∈ l.take j, p.1 = p.2) ∧ ((x < y ∧ cmL l = -1) ∨ (y < x ∧ cmL l = 1))) ∨ ((∀ p ∈ l, p.1 = p.2) ∧ cmL l = 0)
  | [] => .inr ⟨by simp, rfl⟩
  | (x, y) :: t => by
      rcases Int.lt_trichotomy x y with h | h | h
      · exact .inl ⟨0, x, y, rfl, by simp, .inl ⟨h, by simp [cmL, h]⟩⟩
      · subst h
        rcases cmL_first t with ⟨j, u, v, h1, h2, h3⟩ | ⟨h1, h2⟩
        · refine .inl ⟨j + 1, u, v, by simpa using h1, ?_, by simpa [cmL] using h3⟩
          intro p hp
          simp only [List.take_succ_cons, List.mem_cons] at hp
          rcases hp with rfl | hp
          · rfl
          · exact h2 p hp
        · refine .inr ⟨?_, by simpa [cmL] using h2⟩
          intro p hp
          simp only [List.mem_cons] at hp
          rcases hp with rfl | hp
          · rfl
          · exact h1 p hp
      · exact .inl ⟨0, x, y, rfl, by simp, .inr ⟨h, by simp [cmL]; omega⟩⟩
end Go.Proofs.Ytpiapipmhlpmjaa
