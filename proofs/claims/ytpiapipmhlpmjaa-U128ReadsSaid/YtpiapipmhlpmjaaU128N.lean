/-
  Chapter 01: digits and numbers: plain laws.
-/
import Derived.ProofKit
namespace Go.Proofs.Ytpiapipmhlpmjaa
set_option linter.unusedSimpArgs false
set_option linter.unusedVariables false

/-- Digits as they are worked out; the value of digits. -/
def dgs : Nat → Int → List Int → List Int
  | 0, _, acc => acc
  | k + 1, v, acc => if v / 10 = 0 then (48 + v % 10) :: acc else dgs k (v / 10) ((48 + v % 10) :: acc)
def vf : Int → List Int → Int
  | v, [] => v
  | v, c :: cs => vf (10 * v + (c - 48)) cs
def AllD (cs : List Int) : Prop := ∀ c ∈ cs, 48 ≤ c ∧ c ≤ 57
theorem AllD.cons {c : Int} {cs : List Int} (h : AllD (c :: cs)) : (48 ≤ c ∧ c ≤ 57) ∧ AllD cs := ⟨h c (List.mem_cons_self ..), fun x hx => h x (List.mem_cons_of_mem _ hx)⟩
theorem AllD.app {a b : List Int} (ha : AllD a) (hb : AllD b) : AllD (a ++ b) := fun c hc => by
  rcases List.mem_append.1 hc with h | h
  · exact ha c h
  · exact hb c h
theorem AllD.of_app {a b : List Int} (h : AllD (a ++ b)) : AllD a ∧ AllD b := ⟨fun c hc => h c (List.mem_append_left _ hc), fun c hc => h c (List.mem_append_right _ hc)⟩
theorem vf_app : ∀ (a b : List Int) (v : Int), vf v (a ++ b) = vf (vf v a) b
  | [], b, v => rfl
  | x :: a, b, v => by simp only [List.cons_append, vf]; exact vf_app a b _
theorem vf_ge : ∀ (cs : List Int) (v : Int), 0 ≤ v → AllD cs → v ≤ vf v cs
  | [], v, h, hd => Int.le_refl v
  | c :: cs, v, h, hd => by
      obtain ⟨h1, h2⟩ := hd.cons
      have := vf_ge cs (10 * v + (c - 48)) (by omega) h2
      simp only [vf]
      omega
theorem dgs_acc : ∀ (k : Nat) (v : Int) (acc : List Int), dgs k v acc = dgs k v [] ++ acc
  | 0, v, acc => rfl
  | k + 1, v, acc => by
      simp only [dgs]
      split
      · rfl
      · rw [dgs_acc k (v / 10) ((48 + v % 10) :: acc), dgs_acc k (v / 10) [48 + v % 10], List.append_assoc]
        rfl
theorem dgs_step (k : Nat) (v : Int) : dgs (k + 1) v [] = if v / 10 = 0 then [48 + v % 10] else dgs k (v / 10) [] ++ [48 + v % 10] := by
  simp only [dgs]
  split
  · rfl
  · rw [dgs_acc]
theorem dgs_all : ∀ (k : Nat) (v : Int), AllD (dgs k v [])
  | 0, v => fun c hc => by cases hc
  | k + 1, v => by
      have h1 : AllD [48 + v % 10] := fun c hc => by
        simp only [List.mem_cons, List.not_mem_nil, or_false] at hc
        omega
      rw [dgs_step]
      split
      · exact h1
      · exact (dgs_all k _).app h1
theorem dgs_val : ∀ (j k : Nat) (v : Int), 0 ≤ v → v < 10 ^ j → 0 < j → j ≤ k → vf 0 (dgs k v []) = v ∧ (dgs k v []).length ≤ j
  | 0, k, v, h0, hv, hj, hk => absurd hj (by omega)
  | j + 1, 0, v, h0, hv, hj, hk => absurd hk (by omega)
  | j + 1, k + 1, v, h0, hv, hj, hk => by
      rw [dgs_step]
      split
      · rename_i hz
        refine ⟨?_, by simp⟩
        simp only [vf]
        omega
      · rename_i hz
        rw [Int.pow_succ] at hv
        have hv2 : v / 10 < 10 ^ j := by
          generalize (10 : Int) ^ j = P at *
          omega
        have hj0 : 0 < j := by
          match j, hv2 with
          | 0, hv2 =>
            have : (10 : Int) ^ 0 = 1 := rfl
            rw [this] at hv2
            exact absurd (show v / 10 = 0 by omega) hz
          | j + 1, _ => omega
        obtain ⟨e1, e2⟩ := dgs_val j k (v / 10) (by omega) hv2 hj0 (by omega)
        rw [vf_app, e1]
        refine ⟨?_, ?_⟩
        · simp only [vf]
          omega
        · rw [List.length_append]
          simp only [List.length_cons, List.length_nil]
          omega
/-- The first digit. -/
theorem dgs_head : ∀ (k : Nat) (v : Int), 1 ≤ v → 0 < k → v < 10 ^ k → ∃ c r, dgs k v [] = c :: r ∧ c ≠ 48
  | 0, v, hv, hk, h => absurd hk (by omega)
  | k + 1, v, hv, hk, h => by
      rw [dgs_step]
      split
      · exact ⟨_, _, rfl, by omega⟩
      · rename_i hz
        rw [Int.pow_succ] at h
        have h2 : v / 10 < 10 ^ k := by
          generalize (10 : Int) ^ k = P at *
          omega
        have hk0 : 0 < k := by
          match k, h2 with
          | 0, h2 =>
            have : (10 : Int) ^ 0 = 1 := rfl
            rw [this] at h2
            exact absurd (show v / 10 = 0 by omega) hz
          | k + 1, _ => omega
        obtain ⟨c, r, e, hc⟩ := dgs_head k (v / 10) (by omega) hk0 h2
        rw [e]
        exact ⟨c, r ++ [48 + v % 10], rfl, hc⟩
theorem dgs_zero (k : Nat) : dgs (k + 1) 0 [] = [48] := by rw [dgs_step]; rfl
theorem dgs_ne (k : Nat) (v : Int) : dgs (k + 1) v [] ≠ [] := by
  rw [dgs_step]
  split
  · intro e; cases e
  · intro e
    have := congrArg List.length e
    simp at this
/-- Digits without a zero ahead. -/
def NoLead (cs : List Int) : Prop := ∀ c r, cs = c :: r → r ≠ [] → c ≠ 48
theorem dgs_lead (k : Nat) (v : Int) (h0 : 0 ≤ v) (hv : v < 10 ^ (k + 1)) : NoLead (dgs (k + 1) v []) := by
  intro c r e hr
  by_cases hz : v = 0
  · subst hz
    rw [dgs_zero] at e
    cases e
    exact absurd rfl hr
  · obtain ⟨c2, r2, e2, hc⟩ := dgs_head (k + 1) v (by omega) (by omega) hv
    rw [e] at e2
    cases e2
    exact hc
theorem NoLead.init {a : List Int} {x : Int} (h : NoLead (a ++ [x])) : ∀ c r, a = c :: r → c ≠ 48 := by
  intro c r e
  subst e
  exact h c (r ++ [x]) rfl (by simp)
theorem vf_pos : ∀ (a : List Int), AllD a → (∀ c r, a = c :: r → c ≠ 48) → a ≠ [] → 1 ≤ vf 0 a
  | [], hd, hh, hn => absurd rfl hn
  | c :: r, hd, hh, hn => by
      obtain ⟨h1, h2⟩ := hd.cons
      have h3 := hh c r rfl
      have := vf_ge r (10 * 0 + (c - 48)) (by omega) h2
      simp only [vf]
      omega
theorem dgs_back : ∀ (n : Nat) (cs : List Int) (k : Nat), cs.length = n → n ≤ k → cs ≠ [] → AllD cs → NoLead cs → dgs k (vf 0 cs) [] = cs
  | 0, cs, k, hl, hk, hn, hd, hh => absurd (List.length_eq_zero_iff.1 hl) hn
  | n + 1, cs, 0, hl, hk, hn, hd, hh => absurd hk (by omega)
  | n + 1, cs, k + 1, hl, hk, hn, hd, hh => by
      obtain ⟨a, x, rfl⟩ : ∃ a x, cs = a ++ [x] := ⟨cs.dropLast, cs.getLast hn, (List.dropLast_concat_getLast hn).symm⟩
      rw [List.length_append] at hl
      simp only [List.length_cons, List.length_nil] at hl
      obtain ⟨d1, d2⟩ := hd.of_app
      have hx := d2 x (List.mem_cons_self ..)
      have hi := hh.init
      rw [vf_app]
      obtain ⟨w, hw⟩ : ∃ w, vf (vf 0 a) [x] = w := ⟨_, rfl⟩
      have hw2 : w = 10 * vf 0 a + (x - 48) := hw.symm
      rw [hw, dgs_step]
      by_cases ha : a = []
      · subst ha
        have h0 : vf 0 [] = 0 := rfl
        rw [h0] at hw2
        rw [if_pos (by omega), List.nil_append]
        have e : 48 + w % 10 = x := by omega
        rw [e]
      · have hp := vf_pos a d1 hi ha
        have e : w / 10 = vf 0 a := by omega
        have e2 : 48 + w % 10 = x := by omega
        have hlead : NoLead a := fun c r e _ => hi c r e
        rw [if_neg (by omega), e, e2, dgs_back n a k (by omega) (by omega) ha d1 hlead]
end Go.Proofs.Ytpiapipmhlpmjaa
