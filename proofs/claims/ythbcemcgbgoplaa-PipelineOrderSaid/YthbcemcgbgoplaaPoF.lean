/-
  Chapter 26: the statement PipelineOrder: Push and Pop as contracts.
-/
import Derived.Test.YthbcemcgbgoplaaPoE
namespace Go.Proofs.Ythbcemcgbgoplaa
set_option linter.unusedSimpArgs false
set_option linter.unusedVariables false
set_option linter.unusedSectionVars false
open Go Go.RowKit
theorem len1 (v : Value) : [v].length = 1 := rfl
theorem pcL_len (o : Int) (s : Nat) : (pcL o s).length = 18 := rfl
theorem pcL_fl (o : Int) (s : Nat) : Fl (pcL o s) := Fl.of rfl
section
variable {C : List Value} {a k : Nat} {F : Int} {S : Nat → Nat} {N me : Nat}
theorem PlI.push (h : PlI C 0 k F S N me) (hk : k < 16) {s : Nat} (hs : s < 128) : PlI (splice (splice C (k * 18) (pcL (F + (k : Int)) s)) 289 [.int .i64 ((k + 1 : Nat) : Int)]) 0 (k + 1) F (upN S k s) N me := by
  have hl := h.len
  obtain ⟨C1, hC1⟩ : ∃ C1, C1 = splice C (k * 18) (pcL (F + (k : Int)) s) := ⟨_, rfl⟩
  have hb : k * 18 + (pcL (F + (k : Int)) s).length ≤ C.length := by rw [pcL_len]; omega
  have l1 : C1.length = 292 := by rw [hC1, splice_length]; exact hl
  have hb1 : 289 + [Value.int .i64 ((k + 1 : Nat) : Int)].length ≤ C1.length := by rw [len1]; omega
  have o1 : ∀ q, q < k * 18 ∨ k * 18 + 18 ≤ q → C1[q]? = C[q]? := fun q hq => by rw [hC1]; exact spl_out hb (by rw [pcL_len]; exact hq)
  have o2 : ∀ q, q ≠ 289 → (splice C1 289 [.int .i64 ((k + 1 : Nat) : Int)])[q]? = C1[q]? := fun q hq => spl_out hb1 (by rw [len1]; omega)
  have f1 : Fl C1 := by rw [hC1]; exact fl_splice hb h.fl (pcL_fl _ _)
  rw [← hC1]
  refine ⟨fl_splice hb1 f1 (Fl.of rfl), by rw [splice_length]; exact l1, by rw [o2 _ (by omega), o1 _ (by omega)]; exact h.fst, ?_, by rw [o2 _ (by omega), o1 _ (by omega)]; exact h.off, by rw [o2 _ (by omega), o1 _ (by omega)]; exact h.own, by omega, h.nn, h.mm, h.fr, fun j h1 h2 q hq => ?_, fun j h1 h2 => ?_⟩
  · rw [spl_in hb1 (by omega) (by rw [len1]; omega), Nat.sub_self]; rfl
  · rw [o2 _ (by omega)]
    by_cases hj : j = k
    · subst hj
      rw [hC1, spl_in hb (by omega) (by rw [pcL_len]; omega), Nat.add_sub_cancel_left]
      unfold upN
      rw [if_pos rfl]
    · rw [o1 _ (by omega), h.it j h1 (by omega) q hq]
      unfold upN
      rw [if_neg hj]
  · unfold upN
    split
    · exact hs
    · exact h.st j h1 (by omega)
theorem PlI.pop (h : PlI C a (k + 1) F S N me) : PlI (splice (splice (splice C (a * 18) z18) 288 [.int .i64 (((a + 1) % 16 : Nat) : Int)]) 289 [.int .i64 (k : Int)]) (a + 1) k F S N me := by
  have hl := h.len
  have hk := h.ak
  obtain ⟨C1, hC1⟩ : ∃ C1, C1 = splice C (a * 18) z18 := ⟨_, rfl⟩
  have z : z18.length = 18 := rfl
  have hb : a * 18 + z18.length ≤ C.length := by rw [z]; omega
  have l1 : C1.length = 292 := by rw [hC1, splice_length]; exact hl
  obtain ⟨C2, hC2⟩ : ∃ C2, C2 = splice C1 288 [.int .i64 (((a + 1) % 16 : Nat) : Int)] := ⟨_, rfl⟩
  have hb1 : 288 + [Value.int .i64 (((a + 1) % 16 : Nat) : Int)].length ≤ C1.length := by rw [len1]; omega
  have l2 : C2.length = 292 := by rw [hC2, splice_length]; exact l1
  have hb2 : 289 + [Value.int .i64 (k : Int)].length ≤ C2.length := by rw [len1]; omega
  have o1 : ∀ q, q < a * 18 ∨ a * 18 + 18 ≤ q → C1[q]? = C[q]? := fun q hq => by rw [hC1]; exact spl_out hb (by rw [z]; exact hq)
  have o2 : ∀ q, q ≠ 288 → C2[q]? = C1[q]? := fun q hq => by rw [hC2]; exact spl_out hb1 (by rw [len1]; omega)
  have o3 : ∀ q, q ≠ 289 → (splice C2 289 [.int .i64 (k : Int)])[q]? = C2[q]? := fun q hq => spl_out hb2 (by rw [len1]; omega)
  have f1 : Fl C1 := by rw [hC1]; exact fl_splice hb h.fl (Fl.of rfl)
  have f2 : Fl C2 := by rw [hC2]; exact fl_splice hb1 f1 (Fl.of rfl)
  rw [← hC1, ← hC2]
  refine ⟨fl_splice hb2 f2 (Fl.of rfl), by rw [splice_length]; exact l2, ?_, ?_, by rw [o3 _ (by omega), o2 _ (by omega), o1 _ (by omega)]; exact h.off, by rw [o3 _ (by omega), o2 _ (by omega), o1 _ (by omega)]; exact h.own, by omega, h.nn, h.mm, h.fr, fun j h1 h2 q hq => ?_, fun j h1 h2 => h.st j (by omega) (by omega)⟩
  · rw [o3 _ (by omega), hC2, spl_in hb1 (by omega) (by rw [len1]; omega), Nat.sub_self]; rfl
  · rw [spl_in hb2 (by omega) (by rw [len1]; omega), Nat.sub_self]; rfl
  · rw [o3 _ (by omega), o2 _ (by omega), o1 _ (by omega)]
    exact h.it j (by omega) (by omega) q hq
theorem low8 {s : Nat} (h : s < 128) : lowI .u8 (s : Int) = (s : Int) := by unfold lowI; rw [mdI_eq]; simp only [IntKind.bits]; omega
theorem PlI.eq1 (h : PlI C 0 k F S N me) (hk : k < 16) {s : Nat} (hs : s < 128) : pq1 C (F + (k : Int)) (s : Int) = splice C (k * 18) (pcL (F + (k : Int)) s) := by
  have e : Int.toNat (mdI (adI (intAt C 288) (intAt C 289)) 16) = k := by rw [h.f0, h.f1, adI_eq, mdI_eq]; omega
  unfold pq1
  rw [e, low8 hs]
  rfl
end
end Go.Proofs.Ythbcemcgbgoplaa
