/-
  Chapter 26: the statement PipelineOrder: plain laws of the cells of a pipeline.
-/
import Derived.Test.YthbcemcgbgoplaaPoA
namespace Go.Proofs.Ythbcemcgbgoplaa
set_option linter.unusedSimpArgs false
set_option linter.unusedVariables false
set_option linter.unusedSectionVars false
open Go Go.RowKit
theorem splice_fit {cs bs : List Value} {L : Nat} (h : L + bs.length ≤ cs.length) : splice cs L bs = cs.take L ++ bs ++ cs.drop (L + bs.length) := by
  have e1 : cs = cs.take L ++ cs.drop L := (List.take_append_drop L cs).symm
  have hl : (cs.take L).length = L := by rw [List.length_take]; omega
  have key := splice_at (a := cs.take L) (b := cs.drop L) (c := bs) hl (by rw [List.length_drop]; omega)
  rw [← e1, List.drop_drop] at key
  exact key
theorem fl_app {a b : List Value} (ha : Fl a) (hb : Fl b) : Fl (a ++ b) := fun σ => renL_app (ha σ) (hb σ)
theorem fl_take {a : List Value} (h : Fl a) (k : Nat) : Fl (a.take k) := fun σ => renL_take k (h σ)
theorem fl_drop {a : List Value} (h : Fl a) (k : Nat) : Fl (a.drop k) := fun σ => renL_drop k (h σ)
theorem fl_splice {cs bs : List Value} {L : Nat} (h : L + bs.length ≤ cs.length) (h1 : Fl cs) (h2 : Fl bs) : Fl (splice cs L bs) := by
  rw [splice_fit h]
  exact fl_app (fl_app (fl_take h1 _) h2) (fl_drop h1 _)
theorem spl_out {cs bs : List Value} {L i : Nat} (h : L + bs.length ≤ cs.length) (hi : i < L ∨ L + bs.length ≤ i) : (splice cs L bs)[i]? = cs[i]? := by
  rw [splice_fit h, List.append_assoc]
  have hl : (cs.take L).length = L := by rw [List.length_take]; omega
  rcases hi with hi | hi
  · rw [List.getElem?_append_left (by omega), List.getElem?_take, if_pos hi]
  · rw [List.getElem?_append_right (by omega), List.getElem?_append_right (by omega), List.getElem?_drop, hl]
    congr 1
    omega
theorem spl_in {cs bs : List Value} {L i : Nat} (h : L + bs.length ≤ cs.length) (h1 : L ≤ i) (h2 : i < L + bs.length) : (splice cs L bs)[i]? = bs[i - L]? := by
  rw [splice_fit h, List.append_assoc]
  have hl : (cs.take L).length = L := by rw [List.length_take]; omega
  rw [List.getElem?_append_right (by omega), List.getElem?_append_left (by omega), hl]
theorem int_at {cs : List Value} {o : Nat} {k : IntKind} {x : Int} (h : cs[o]? = some (.int k x)) : intAt cs o = x := by
  unfold intAt
  rw [h]
/-- A prepare's message. -/
def msgL (o : Int) : List Value := [.int .i64 2, .int .i64 0, .int .i64 0, .int .i64 2, .int .i64 0, .int .i64 o, .int .i64 0, .int .i64 0, .int .i64 0, .int .u64 0, .int .u64 o, .int .i64 0, .int .i64 0, .int .u64 0, .int .i64 0, .int .i64 0, .slice none 0 0]
def pcL (o : Int) (s : Nat) : List Value := [.int .i64 2, .int .i64 0, .int .i64 0, .int .i64 2, .int .i64 0, .int .i64 o, .int .i64 0, .int .i64 0, .int .i64 0, .int .u64 0, .int .u64 o, .int .i64 0, .int .i64 0, .int .u64 0, .int .i64 0, .int .i64 0, .slice none 0 0, .int .u8 (s : Int)]
/-- A pipeline's cells: prepares from the a-th on, k of them; the sets; of how many replicas, which one. -/
structure PlI (C : List Value) (a k : Nat) (F : Int) (S : Nat → Nat) (N me : Nat) : Prop where
  fl : Fl C
  len : C.length = 292
  fst : C[288]? = some (.int .i64 ((a % 16 : Nat) : Int))
  cnt : C[289]? = some (.int .i64 (k : Int))
  off : C[290]? = some (.int .i64 (N : Int))
  own : C[291]? = some (.int .i64 (me : Int))
  ak : a + k ≤ 16
  nn : N = 3 ∨ N = 5 ∨ N = 7
  mm : me < N
  fr : 1 ≤ F ∧ F ≤ 1073741824
  it : ∀ j, a ≤ j → j < a + k → ∀ i, i < 18 → C[j * 18 + i]? = (pcL (F + (j : Int)) (S j))[i]?
  st : ∀ j, a ≤ j → j < a + k → S j < 128
theorem wi_lt {a q : Nat} (ha : a < 128) (hq : q < 7) : withN a q < 128 := by
  have h : ((List.range 128).all fun a => (List.range 7).all fun q => decide (withN a q < 128)) = true := by decide +kernel
  exact of_decide_eq_true (List.all_eq_true.1 (List.all_eq_true.1 h a (List.mem_range.2 ha)) q (List.mem_range.2 hq))
theorem and15 : ∀ q : Nat, q < 32 → IntKind.wrap .i64 ((BitVec.toNat (BitVec.ofInt 64 (q : Int) &&& BitVec.ofInt 64 15) : Nat) : Int) = mdI (q : Int) 16 := by decide +kernel
theorem and1 : ∀ q : Nat, q < 128 → IntKind.wrap .i64 ((BitVec.toNat (BitVec.ofInt 64 (q : Int) &&& BitVec.ofInt 64 1) : Nat) : Int) = mdI (q : Int) 2 := by decide +kernel
section
variable {C : List Value} {a k : Nat} {F : Int} {S : Nat → Nat} {N me : Nat}
theorem PlI.f0 (h : PlI C a k F S N me) : intAt C 288 = ((a % 16 : Nat) : Int) := int_at h.fst
theorem PlI.f1 (h : PlI C a k F S N me) : intAt C 289 = (k : Int) := int_at h.cnt
theorem PlI.f2 (h : PlI C a k F S N me) : intAt C 290 = (N : Int) := int_at h.off
theorem PlI.f3 (h : PlI C a k F S N me) : intAt C 291 = (me : Int) := int_at h.own
theorem PlI.g0 (h : PlI C a k F S N me) : C[288]? = some (.int .i64 (intAt C 288)) := by rw [h.f0]; exact h.fst
theorem PlI.g1 (h : PlI C a k F S N me) : C[289]? = some (.int .i64 (intAt C 289)) := by rw [h.f1]; exact h.cnt
theorem PlI.g2 (h : PlI C a k F S N me) : C[290]? = some (.int .i64 (intAt C 290)) := by rw [h.f2]; exact h.off
theorem PlI.g3 (h : PlI C a k F S N me) : C[291]? = some (.int .i64 (intAt C 291)) := by rw [h.f3]; exact h.own
/-- What an index comes to. -/
theorem PlI.add (h : PlI C a k F S N me) {i : Nat} (hi : i < k) : adI (intAt C 288) (i : Int) = ((a + i : Nat) : Int) := by
  have := h.ak
  rw [h.f0, adI_eq]
  omega
theorem PlI.pos (h : PlI C a k F S N me) {i : Nat} (hi : i < k) : Int.toNat (mdI (adI (intAt C 288) (i : Int)) 16) = a + i := by
  have := h.ak
  rw [h.add hi, mdI_eq]
  omega
theorem PlI.o2 (h : PlI C a k F S N me) {i : Nat} (hi : i < k) : rg .i64 (adI (intAt C 288) (i : Int)) := by
  have := h.ak
  rw [h.add hi]
  simp only [rg]
  omega
theorem PlI.o3 (h : PlI C a k F S N me) {i : Nat} (hi : i < k) : IntKind.wrap .i64 ((BitVec.toNat (BitVec.ofInt 64 (adI (intAt C 288) (i : Int)) &&& BitVec.ofInt 64 15) : Nat) : Int) = mdI (adI (intAt C 288) (i : Int)) 16 := by
  have := h.ak
  rw [h.add hi]
  exact and15 _ (by omega)
theorem PlI.o4 (h : PlI C a k F S N me) {i : Nat} (hi : i < k) : 0 ≤ mdI (adI (intAt C 288) (i : Int)) 16 ∧ mdI (adI (intAt C 288) (i : Int)) 16 < 16 := by
  rw [h.add hi, mdI_eq]
  omega
/-- The cells of a prepare. -/
theorem PlI.op (h : PlI C a k F S N me) {i : Nat} (hi : i < k) : C[(a + i) * 18 + 0 + 0 + 5]? = some (.int .i64 (F + ((a + i : Nat) : Int))) := h.it (a + i) (by omega) (by omega) 5 (by omega)
theorem PlI.vw (h : PlI C a k F S N me) {i : Nat} (hi : i < k) : C[(a + i) * 18 + 0 + 0 + 3]? = some (.int .i64 2) := h.it (a + i) (by omega) (by omega) 3 (by omega)
theorem PlI.se (h : PlI C a k F S N me) {i : Nat} (hi : i < k) : C[(a + i) * 18 + 17]? = some (.int .u8 ((S (a + i) : Nat) : Int)) := h.it (a + i) (by omega) (by omega) 17 (by omega)
theorem PlI.msg (h : PlI C a k F S N me) {i : Nat} (hi : i < k) : (C.drop ((a + i) * 18)).take 17 = msgL (F + ((a + i : Nat) : Int)) := by
  have hl := h.len
  have hk := h.ak
  apply List.ext_getElem?
  intro j
  rw [List.getElem?_take, List.getElem?_drop]
  by_cases hj : j < 17
  · rw [if_pos hj, h.it (a + i) (by omega) (by omega) j (by omega)]
    rcases (by omega : j = 0 ∨ j = 1 ∨ j = 2 ∨ j = 3 ∨ j = 4 ∨ j = 5 ∨ j = 6 ∨ j = 7 ∨ j = 8 ∨ j = 9 ∨ j = 10 ∨ j = 11 ∨ j = 12 ∨ j = 13 ∨ j = 14 ∨ j = 15 ∨ j = 16) with rfl | rfl | rfl | rfl | rfl | rfl | rfl | rfl | rfl | rfl | rfl | rfl | rfl | rfl | rfl | rfl | rfl <;> rfl
  · rw [if_neg hj, List.getElem?_eq_none]
    exact Nat.not_lt.1 hj
/-- A replica that has a prepare. -/
def upN (S : Nat → Nat) (j s : Nat) : Nat → Nat := fun i => if i = j then s else S i
theorem PlI.ok (h : PlI C a k F S N me) {i s : Nat} (hi : i < k) (hs : s < 128) : PlI (splice C ((a + i) * 18 + 17) [.int .u8 (s : Int)]) a k F (upN S (a + i) s) N me := by
  have hl := h.len
  have hk := h.ak
  have hb : (a + i) * 18 + 17 + [Value.int .u8 (s : Int)].length ≤ C.length := by simp only [List.length_cons, List.length_nil]; omega
  have far : ∀ q, 288 ≤ q → (splice C ((a + i) * 18 + 17) [.int .u8 (s : Int)])[q]? = C[q]? := fun q hq => spl_out hb (by simp only [List.length_cons, List.length_nil]; omega)
  refine ⟨fl_splice hb h.fl (Fl.of rfl), by rw [splice_length]; exact hl, by rw [far _ (by omega)]; exact h.fst, by rw [far _ (by omega)]; exact h.cnt, by rw [far _ (by omega)]; exact h.off, by rw [far _ (by omega)]; exact h.own, hk, h.nn, h.mm, h.fr, fun j h1 h2 q hq => ?_, fun j h1 h2 => ?_⟩
  · by_cases hj : j = a + i
    · subst hj
      by_cases hq7 : q = 17
      · subst hq7
        rw [spl_in hb (by omega) (by simp only [List.length_cons, List.length_nil]; omega), Nat.sub_self]
        unfold upN
        rw [if_pos rfl]
        rfl
      · rw [spl_out hb (by simp only [List.length_cons, List.length_nil]; omega), h.it _ h1 h2 q hq]
        rcases (by omega : q = 0 ∨ q = 1 ∨ q = 2 ∨ q = 3 ∨ q = 4 ∨ q = 5 ∨ q = 6 ∨ q = 7 ∨ q = 8 ∨ q = 9 ∨ q = 10 ∨ q = 11 ∨ q = 12 ∨ q = 13 ∨ q = 14 ∨ q = 15 ∨ q = 16) with rfl | rfl | rfl | rfl | rfl | rfl | rfl | rfl | rfl | rfl | rfl | rfl | rfl | rfl | rfl | rfl | rfl <;> rfl
    · rw [spl_out hb (by simp only [List.length_cons, List.length_nil]; omega), h.it _ h1 h2 q hq]
      unfold upN
      rw [if_neg hj]
  · unfold upN
    split
    · exact hs
    · exact h.st j h1 h2
end
end Go.Proofs.Ythbcemcgbgoplaa
