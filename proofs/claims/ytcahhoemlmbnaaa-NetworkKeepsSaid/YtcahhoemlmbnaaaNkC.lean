/-
  Chapter 30: the statement NetworkKeeps: plain laws; what holds from round to round.
-/
import Derived.Test.YtcahhoemlmbnaaaInsP
import Derived.Test.YtcahhoemlmbnaaaOpenDp
import Derived.Test.YtcahhoemlmbnaaaKitP
namespace Go.Proofs.Ytcahhoemlmbnaaa
set_option linter.unusedSimpArgs false
set_option linter.unusedVariables false
set_option linter.unusedSectionVars false
open Go Go.RowKit

/-! ### maps of cut links -/
def lkK (a b : Int) : Value := .agg ⟨[.int .i64 a, .int .i64 b]⟩
def MpOk (es : List (Value × Value)) : Prop := ∀ e ∈ es, ∃ a b x, e = (lkK a b, .bool x)
theorem eqv_lk (a b c d : Int) : eqV Try.prog 10000 71 (lkK a b) (lkK c d) = some ((a == c) && ((b == d) && true)) := by kernel_rfl
theorem keysOk {es : List (Value × Value)} (h : MpOk es) (a b : Int) : KeysOk Try.prog 71 (lkK a b) es := fun e he => by
  obtain ⟨c, d, x, rfl⟩ := h e he
  refine ⟨rfl, ?_⟩
  rw [eqv_lk]
  simp [keyEq, lkK]
theorem boolsOk {es : List (Value × Value)} (h : MpOk es) : BoolsOk es := fun e he => by
  obtain ⟨c, d, x, rfl⟩ := h e he
  exact ⟨x, rfl⟩
theorem mpOk_up (a b : Int) (x : Bool) : ∀ {es : List (Value × Value)}, MpOk es → MpOk (upE (lkK a b) (.bool x) es)
  | [], _ => fun e he => by
      simp only [upE, List.mem_cons, List.not_mem_nil, or_false] at he
      exact ⟨a, b, x, he⟩
  | (k, u) :: es, h => by
      simp only [upE]
      have ih := mpOk_up a b x (es := es) fun e he => h e (List.mem_cons_of_mem _ he)
      cases keyEq (lkK a b) k with
      | true =>
        intro e he
        rcases List.mem_cons.1 he with rfl | he
        · exact ⟨a, b, x, rfl⟩
        · exact h e (List.mem_cons_of_mem _ he)
      | false =>
        intro e he
        rcases List.mem_cons.1 he with rfl | he
        · exact h _ (List.mem_cons_self ..)
        · exact ih e he

/-! ### packets -/
def ldl (C : List Value) (o : Nat) : List Value := [.int .i64 (intAt C o), .int .i64 (intAt C (o + 1)), .int .i64 (intAt C (o + 1 + 1)), .int .i64 (intAt C (o + 1 + 1 + 1)), .int .i64 (intAt C (o + 1 + 1 + 1 + 1)), .int .i64 (intAt C (o + 1 + 1 + 1 + 1 + 1)), .int .i64 (intAt C (o + 1 + 1 + 1 + 1 + 1 + 1)), .int .i64 (intAt C (o + 1 + 1 + 1 + 1 + 1 + 1 + 1)), .int .i64 (intAt C (o + 1 + 1 + 1 + 1 + 1 + 1 + 1 + 1)), .int .i64 (intAt C (o + 1 + 1 + 1 + 1 + 1 + 1 + 1 + 1 + 1)), .int .i64 (intAt C (o + 1 + 1 + 1 + 1 + 1 + 1 + 1 + 1 + 1 + 1)), .int .u64 (intAt C (o + 1 + 1 + 1 + 1 + 1 + 1 + 1 + 1 + 1 + 1 + 1)), .int .u64 (intAt C (o + 1 + 1 + 1 + 1 + 1 + 1 + 1 + 1 + 1 + 1 + 1 + 1)), .int .i64 (intAt C (o + 1 + 1 + 1 + 1 + 1 + 1 + 1 + 1 + 1 + 1 + 1 + 1 + 1)), .int .i64 (intAt C (o + 1 + 1 + 1 + 1 + 1 + 1 + 1 + 1 + 1 + 1 + 1 + 1 + 1 + 1)), .int .u64 (intAt C (o + 1 + 1 + 1 + 1 + 1 + 1 + 1 + 1 + 1 + 1 + 1 + 1 + 1 + 1 + 1)), .int .i64 (intAt C (o + 1 + 1 + 1 + 1 + 1 + 1 + 1 + 1 + 1 + 1 + 1 + 1 + 1 + 1 + 1 + 1)), .int .i64 (intAt C (o + 1 + 1 + 1 + 1 + 1 + 1 + 1 + 1 + 1 + 1 + 1 + 1 + 1 + 1 + 1 + 1 + 1)), .slice none 0 0]
abbrev pq (l : List Pq) (i : Nat) : Pq := l.getD i (0, 0, 0)
theorem ldl_pks {l : List Pq} {i : Nat} (hi : i < l.length) : ldl (pks l) (i * 19) = pk (pq l i) := by
  have h : ∀ j, j < 19 → intAt (pks l) (i * 19 + j) = intAt (pk (pq l i)) j := fun j hj => by unfold intAt; rw [pks_at hi hj]
  have h0 : intAt (pks l) (i * 19) = intAt (pk (pq l i)) 0 := h 0 (by omega)
  unfold ldl
  simp only [Nat.add_assoc, Nat.reduceAdd]
  rw [h0, h 1 (by omega), h 2 (by omega), h 3 (by omega), h 4 (by omega), h 5 (by omega), h 6 (by omega), h 7 (by omega), h 8 (by omega), h 9 (by omega), h 10 (by omega), h 11 (by omega), h 12 (by omega), h 13 (by omega), h 14 (by omega), h 15 (by omega), h 16 (by omega), h 17 (by omega)]
  rfl
theorem ldl_take {l : List Pq} {i : Nat} (hi : i < l.length) : List.take 19 (List.drop (i * 19) (pks l)) = ldl (pks l) (i * 19) := (pks_row hi).trans (ldl_pks hi).symm
theorem pks_del' (l : List Pq) (x : Int) : delP (pks l) x = pks (l.take x.toNat ++ l.drop (x.toNat + 1)) := by
  unfold delP
  rw [pks_take, pks_drop, pks_app]
theorem del_len {l : List Pq} {j : Nat} (h : j < l.length) : (l.take j ++ l.drop (j + 1)).length = l.length - 1 := by
  rw [List.length_append, List.length_take, List.length_drop]; omega
theorem del_mem {l : List Pq} {j : Nat} {q : Pq} (h : q ∈ l.take j ++ l.drop (j + 1)) : q ∈ l := by
  rcases List.mem_append.1 h with h | h
  · exact List.mem_of_mem_take h
  · exact List.mem_of_mem_drop h
theorem pq_mem {l : List Pq} {j : Nat} (h : j < l.length) : pq l j ∈ l := by
  have : pq l j = l[j] := by unfold pq; simp [h]
  rw [this]; exact List.getElem_mem h
def insQ (l : List Pq) (j : Nat) (q : Pq) : List Pq := l.take j ++ q :: l.drop j
theorem insQ_row (l : List Pq) (x : Int) (q : Pq) : insL (pks l) x (pk q) = pks (insQ l x.toNat q) := by
  unfold insL insQ
  rw [pks_take, pks_drop, pks_app]
  rfl
theorem insQ_len {l : List Pq} {j : Nat} {q : Pq} (h : j ≤ l.length) : (insQ l j q).length = l.length + 1 := by
  unfold insQ
  rw [List.length_append, List.length_cons, List.length_take, List.length_drop]; omega
theorem insQ_mem {l : List Pq} {j : Nat} {q p : Pq} (h : p ∈ insQ l j q) : p = q ∨ p ∈ l := by
  rcases List.mem_append.1 h with h | h
  · exact .inr (List.mem_of_mem_take h)
  · rcases List.mem_cons.1 h with h | h
    · exact .inl h
    · exact .inr (List.mem_of_mem_drop h)
theorem pks_snoc (l : List Pq) (q : Pq) : pks l ++ pk q = pks (l ++ [q]) := by rw [pks_app]; simp [pks]

/-! ### arrays of numbers -/
def ints (l : List Int) : List Value := l.map (Value.int .i64)
theorem ints_fl (l : List Int) : Fl (ints l) := Fl.ints .i64 l
theorem ints_len (l : List Int) : (ints l).length = l.length := by simp [ints]
theorem ints_set (l : List Int) (i : Nat) (v : Int) : splice (ints l) i [.int .i64 v] = ints (l.set i v) := by
  simp only [splice, ints, List.map_set]
theorem ints_at {l : List Int} {i : Nat} {v : Int} (h : l[i]? = some v) : (ints l)[i]? = some (.int .i64 v) ∧ intAt (ints l) i = v := by
  have e : (ints l)[i]? = some (.int .i64 v) := by simp [ints, h]
  exact ⟨e, by unfold intAt; rw [e]⟩

/-! ### from round to round -/
structure Nk (asL bs : List Int) (es : List (Value × Value)) (l : List Pq) (i : Nat) (s t lo : Int) : Prop where
  la : asL.length = 64
  lb : bs.length = 64
  he : MpOk es
  hq : ∀ q ∈ l, 0 ≤ q.1 ∧ q.1 < (i : Int) ∧ asL[q.1.toNat]? = some q.2.1 ∧ bs[q.1.toNat]? = some q.2.2
  sum : s = t + lo + (l.length : Int)
  t0 : 0 ≤ t
  l0 : 0 ≤ lo
  si : s ≤ (i : Int)
section
variable {asL bs : List Int} {es : List (Value × Value)} {l : List Pq} {i : Nat} {s t lo : Int}
theorem Nk.up (h : Nk asL bs es l i s t lo) : Nk asL bs es l (i + 1) s t lo :=
  ⟨h.la, h.lb, h.he, fun q hq => by obtain ⟨a, b, c, d⟩ := h.hq q hq; exact ⟨a, by omega, c, d⟩, h.sum, h.t0, h.l0, by have := h.si; omega⟩
theorem Nk.cut (h : Nk asL bs es l i s t lo) (hi : i < 64) (a b : Int) : Nk (asL.set i a) (bs.set i b) es l (i + 1) (adI s 1) t (adI lo 1) :=
  ⟨by rw [List.length_set]; exact h.la, by rw [List.length_set]; exact h.lb, h.he, fun q hq => by
    obtain ⟨h1, h2, h3, h4⟩ := h.hq q hq
    refine ⟨h1, by omega, ?_, ?_⟩
    · rw [List.getElem?_set_ne (by omega)]; exact h3
    · rw [List.getElem?_set_ne (by omega)]; exact h4, by rw [adI_eq, adI_eq]; have := h.sum; omega, h.t0, by rw [adI_eq]; have := h.l0; omega, by rw [adI_eq]; have := h.si; omega⟩
theorem Nk.put (h : Nk asL bs es l i s t lo) (hi : i < 64) (a b : Int) : Nk (asL.set i a) (bs.set i b) es (l ++ [((i : Int), a, b)]) (i + 1) (adI s 1) t lo :=
  ⟨by rw [List.length_set]; exact h.la, by rw [List.length_set]; exact h.lb, h.he, fun q hq => by
    rcases List.mem_append.1 hq with hq | hq
    · obtain ⟨h1, h2, h3, h4⟩ := h.hq q hq
      refine ⟨h1, by omega, ?_, ?_⟩
      · rw [List.getElem?_set_ne (by omega)]; exact h3
      · rw [List.getElem?_set_ne (by omega)]; exact h4
    · simp only [List.mem_cons, List.not_mem_nil, or_false] at hq
      subst hq
      refine ⟨by simp only; omega, by simp only; omega, ?_, ?_⟩
      · simp only [Int.toNat_natCast]; rw [List.getElem?_set_self (by rw [h.la]; exact hi)]
      · simp only [Int.toNat_natCast]; rw [List.getElem?_set_self (by rw [h.lb]; exact hi)], by rw [adI_eq, List.length_append, List.length_singleton]; have := h.sum; omega, h.t0, h.l0, by rw [adI_eq]; have := h.si; omega⟩
theorem Nk.take (h : Nk asL bs es l i s t lo) {j : Nat} (hj : j < l.length) : Nk asL bs es (l.take j ++ l.drop (j + 1)) (i + 1) s (adI t 1) lo :=
  ⟨h.la, h.lb, h.he, fun q hq => h.up.hq q (del_mem hq), by rw [del_len hj, adI_eq]; have := h.sum; omega, by rw [adI_eq]; have := h.t0; omega, h.l0, by have := h.si; omega⟩
theorem Nk.drop (h : Nk asL bs es l i s t lo) {j : Nat} (hj : j < l.length) : Nk asL bs es (l.take j ++ l.drop (j + 1)) (i + 1) s t (adI lo 1) :=
  ⟨h.la, h.lb, h.he, fun q hq => h.up.hq q (del_mem hq), by rw [del_len hj, adI_eq]; have := h.sum; omega, h.t0, by rw [adI_eq]; have := h.l0; omega, by have := h.si; omega⟩
theorem Nk.dbl (h : Nk asL bs es l i s t lo) {j : Nat} (hj : j < l.length) : Nk asL bs es (l ++ [pq l j]) (i + 1) (adI s 1) t lo :=
  ⟨h.la, h.lb, h.he, fun q hq => by
    rcases List.mem_append.1 hq with hq | hq
    · exact h.up.hq q hq
    · simp only [List.mem_cons, List.not_mem_nil, or_false] at hq
      subst hq
      exact h.up.hq _ (pq_mem hj), by rw [adI_eq, List.length_append, List.length_singleton]; have := h.sum; omega, h.t0, h.l0, by rw [adI_eq]; have := h.si; omega⟩
theorem Nk.move (h : Nk asL bs es l i s t lo) {j k : Nat} (hj : j < l.length) (hk : k < l.length) : Nk asL bs es (insQ (l.take j ++ l.drop (j + 1)) k (pq l j)) (i + 1) s t lo :=
  ⟨h.la, h.lb, h.he, fun q hq => by
    rcases insQ_mem hq with rfl | hq
    · exact h.up.hq _ (pq_mem hj)
    · exact h.up.hq q (del_mem hq), by rw [insQ_len (by rw [del_len hj]; omega), del_len hj]; have := h.sum; omega, h.t0, h.l0, by have := h.si; omega⟩
theorem Nk.clear (h : Nk asL bs es l i s t lo) : Nk asL bs es [] (i + 1) s t (adI lo (l.length : Int)) :=
  ⟨h.la, h.lb, h.he, fun q hq => (by cases hq), by rw [adI_eq, List.length_nil]; have := h.sum; omega, h.t0, by rw [adI_eq]; have := h.l0; omega, by have := h.si; omega⟩
theorem Nk.link (h : Nk asL bs es l i s t lo) (a b : Int) (x : Bool) : Nk asL bs (upE (lkK a b) (.bool x) es) l (i + 1) s t lo :=
  ⟨h.la, h.lb, mpOk_up a b x h.he, h.up.hq, h.sum, h.t0, h.l0, by have := h.si; omega⟩
end
end Go.Proofs.Ytcahhoemlmbnaaa
