/-
  Chapter 22: the statement SessionFull: plain laws on tables.
-/
import Derived.Test.YtdcakhahagbedaaFulB
namespace Go.Proofs.Ytdcakhahagbedaa
set_option linter.unusedSimpArgs false
set_option linter.unusedVariables false
set_option linter.unusedSectionVars false
open Go Go.RowKit

theorem nm2_inj {a b c d : Int} (ha : w6 a) (hb : w6 b) (hc : w6 c) (hd : w6 d) (h : nm2 a b = nm2 c d) : a = c ∧ b = d := by
  unfold w6 nm2 at *
  omega
/-- A client is, or is not, the one in the row. -/
theorem eqt {h l x y : Int} (hh : w6 h) (hl : w6 l) (hx : w6 x) (hy : w6 y) (e : nm2 h l = nm2 x y) : (h == x && (l == y && true)) = true := by
  obtain ⟨rfl, rfl⟩ := nm2_inj hh hl hx hy e
  simp
theorem eqf {h l x y : Int} (e : nm2 h l ≠ nm2 x y) : (h == x && (l == y && true)) = false := by
  cases hb : (h == x && (l == y && true)) with
  | false => rfl
  | true =>
    simp only [Bool.and_true, Bool.and_eq_true, beq_iff_eq] at hb
    exact (e (by rw [hb.1, hb.2])).elim
theorem U6.w {X : List Value} (h : U6 X) {k : Nat} (hk : k < 5) : w6 (intAt X (k * 2)) ∧ w6 (intAt X (k * 2 + 1)) := ⟨(h.2 _ (by omega)).2, (h.2 _ (by omega)).2⟩
theorem U6.two {X : List Value} (h : U6 X) {k : Nat} (hk : k < 5) : List.take 2 (List.drop (k * 2) X) = [.int .u64 (intAt X (k * 2)), .int .u64 (intAt X (k * 2 + 1))] := by
  have e1 := (h.2 (k * 2) (by omega)).1
  have e2 := (h.2 (k * 2 + 1) (by omega)).1
  apply List.ext_getElem?
  intro j
  rw [List.getElem?_take, List.getElem?_drop]
  match j with
  | 0 => rw [if_pos (by omega), Nat.add_zero, e1]; rfl
  | 1 => rw [if_pos (by omega), e2]; rfl
  | j + 2 => rw [if_neg (by omega)]; rfl
/-- Sorted by clients. -/
def Srt (L : List En) : Prop := L.Pairwise fun a b => a.nm < b.nm
theorem Srt.split {L : List En} (h : Srt L) {x : Int} (hx : ∀ e ∈ L, e.nm ≠ x) : ∃ A B, L = A ++ B ∧ (∀ e ∈ A, e.nm < x) ∧ ∀ e ∈ B, x < e.nm := by
  induction L with
  | nil => exact ⟨[], [], rfl, (fun e h => by cases h), (fun e h => by cases h)⟩
  | cons a L ih =>
    obtain ⟨h1, h2⟩ := List.pairwise_cons.1 h
    rcases Int.lt_or_gt_of_ne (hx a (by simp)) with hlt | hgt
    · obtain ⟨A, B, rfl, hA, hB⟩ := ih h2 (fun e he => hx e (by simp [he]))
      exact ⟨a :: A, B, rfl, (fun e he => by
        rcases List.mem_cons.1 he with rfl | he
        · exact hlt
        · exact hA e he), hB⟩
    · exact ⟨[], a :: L, rfl, (fun e h => by cases h), (fun e he => by
        rcases List.mem_cons.1 he with rfl | he
        · exact hgt
        · exact Int.lt_trans hgt (h1 e he))⟩
theorem Srt.ins {A B : List En} {e : En} (h : Srt (A ++ B)) (hA : ∀ a ∈ A, a.nm < e.nm) (hB : ∀ b ∈ B, e.nm < b.nm) : Srt (A ++ e :: B) := by
  obtain ⟨h1, h2, h3⟩ := List.pairwise_append.1 h
  refine List.pairwise_append.2 ⟨h1, List.pairwise_cons.2 ⟨hB, h2⟩, fun a ha b hb => ?_⟩
  rcases List.mem_cons.1 hb with rfl | hb
  · exact hA a ha
  · exact h3 a ha b hb
theorem Srt.upd {A B : List En} {e e' : En} (h : Srt (A ++ e :: B)) (hn : e'.nm = e.nm) : Srt (A ++ e' :: B) := by
  obtain ⟨h1, h2, h3⟩ := List.pairwise_append.1 h
  obtain ⟨h4, h5⟩ := List.pairwise_cons.1 h2
  refine List.pairwise_append.2 ⟨h1, List.pairwise_cons.2 ⟨fun b hb => by rw [hn]; exact h4 b hb, h5⟩, fun a ha b hb => ?_⟩
  rcases List.mem_cons.1 hb with rfl | hb
  · rw [hn]; exact h3 a ha e (by simp)
  · exact h3 a ha b (by simp [hb])
theorem Srt.rem {A B : List En} {e : En} (h : Srt (A ++ e :: B)) : Srt (A ++ B) := by
  refine List.Pairwise.sublist ?_ h
  exact List.Sublist.append (List.Sublist.refl A) (List.sublist_cons_self e B)
/-- Where a client of the table stands: those ahead are others, those behind too. -/
theorem Srt.at {L : List En} (h : Srt L) {e : En} (he : e ∈ L) : ∃ A B, L = A ++ e :: B ∧ (∀ a ∈ A, a.nm < e.nm) ∧ ∀ b ∈ B, e.nm < b.nm := by
  obtain ⟨A, B, rfl⟩ := List.append_of_mem he
  obtain ⟨h1, h2, h3⟩ := List.pairwise_append.1 h
  exact ⟨A, B, rfl, fun a ha => h3 a ha e (by simp), fun b hb => (List.pairwise_cons.1 h2).1 b hb⟩
/-- The table tells of the first m clients, each with its last op; i rounds are behind. -/
structure Inv (X : List Value) (Y : Nat → Int) (m i : Nat) (L : List En) : Prop where
  len : L.length = m
  srt : Srt L
  fwd : ∀ k, k < m → ∃ e ∈ L, e.nm = cl X k ∧ e.o = Y k
  bwd : ∀ e ∈ L, ∃ k, k < m ∧ e.nm = cl X k ∧ e.o = Y k
  wid : ∀ e ∈ L, w6 e.h ∧ w6 e.l ∧ 0 ≤ e.r ∧ e.r ≤ (i : Int)
/-- The five clients differ, and none is nought. -/
structure Cls (X : List Value) : Prop where
  u : U6 X
  ne : ∀ i k, i < 5 → k < 5 → i ≠ k → cl X i ≠ cl X k
  nz : ∀ i, i < 5 → cl X i ≠ 0
theorem Inv.nil {X : List Value} {Y : Nat → Int} : Inv X Y 0 0 [] := ⟨rfl, List.Pairwise.nil, (fun k h => by omega), (fun e h => by cases h), (fun e h => by cases h)⟩
theorem Inv.reg {X : List Value} (hX : Cls X) {Y : Nat → Int} {m : Nat} (hm : m < 5) {A B : List En} (h : Inv X Y m 0 (A ++ B)) {e : En} (hn : e.nm = cl X m) (ho : e.o = Y m) (hr : e.r = 0) (hw : w6 e.h ∧ w6 e.l) (hA : ∀ a ∈ A, a.nm < e.nm) (hB : ∀ b ∈ B, e.nm < b.nm) : Inv X Y (m + 1) 0 (A ++ e :: B) := by
  have sub : ∀ a, a ∈ A ++ B → a ∈ A ++ e :: B := fun a ha => by
    rcases List.mem_append.1 ha with h | h
    · exact List.mem_append_left _ h
    · exact List.mem_append_right _ (List.mem_cons_of_mem _ h)
  have cls : ∀ a, a ∈ A ++ e :: B → a = e ∨ a ∈ A ++ B := fun a ha => by
    rcases List.mem_append.1 ha with h | h
    · exact .inr (List.mem_append_left _ h)
    · rcases List.mem_cons.1 h with h | h
      · exact .inl h
      · exact .inr (List.mem_append_right _ h)
  refine ⟨?_, h.srt.ins hA hB, fun k hk => ?_, fun a ha => ?_, fun a ha => ?_⟩
  · have := h.len
    simp only [List.length_append, List.length_cons] at this ⊢
    omega
  · rcases Nat.lt_or_ge k m with hlt | hge
    · obtain ⟨a, ha, h1, h2⟩ := h.fwd k hlt
      exact ⟨a, sub a ha, h1, h2⟩
    · obtain rfl : k = m := by omega
      exact ⟨e, by simp, hn, ho⟩
  · rcases cls a ha with rfl | ha
    · exact ⟨m, by omega, hn, ho⟩
    · obtain ⟨k, h1, h2⟩ := h.bwd a ha
      exact ⟨k, by omega, h2⟩
  · rcases cls a ha with rfl | ha
    · exact ⟨hw.1, hw.2, by omega, by omega⟩
    · exact h.wid a ha
theorem Inv.new {X : List Value} (hX : Cls X) {Y : Nat → Int} {m i : Nat} {L : List En} (hm : m < 5) (h : Inv X Y m i L) : ∀ e ∈ L, e.nm ≠ cl X m := fun e he hc => by
  obtain ⟨k, h1, h2, _⟩ := h.bwd e he
  exact hX.ne k m (by omega) hm (by omega) (h2.symm.trans hc)
def updY (Y : Nat → Int) (k : Nat) (v : Int) : Nat → Int := fun j => if j = k then v else Y j
theorem Inv.upd {X : List Value} (hX : Cls X) {Y : Nat → Int} {i k : Nat} (hk : k < 4) {A B : List En} {e e' : En} (h : Inv X Y 4 i (A ++ e :: B)) (hn : e.nm = cl X k) (hn' : e'.nm = e.nm) {v : Int} (ho : e'.o = v) (hw : w6 e'.h ∧ w6 e'.l) (hr : e'.r = e.r + 1) : Inv X (updY Y k v) 4 (i + 1) (A ++ e' :: B) := by
  have cls : ∀ a, a ∈ A ++ e' :: B → a = e' ∨ (a ∈ A ++ e :: B ∧ a.nm ≠ cl X k) := fun a ha => by
    obtain ⟨h1, h2, h3⟩ := List.pairwise_append.1 h.srt
    obtain ⟨h4, h5⟩ := List.pairwise_cons.1 h2
    rcases List.mem_append.1 ha with g | g
    · refine .inr ⟨List.mem_append_left _ g, ?_⟩
      have := h3 a g e (by simp)
      (try simp only at this)
      omega
    · rcases List.mem_cons.1 g with g | g
      · exact .inl g
      · refine .inr ⟨List.mem_append_right _ (List.mem_cons_of_mem _ g), ?_⟩
        have := h4 a g
        (try simp only at this)
        omega
  have he : e ∈ A ++ e :: B := by simp
  refine ⟨by have := h.len; simpa using this, h.srt.upd hn', fun j hj => ?_, fun a ha => ?_, fun a ha => ?_⟩
  · by_cases hjk : j = k
    · subst hjk
      exact ⟨e', by simp, hn'.trans hn, by simp [updY, ho]⟩
    · obtain ⟨a, ha, h1, h2⟩ := h.fwd j hj
      have hne : a ≠ e := fun e0 => by
        subst e0
        exact hX.ne j k (by omega) (by omega) hjk (h1.symm.trans hn)
      refine ⟨a, ?_, h1, by simp [updY, hjk, h2]⟩
      rcases List.mem_append.1 ha with g | g
      · exact List.mem_append_left _ g
      · rcases List.mem_cons.1 g with g | g
        · exact (hne g).elim
        · exact List.mem_append_right _ (List.mem_cons_of_mem _ g)
  · rcases cls a ha with rfl | ⟨ha, hne⟩
    · exact ⟨k, hk, hn'.trans hn, by simp [updY, ho]⟩
    · obtain ⟨j, h1, h2, h3⟩ := h.bwd a ha
      have hjk : j ≠ k := fun e0 => by subst e0; exact hne h2
      exact ⟨j, h1, h2, by simp [updY, hjk, h3]⟩
  · rcases cls a ha with rfl | ⟨ha, _⟩
    · have := h.wid e he
      exact ⟨hw.1, hw.2, by omega, by omega⟩
    · have := h.wid a ha
      exact ⟨this.1, this.2.1, this.2.2.1, by omega⟩
end Go.Proofs.Ytdcakhahagbedaa
