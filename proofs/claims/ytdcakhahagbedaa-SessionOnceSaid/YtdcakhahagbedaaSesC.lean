/-
  Chapter 22: the statement SessionOnce: the laws of its loop.
-/
import Derived.Test.YtdcakhahagbedaaSesBn
import Derived.Test.YtdcakhahagbedaaSesBe
import Derived.Test.YtdcakhahagbedaaSesBb
import Derived.Test.YtdcakhahagbedaaSesBc
namespace Go.Proofs.Ytdcakhahagbedaa
set_option linter.unusedSimpArgs false
set_option linter.unusedVariables false
set_option linter.unusedSectionVars false
open Go Go.RowKit

/-- Requests; a reply. -/
structure SoF (rs : List Value) (n c : Nat) : Prop where
  i : Ints .i64 rs
  l : rs.length = n
  w : ∀ j, j < n → -9223372036854775808 ≤ intAt rs j ∧ intAt rs j ≤ 9223372036854775807
  c : n ≤ c ∧ c ≤ 9223372036854775807
  m : n ≤ 40
structure SoX (xs : List Value) (m d : Nat) : Prop where
  y : Byts xs
  l : xs.length = m
  c : m ≤ d ∧ d ≤ 9223372036854775807
  s : m ≤ 1024
theorem fl_ints {k : IntKind} {xs : List Value} (h : Ints k xs) : Fl xs := by unfold Ints at h; rw [h]; exact Fl.ints _ _
theorem tab_rb {f : Sg} {a b q o : Int} {rv rv' : Value} (h : renV f rv = some rv') : renL f (tabC a b q o rv) = some (tabC a b q o rv') := by simp [tabC, renL, renV, h]
theorem soV_X (m1 : Nat) : XOkZ (soV m1 2 noL) Try.prog := noXz_ok rfl
theorem soV_T (m1 : Nat) : TOkZ (soV m1 2 noL) Try.prog := T_okV rfl soT_one
theorem soV_L (m1 : Nat) : LOkZ (soV m1 2 noL) Try.prog := noL_okV rfl
theorem dFl (i n : Nat) (h : n ≤ i) : decide ((i : Int) < (n : Int)) = false := by simp only [decide_eq_false_iff_not]; omega
theorem by1 (i : Nat) : Byts [Value.int .u8 ((i % 256 : Nat) : Int)] := by
  have e : [Value.int .u8 ((i % 256 : Nat) : Int)] = [((i % 256 : Nat) : Int)].map (Value.int .u8) := rfl
  rw [e]
  refine Byts.of fun x hx => ?_
  simp only [List.mem_cons, List.not_mem_nil, or_false] at hx
  omega
/-- A reply's bytes: half of what came in, and one more. -/
structure SoY (xs : List Value) (h i : Nat) (Y : List Value) : Prop where
  e : xs.take h ++ [Value.int .u8 ((i % 256 : Nat) : Int)] = Y
  t : Y.take (h + 1) = Y
  l : Y.length = h + 1
  y : Byts Y
  g : Y[h]? = some (.int .u8 (intAt Y h))
  v : intAt Y h = ((i % 256 : Nat) : Int)
theorem soY_ex {xs : List Value} {m : Nat} (hb : Byts xs) (hl : xs.length = m) (i : Nat) : ∃ Y, SoY xs (m / 2) i Y := by
  have h1 : (xs.take (m / 2)).length = m / 2 := by rw [List.length_take]; omega
  have hy := (hb.take (m / 2)).app (by1 i)
  have hY : (xs.take (m / 2) ++ [Value.int .u8 ((i % 256 : Nat) : Int)]).length = m / 2 + 1 := by rw [List.length_append, h1]; rfl
  have hv : intAt (xs.take (m / 2) ++ [Value.int .u8 ((i % 256 : Nat) : Int)]) (m / 2) = ((i % 256 : Nat) : Int) := by
    unfold intAt
    rw [List.getElem?_append_right (by omega), h1, Nat.sub_self]
    rfl
  exact ⟨_, rfl, take_len hY, hY, hy, (hy.get (by omega)).1, hv⟩
set_option maxHeartbeats 4000000 in
theorem sn1_l19 {inr : Bool} {h0 : Hp} {a b : Int} {rs : List Value} {n c : Nat} (F : SoF rs n c) : ∀ (k i : Nat) (q o : Int) (l : Nat) (ys : List Value), i + k = n → 0 ≤ q → q ≤ (i : Int) → Fl ys →
    LRuns inr Try.prog (soB Try.prog) 19 80 h0 162 (soS (.slice none 0 0) n c i q) (soH a b q o (.slice (some ⟨21, 0, none⟩) l (capBig + 21)) rs [] [(21, rbr ys)]) 22 (.exit 0, [(7, .bool true)], (1, ⟨.old, rs⟩) :: [])
  | 0, i, q, o, l, ys, hk, h1, h2, hy => by
      have hc := F.c
      have hn40 := F.m
      have fR := fl_ints F.i
      refine LRuns.exit (code_runs (soV_X _) (soV_L _) (runZ_ok (soV_X _) (soV_T _) (soV_L _) mixed 9) mixed (sn1_done inr a b q o rs ys n c i l) ⟨dFl i n (by omega), trivial⟩) (by intro e; cases e) rfl (by omega) (by omega) (fun n => n) ⟨rfl, rfl, trivial⟩ ⟨rb_old (by omega) rfl fR, trivial⟩ rfl
  | k + 1, i, q, o, l, ys, hk, h1, h2, hy => by
      have hc := F.c
      have hn40 := F.m
      have fR := fl_ints F.i
      obtain ⟨w1, w2⟩ := F.w i (by omega)
      have hg := F.i.get (i := i) (by have := F.l; omega)
      have hab : (a == a && (b == b && true)) = true := by simp
      have hi : ((i % 256 : Nat) : Int) = ((i % 256 : Nat) : Int) := rfl
      by_cases x1 : intAt rs i = q + 1
      · have fy : Fl [Value.int .u8 ((i % 256 : Nat) : Int)] := (fl_byts (by1 i))
        have nx := sn1_l19 (inr := inr) (h0 := h0) (a := a) (b := b) F k (i + 1) (intAt rs i) (((i + 2 : Nat) : Int)) 1 [Value.int .u8 ((i % 256 : Nat) : Int)] (by omega) (by omega) (by omega) fy
        refine LRuns.step (code_runs (soV_X _) (soV_L _) (runZ_ok (soV_X _) (soV_T _) (soV_L _) mixed 9) mixed (sn1_next inr a b q o rs ys n c i l) ?_) rfl (by omega) (by omega) (fun _ => 44) ?_ ?_ rfl nx
        ·
          repeat' (first | exact alls_nil | refine alls_cons ?_ ?_)
          all_goals (try simp only [avLen, Nat.zero_add, List.nil_append])
          all_goals first | with_reducible assumption | with_reducible rfl | omega | (simp only [rg, adI_eq, beq_iff_eq, beq_eq_false_iff_ne, bne_iff_ne, bne_eq_false_iff_eq, ne_eq, decide_eq_true_eq, decide_eq_false_iff_not, Int.natCast_add]; omega) | (simp only [beq_self_eq_true, Bool.and_self, bne_self_eq_false]; done) | (refine ⟨by omega, by omega, ?_⟩; simp only [rg]; omega) | (refine ⟨by omega, by omega⟩) | rfl
        · exact ⟨rfl, rb_slc rfl (by unfold capBig; omega), rfl, rfl, rfl, rb_ptr rfl, rfl, rfl, rfl, rb_ptr rfl, rfl, rfl, rfl, rfl, trivial⟩
        · exact ⟨rb_old (by omega) rfl fR, rb_row (m := 3) rfl rfl rfl rfl (Fl.of rfl), ⟨4, _, rfl, rfl, rfl, rfl, .inl (tab_rb (rb_slg rfl rfl))⟩, rb_row (m := 44) rfl rfl rfl rfl fy, trivial⟩
      have nx := sn1_l19 (inr := inr) (h0 := h0) (a := a) (b := b) F k (i + 1) q o l ys (by omega) h1 (by omega) hy
      by_cases x2 : intAt rs i = q
      · refine LRuns.step (code_runs (soV_X _) (soV_L _) (runZ_ok (soV_X _) (soV_T _) (soV_L _) mixed 9) mixed (sn1_same inr a b q o rs ys n c i l) ?_) rfl (by omega) (by omega) (fun n => n) ?_ ?_ rfl nx
        ·
          repeat' (first | exact alls_nil | refine alls_cons ?_ ?_)
          all_goals (try simp only [avLen, Nat.zero_add, List.nil_append])
          all_goals first | with_reducible assumption | with_reducible rfl | omega | (simp only [rg, adI_eq, beq_iff_eq, beq_eq_false_iff_ne, bne_iff_ne, bne_eq_false_iff_eq, ne_eq, decide_eq_true_eq, decide_eq_false_iff_not, Int.natCast_add]; omega) | (simp only [beq_self_eq_true, Bool.and_self, bne_self_eq_false]; done) | (refine ⟨by omega, by omega, ?_⟩; simp only [rg]; omega) | (refine ⟨by omega, by omega⟩) | rfl
        · exact ⟨rfl, rb_slc rfl (by unfold capBig; omega), rfl, rfl, rfl, rb_ptr rfl, rfl, rfl, rfl, rb_ptr rfl, rfl, rfl, rfl, rfl, trivial⟩
        · exact ⟨rb_old (by omega) rfl fR, rb_row (m := 3) rfl rfl rfl rfl (Fl.of rfl), ⟨4, _, rfl, rfl, rfl, rfl, .inl (tab_rb (rb_slg rfl rfl))⟩, rb_row (m := 21) rfl rfl rfl rfl hy, trivial⟩
      by_cases x3 : intAt rs i < q
      · refine LRuns.step (code_runs (soV_X _) (soV_L _) (runZ_ok (soV_X _) (soV_T _) (soV_L _) mixed 9) mixed (sn1_old inr a b q o rs ys n c i l) ?_) rfl (by omega) (by omega) (fun n => n) ?_ ?_ rfl nx
        ·
          repeat' (first | exact alls_nil | refine alls_cons ?_ ?_)
          all_goals (try simp only [avLen, Nat.zero_add, List.nil_append])
          all_goals first | with_reducible assumption | with_reducible rfl | omega | (simp only [rg, adI_eq, beq_iff_eq, beq_eq_false_iff_ne, bne_iff_ne, bne_eq_false_iff_eq, ne_eq, decide_eq_true_eq, decide_eq_false_iff_not, Int.natCast_add]; omega) | (simp only [beq_self_eq_true, Bool.and_self, bne_self_eq_false]; done) | (refine ⟨by omega, by omega, ?_⟩; simp only [rg]; omega) | (refine ⟨by omega, by omega⟩) | rfl
        · exact ⟨rfl, rb_slc rfl (by unfold capBig; omega), rfl, rfl, rfl, rb_ptr rfl, rfl, rfl, rfl, rb_ptr rfl, rfl, rfl, rfl, rfl, trivial⟩
        · exact ⟨rb_old (by omega) rfl fR, rb_row (m := 3) rfl rfl rfl rfl (Fl.of rfl), ⟨4, _, rfl, rfl, rfl, rfl, .inl (tab_rb (rb_slg rfl rfl))⟩, rb_row (m := 21) rfl rfl rfl rfl hy, trivial⟩
      · refine LRuns.step (code_runs (soV_X _) (soV_L _) (runZ_ok (soV_X _) (soV_T _) (soV_L _) mixed 9) mixed (sn1_over inr a b q o rs ys n c i l) ?_) rfl (by omega) (by omega) (fun n => n) ?_ ?_ rfl nx
        ·
          repeat' (first | exact alls_nil | refine alls_cons ?_ ?_)
          all_goals (try simp only [avLen, Nat.zero_add, List.nil_append])
          all_goals first | with_reducible assumption | with_reducible rfl | omega | (simp only [rg, adI_eq, beq_iff_eq, beq_eq_false_iff_ne, bne_iff_ne, bne_eq_false_iff_eq, ne_eq, decide_eq_true_eq, decide_eq_false_iff_not, Int.natCast_add]; omega) | (simp only [beq_self_eq_true, Bool.and_self, bne_self_eq_false]; done) | (refine ⟨by omega, by omega, ?_⟩; simp only [rg]; omega) | (refine ⟨by omega, by omega⟩) | rfl
        · exact ⟨rfl, rb_slc rfl (by unfold capBig; omega), rfl, rfl, rfl, rb_ptr rfl, rfl, rfl, rfl, rb_ptr rfl, rfl, rfl, rfl, rfl, trivial⟩
        · exact ⟨rb_old (by omega) rfl fR, rb_row (m := 3) rfl rfl rfl rfl (Fl.of rfl), ⟨4, _, rfl, rfl, rfl, rfl, .inl (tab_rb (rb_slg rfl rfl))⟩, rb_row (m := 21) rfl rfl rfl rfl hy, trivial⟩
set_option maxHeartbeats 4000000 in
theorem sb1_l20 {inr : Bool} {h0 : Hp} {a b : Int} {rs xs : List Value} {n c m d : Nat} (F : SoF rs n c) (X : SoX xs m d) (hm : m / 2 = 0) : ∀ (k i : Nat) (q o : Int) (l : Nat) (ys : List Value), i + k = n → 0 ≤ q → q ≤ (i : Int) → Fl ys →
    LRuns inr Try.prog (soB Try.prog) 20 80 h0 162 (soS (.slice (some ⟨2, 0, none⟩) m d) n c i q) (soH a b q o (.slice (some ⟨21, 0, none⟩) l (capBig + 21)) rs [(2, ⟨.old, xs⟩)] [(21, rbr ys)]) 22 (.exit 0, [(7, .bool true)], (1, ⟨.old, rs⟩) :: [(2, ⟨.old, xs⟩)])
  | 0, i, q, o, l, ys, hk, h1, h2, hy => by
      have hc := F.c
      have hn40 := F.m
      have fR := fl_ints F.i
      have fX := fl_byts X.y
      have cX := X.c
      have sX := X.s
      have lX := X.l
      have hl2 : m / 2 ≤ xs.length := by omega
      have y2 := X.y.take (m / 2)
      have f2 := fl_byts y2
      refine LRuns.exit (code_runs (soV_X _) (soV_L _) (runZ_ok (soV_X _) (soV_T _) (soV_L _) mixed 9) mixed (sb1_done inr a b q o rs xs ys n c i m d l) ⟨dFl i n (by omega), trivial⟩) (by intro e; cases e) rfl (by omega) (by omega) (fun n => n) ⟨rfl, rfl, trivial⟩ ⟨rb_old (by omega) rfl fR, rb_old (by omega) rfl fX, trivial⟩ rfl
  | k + 1, i, q, o, l, ys, hk, h1, h2, hy => by
      have hc := F.c
      have hn40 := F.m
      have fR := fl_ints F.i
      have fX := fl_byts X.y
      have cX := X.c
      have sX := X.s
      have lX := X.l
      have hl2 : m / 2 ≤ xs.length := by omega
      have y2 := X.y.take (m / 2)
      have f2 := fl_byts y2
      obtain ⟨w1, w2⟩ := F.w i (by omega)
      have hg := F.i.get (i := i) (by have := F.l; omega)
      have hab : (a == a && (b == b && true)) = true := by simp
      have hi : ((i % 256 : Nat) : Int) = ((i % 256 : Nat) : Int) := rfl
      by_cases x1 : intAt rs i = q + 1
      · have fy : Fl [Value.int .u8 ((i % 256 : Nat) : Int)] := (fl_byts (by1 i))
        have nx := sb1_l20 (inr := inr) (h0 := h0) (a := a) (b := b) F X hm k (i + 1) (intAt rs i) (((i + 2 : Nat) : Int)) 1 [Value.int .u8 ((i % 256 : Nat) : Int)] (by omega) (by omega) (by omega) fy
        refine LRuns.step (code_runs (soV_X _) (soV_L _) (runZ_ok (soV_X _) (soV_T _) (soV_L _) mixed 9) mixed (sb1_next inr a b q o rs xs ys n c i m d l) ?_) rfl (by omega) (by omega) (fun _ => 44) ?_ ?_ rfl nx
        ·
          repeat' (first | exact alls_nil | refine alls_cons ?_ ?_)
          all_goals (try simp only [avLen, Nat.zero_add, List.nil_append])
          all_goals first | with_reducible assumption | with_reducible rfl | omega | (simp only [rg, adI_eq, beq_iff_eq, beq_eq_false_iff_ne, bne_iff_ne, bne_eq_false_iff_eq, ne_eq, decide_eq_true_eq, decide_eq_false_iff_not, Int.natCast_add]; omega) | (simp only [beq_self_eq_true, Bool.and_self, bne_self_eq_false]; done) | (refine ⟨by omega, by omega, ?_⟩; simp only [rg]; omega) | (refine ⟨by omega, by omega⟩) | rfl
        · exact ⟨rfl, rb_slc rfl (by unfold capBig; omega), rfl, rb_slc rfl (by unfold capBig; omega), rfl, rb_ptr rfl, rfl, rfl, rfl, rb_ptr rfl, rfl, rfl, rfl, rfl, trivial⟩
        · exact ⟨rb_old (by omega) rfl fR, rb_old (by omega) rfl fX, rb_row (m := 3) rfl rfl rfl rfl (Fl.of rfl), ⟨4, _, rfl, rfl, rfl, rfl, .inl (tab_rb (rb_slg rfl rfl))⟩, rb_row (m := 44) rfl rfl rfl rfl fy, trivial⟩
      have nx := sb1_l20 (inr := inr) (h0 := h0) (a := a) (b := b) F X hm k (i + 1) q o l ys (by omega) h1 (by omega) hy
      by_cases x2 : intAt rs i = q
      · refine LRuns.step (code_runs (soV_X _) (soV_L _) (runZ_ok (soV_X _) (soV_T _) (soV_L _) mixed 9) mixed (sb1_same inr a b q o rs xs ys n c i m d l) ?_) rfl (by omega) (by omega) (fun n => n) ?_ ?_ rfl nx
        ·
          repeat' (first | exact alls_nil | refine alls_cons ?_ ?_)
          all_goals (try simp only [avLen, Nat.zero_add, List.nil_append])
          all_goals first | with_reducible assumption | with_reducible rfl | omega | (simp only [rg, adI_eq, beq_iff_eq, beq_eq_false_iff_ne, bne_iff_ne, bne_eq_false_iff_eq, ne_eq, decide_eq_true_eq, decide_eq_false_iff_not, Int.natCast_add]; omega) | (simp only [beq_self_eq_true, Bool.and_self, bne_self_eq_false]; done) | (refine ⟨by omega, by omega, ?_⟩; simp only [rg]; omega) | (refine ⟨by omega, by omega⟩) | rfl
        · exact ⟨rfl, rb_slc rfl (by unfold capBig; omega), rfl, rb_slc rfl (by unfold capBig; omega), rfl, rb_ptr rfl, rfl, rfl, rfl, rb_ptr rfl, rfl, rfl, rfl, rfl, trivial⟩
        · exact ⟨rb_old (by omega) rfl fR, rb_old (by omega) rfl fX, rb_row (m := 3) rfl rfl rfl rfl (Fl.of rfl), ⟨4, _, rfl, rfl, rfl, rfl, .inl (tab_rb (rb_slg rfl rfl))⟩, rb_row (m := 21) rfl rfl rfl rfl hy, trivial⟩
      by_cases x3 : intAt rs i < q
      · refine LRuns.step (code_runs (soV_X _) (soV_L _) (runZ_ok (soV_X _) (soV_T _) (soV_L _) mixed 9) mixed (sb1_old inr a b q o rs xs ys n c i m d l) ?_) rfl (by omega) (by omega) (fun n => n) ?_ ?_ rfl nx
        ·
          repeat' (first | exact alls_nil | refine alls_cons ?_ ?_)
          all_goals (try simp only [avLen, Nat.zero_add, List.nil_append])
          all_goals first | with_reducible assumption | with_reducible rfl | omega | (simp only [rg, adI_eq, beq_iff_eq, beq_eq_false_iff_ne, bne_iff_ne, bne_eq_false_iff_eq, ne_eq, decide_eq_true_eq, decide_eq_false_iff_not, Int.natCast_add]; omega) | (simp only [beq_self_eq_true, Bool.and_self, bne_self_eq_false]; done) | (refine ⟨by omega, by omega, ?_⟩; simp only [rg]; omega) | (refine ⟨by omega, by omega⟩) | rfl
        · exact ⟨rfl, rb_slc rfl (by unfold capBig; omega), rfl, rb_slc rfl (by unfold capBig; omega), rfl, rb_ptr rfl, rfl, rfl, rfl, rb_ptr rfl, rfl, rfl, rfl, rfl, trivial⟩
        · exact ⟨rb_old (by omega) rfl fR, rb_old (by omega) rfl fX, rb_row (m := 3) rfl rfl rfl rfl (Fl.of rfl), ⟨4, _, rfl, rfl, rfl, rfl, .inl (tab_rb (rb_slg rfl rfl))⟩, rb_row (m := 21) rfl rfl rfl rfl hy, trivial⟩
      · refine LRuns.step (code_runs (soV_X _) (soV_L _) (runZ_ok (soV_X _) (soV_T _) (soV_L _) mixed 9) mixed (sb1_over inr a b q o rs xs ys n c i m d l) ?_) rfl (by omega) (by omega) (fun n => n) ?_ ?_ rfl nx
        ·
          repeat' (first | exact alls_nil | refine alls_cons ?_ ?_)
          all_goals (try simp only [avLen, Nat.zero_add, List.nil_append])
          all_goals first | with_reducible assumption | with_reducible rfl | omega | (simp only [rg, adI_eq, beq_iff_eq, beq_eq_false_iff_ne, bne_iff_ne, bne_eq_false_iff_eq, ne_eq, decide_eq_true_eq, decide_eq_false_iff_not, Int.natCast_add]; omega) | (simp only [beq_self_eq_true, Bool.and_self, bne_self_eq_false]; done) | (refine ⟨by omega, by omega, ?_⟩; simp only [rg]; omega) | (refine ⟨by omega, by omega⟩) | rfl
        · exact ⟨rfl, rb_slc rfl (by unfold capBig; omega), rfl, rb_slc rfl (by unfold capBig; omega), rfl, rb_ptr rfl, rfl, rfl, rfl, rb_ptr rfl, rfl, rfl, rfl, rfl, trivial⟩
        · exact ⟨rb_old (by omega) rfl fR, rb_old (by omega) rfl fX, rb_row (m := 3) rfl rfl rfl rfl (Fl.of rfl), ⟨4, _, rfl, rfl, rfl, rfl, .inl (tab_rb (rb_slg rfl rfl))⟩, rb_row (m := 21) rfl rfl rfl rfl hy, trivial⟩
set_option maxHeartbeats 4000000 in
theorem sb1_l21 {inr : Bool} {h0 : Hp} {a b : Int} {rs xs : List Value} {n c m d : Nat} (F : SoF rs n c) (X : SoX xs m d) (hm : m / 2 = 0) : ∀ (k i : Nat) (q o : Int) (l : Nat) (ys : List Value), i + k = n → 0 ≤ q → q ≤ (i : Int) → Fl ys →
    LRuns inr Try.prog (soB Try.prog) 21 80 h0 162 (soS (.slice (some ⟨2, 0, none⟩) m d) n c i q) (soH a b q o (.slice (some ⟨21, 0, none⟩) l (capBig + 21)) rs [(2, ⟨.old, xs⟩)] [(21, rbr ys)]) 22 (.exit 0, [(7, .bool true)], (1, ⟨.old, rs⟩) :: [(2, ⟨.old, xs⟩)])
  | 0, i, q, o, l, ys, hk, h1, h2, hy => by
      have hc := F.c
      have hn40 := F.m
      have fR := fl_ints F.i
      have fX := fl_byts X.y
      have cX := X.c
      have sX := X.s
      have lX := X.l
      have hl2 : m / 2 ≤ xs.length := by omega
      have y2 := X.y.take (m / 2)
      have f2 := fl_byts y2
      refine LRuns.exit (code_runs (soV_X _) (soV_L _) (runZ_ok (soV_X _) (soV_T _) (soV_L _) mixed 9) mixed (sb1_done inr a b q o rs xs ys n c i m d l) ⟨dFl i n (by omega), trivial⟩) (by intro e; cases e) rfl (by omega) (by omega) (fun n => n) ⟨rfl, rfl, trivial⟩ ⟨rb_old (by omega) rfl fR, rb_old (by omega) rfl fX, trivial⟩ rfl
  | k + 1, i, q, o, l, ys, hk, h1, h2, hy => by
      have hc := F.c
      have hn40 := F.m
      have fR := fl_ints F.i
      have fX := fl_byts X.y
      have cX := X.c
      have sX := X.s
      have lX := X.l
      have hl2 : m / 2 ≤ xs.length := by omega
      have y2 := X.y.take (m / 2)
      have f2 := fl_byts y2
      obtain ⟨w1, w2⟩ := F.w i (by omega)
      have hg := F.i.get (i := i) (by have := F.l; omega)
      have hab : (a == a && (b == b && true)) = true := by simp
      have hi : ((i % 256 : Nat) : Int) = ((i % 256 : Nat) : Int) := rfl
      by_cases x1 : intAt rs i = q + 1
      · have fy : Fl [Value.int .u8 ((i % 256 : Nat) : Int)] := (fl_byts (by1 i))
        have nx := sb1_l21 (inr := inr) (h0 := h0) (a := a) (b := b) F X hm k (i + 1) (intAt rs i) (((i + 2 : Nat) : Int)) 1 [Value.int .u8 ((i % 256 : Nat) : Int)] (by omega) (by omega) (by omega) fy
        refine LRuns.step (code_runs (soV_X _) (soV_L _) (runZ_ok (soV_X _) (soV_T _) (soV_L _) mixed 9) mixed (sb1_next inr a b q o rs xs ys n c i m d l) ?_) rfl (by omega) (by omega) (fun _ => 44) ?_ ?_ rfl nx
        ·
          repeat' (first | exact alls_nil | refine alls_cons ?_ ?_)
          all_goals (try simp only [avLen, Nat.zero_add, List.nil_append])
          all_goals first | with_reducible assumption | with_reducible rfl | omega | (simp only [rg, adI_eq, beq_iff_eq, beq_eq_false_iff_ne, bne_iff_ne, bne_eq_false_iff_eq, ne_eq, decide_eq_true_eq, decide_eq_false_iff_not, Int.natCast_add]; omega) | (simp only [beq_self_eq_true, Bool.and_self, bne_self_eq_false]; done) | (refine ⟨by omega, by omega, ?_⟩; simp only [rg]; omega) | (refine ⟨by omega, by omega⟩) | rfl
        · exact ⟨rfl, rb_slc rfl (by unfold capBig; omega), rfl, rb_slc rfl (by unfold capBig; omega), rfl, rb_ptr rfl, rfl, rfl, rfl, rb_ptr rfl, rfl, rfl, rfl, rfl, trivial⟩
        · exact ⟨rb_old (by omega) rfl fR, rb_old (by omega) rfl fX, rb_row (m := 3) rfl rfl rfl rfl (Fl.of rfl), ⟨4, _, rfl, rfl, rfl, rfl, .inl (tab_rb (rb_slg rfl rfl))⟩, rb_row (m := 44) rfl rfl rfl rfl fy, trivial⟩
      have nx := sb1_l21 (inr := inr) (h0 := h0) (a := a) (b := b) F X hm k (i + 1) q o l ys (by omega) h1 (by omega) hy
      by_cases x2 : intAt rs i = q
      · refine LRuns.step (code_runs (soV_X _) (soV_L _) (runZ_ok (soV_X _) (soV_T _) (soV_L _) mixed 9) mixed (sb1_same inr a b q o rs xs ys n c i m d l) ?_) rfl (by omega) (by omega) (fun n => n) ?_ ?_ rfl nx
        ·
          repeat' (first | exact alls_nil | refine alls_cons ?_ ?_)
          all_goals (try simp only [avLen, Nat.zero_add, List.nil_append])
          all_goals first | with_reducible assumption | with_reducible rfl | omega | (simp only [rg, adI_eq, beq_iff_eq, beq_eq_false_iff_ne, bne_iff_ne, bne_eq_false_iff_eq, ne_eq, decide_eq_true_eq, decide_eq_false_iff_not, Int.natCast_add]; omega) | (simp only [beq_self_eq_true, Bool.and_self, bne_self_eq_false]; done) | (refine ⟨by omega, by omega, ?_⟩; simp only [rg]; omega) | (refine ⟨by omega, by omega⟩) | rfl
        · exact ⟨rfl, rb_slc rfl (by unfold capBig; omega), rfl, rb_slc rfl (by unfold capBig; omega), rfl, rb_ptr rfl, rfl, rfl, rfl, rb_ptr rfl, rfl, rfl, rfl, rfl, trivial⟩
        · exact ⟨rb_old (by omega) rfl fR, rb_old (by omega) rfl fX, rb_row (m := 3) rfl rfl rfl rfl (Fl.of rfl), ⟨4, _, rfl, rfl, rfl, rfl, .inl (tab_rb (rb_slg rfl rfl))⟩, rb_row (m := 21) rfl rfl rfl rfl hy, trivial⟩
      by_cases x3 : intAt rs i < q
      · refine LRuns.step (code_runs (soV_X _) (soV_L _) (runZ_ok (soV_X _) (soV_T _) (soV_L _) mixed 9) mixed (sb1_old inr a b q o rs xs ys n c i m d l) ?_) rfl (by omega) (by omega) (fun n => n) ?_ ?_ rfl nx
        ·
          repeat' (first | exact alls_nil | refine alls_cons ?_ ?_)
          all_goals (try simp only [avLen, Nat.zero_add, List.nil_append])
          all_goals first | with_reducible assumption | with_reducible rfl | omega | (simp only [rg, adI_eq, beq_iff_eq, beq_eq_false_iff_ne, bne_iff_ne, bne_eq_false_iff_eq, ne_eq, decide_eq_true_eq, decide_eq_false_iff_not, Int.natCast_add]; omega) | (simp only [beq_self_eq_true, Bool.and_self, bne_self_eq_false]; done) | (refine ⟨by omega, by omega, ?_⟩; simp only [rg]; omega) | (refine ⟨by omega, by omega⟩) | rfl
        · exact ⟨rfl, rb_slc rfl (by unfold capBig; omega), rfl, rb_slc rfl (by unfold capBig; omega), rfl, rb_ptr rfl, rfl, rfl, rfl, rb_ptr rfl, rfl, rfl, rfl, rfl, trivial⟩
        · exact ⟨rb_old (by omega) rfl fR, rb_old (by omega) rfl fX, rb_row (m := 3) rfl rfl rfl rfl (Fl.of rfl), ⟨4, _, rfl, rfl, rfl, rfl, .inl (tab_rb (rb_slg rfl rfl))⟩, rb_row (m := 21) rfl rfl rfl rfl hy, trivial⟩
      · refine LRuns.step (code_runs (soV_X _) (soV_L _) (runZ_ok (soV_X _) (soV_T _) (soV_L _) mixed 9) mixed (sb1_over inr a b q o rs xs ys n c i m d l) ?_) rfl (by omega) (by omega) (fun n => n) ?_ ?_ rfl nx
        ·
          repeat' (first | exact alls_nil | refine alls_cons ?_ ?_)
          all_goals (try simp only [avLen, Nat.zero_add, List.nil_append])
          all_goals first | with_reducible assumption | with_reducible rfl | omega | (simp only [rg, adI_eq, beq_iff_eq, beq_eq_false_iff_ne, bne_iff_ne, bne_eq_false_iff_eq, ne_eq, decide_eq_true_eq, decide_eq_false_iff_not, Int.natCast_add]; omega) | (simp only [beq_self_eq_true, Bool.and_self, bne_self_eq_false]; done) | (refine ⟨by omega, by omega, ?_⟩; simp only [rg]; omega) | (refine ⟨by omega, by omega⟩) | rfl
        · exact ⟨rfl, rb_slc rfl (by unfold capBig; omega), rfl, rb_slc rfl (by unfold capBig; omega), rfl, rb_ptr rfl, rfl, rfl, rfl, rb_ptr rfl, rfl, rfl, rfl, rfl, trivial⟩
        · exact ⟨rb_old (by omega) rfl fR, rb_old (by omega) rfl fX, rb_row (m := 3) rfl rfl rfl rfl (Fl.of rfl), ⟨4, _, rfl, rfl, rfl, rfl, .inl (tab_rb (rb_slg rfl rfl))⟩, rb_row (m := 21) rfl rfl rfl rfl hy, trivial⟩
set_option maxHeartbeats 4000000 in
theorem sc1_l21 {inr : Bool} {h0 : Hp} {a b : Int} {rs xs : List Value} {n c m d : Nat} (F : SoF rs n c) (X : SoX xs m d) (hm : 0 < m / 2) : ∀ (k i : Nat) (q o : Int) (l : Nat) (ys : List Value), i + k = n → 0 ≤ q → q ≤ (i : Int) → Fl ys →
    LRuns inr Try.prog (soB Try.prog) 21 80 h0 162 (soS (.slice (some ⟨2, 0, none⟩) m d) n c i q) (soH a b q o (.slice (some ⟨21, 0, none⟩) l (capBig + 21)) rs [(2, ⟨.old, xs⟩)] [(21, rbr ys)]) 22 (.exit 0, [(7, .bool true)], (1, ⟨.old, rs⟩) :: [(2, ⟨.old, xs⟩)])
  | 0, i, q, o, l, ys, hk, h1, h2, hy => by
      have hc := F.c
      have hn40 := F.m
      have fR := fl_ints F.i
      have fX := fl_byts X.y
      have cX := X.c
      have sX := X.s
      have lX := X.l
      have hl2 : m / 2 ≤ xs.length := by omega
      have y2 := X.y.take (m / 2)
      have f2 := fl_byts y2
      refine LRuns.exit (code_runs (soV_X _) (soV_L _) (runZ_ok (soV_X _) (soV_T _) (soV_L _) mixed 9) mixed (sc1_done inr a b q o rs xs ys n c i m d l) ⟨dFl i n (by omega), trivial⟩) (by intro e; cases e) rfl (by omega) (by omega) (fun n => n) ⟨rfl, rfl, trivial⟩ ⟨rb_old (by omega) rfl fR, rb_old (by omega) rfl fX, trivial⟩ rfl
  | k + 1, i, q, o, l, ys, hk, h1, h2, hy => by
      have hc := F.c
      have hn40 := F.m
      have fR := fl_ints F.i
      have fX := fl_byts X.y
      have cX := X.c
      have sX := X.s
      have lX := X.l
      have hl2 : m / 2 ≤ xs.length := by omega
      have y2 := X.y.take (m / 2)
      have f2 := fl_byts y2
      obtain ⟨w1, w2⟩ := F.w i (by omega)
      have hg := F.i.get (i := i) (by have := F.l; omega)
      have hab : (a == a && (b == b && true)) = true := by simp
      have hi : ((i % 256 : Nat) : Int) = ((i % 256 : Nat) : Int) := rfl
      obtain ⟨Y, hY⟩ := soY_ex (m := m) X.y X.l i
      have eY := hY.e
      have tY := hY.t
      have lY := hY.l
      have yY := hY.y
      have gY := hY.g
      have vY := hY.v
      have gV : Y[m / 2]? = some (.int .u8 ((i % 256 : Nat) : Int)) := by rw [gY, vY]
      have fY := fl_byts yY
      have aY := Ints.all1 (k := .u8) yY.1
      have nY : Int.toNat (((m / 2 + 1 : Nat) : Int) - 1) = m / 2 := by omega
      have l2 : (xs.take (m / 2)).length = m / 2 := by rw [List.length_take]; omega
      by_cases x1 : intAt rs i = q + 1
      · have fy : Fl ([] ++ List.take (m / 2 + 1) (List.take (m / 2) xs ++ [Value.int .u8 ((i % 256 : Nat) : Int)])) := (by rw [eY, tY, List.nil_append]; exact fY)
        have nx := sc1_l21 (inr := inr) (h0 := h0) (a := a) (b := b) F X hm k (i + 1) (intAt rs i) (((i + 2 : Nat) : Int)) (0 + (m / 2 + 1)) ([] ++ List.take (m / 2 + 1) (List.take (m / 2) xs ++ [Value.int .u8 ((i % 256 : Nat) : Int)])) (by omega) (by omega) (by omega) fy
        refine LRuns.step (code_runs (soV_X _) (soV_L _) (runZ_ok (soV_X _) (soV_T _) (soV_L _) mixed 9) mixed (sc1_next inr a b q o rs xs ys n c i m d l) ?_) rfl (by omega) (by omega) (fun _ => 44) ?_ ?_ rfl nx
        ·
          repeat' (first | exact alls_nil | refine alls_cons ?_ ?_)
          all_goals (try simp only [avLen, Nat.zero_add, List.nil_append, eY, tY, nY, vY])
          all_goals first | with_reducible assumption | with_reducible rfl | omega | (simp only [rg, adI_eq, beq_iff_eq, beq_eq_false_iff_ne, bne_iff_ne, bne_eq_false_iff_eq, ne_eq, decide_eq_true_eq, decide_eq_false_iff_not, Int.natCast_add]; omega) | (simp only [beq_self_eq_true, Bool.and_self, bne_self_eq_false]; done) | (refine ⟨by omega, by omega, ?_⟩; simp only [rg]; omega) | (refine ⟨by omega, by omega⟩) | rfl
        · exact ⟨rfl, rb_slc rfl (by unfold capBig; omega), rfl, rb_slc rfl (by unfold capBig; omega), rfl, rb_ptr rfl, rfl, rfl, rfl, rb_ptr rfl, rfl, rfl, rfl, rfl, trivial⟩
        · exact ⟨rb_old (by omega) rfl fR, rb_old (by omega) rfl fX, rb_row (m := 3) rfl rfl rfl rfl (Fl.of rfl), ⟨4, _, rfl, rfl, rfl, rfl, .inl (tab_rb (rb_slg rfl rfl))⟩, rb_row (m := 44) rfl rfl rfl rfl fy, trivial⟩
      have nx := sc1_l21 (inr := inr) (h0 := h0) (a := a) (b := b) F X hm k (i + 1) q o l ys (by omega) h1 (by omega) hy
      by_cases x2 : intAt rs i = q
      · refine LRuns.step (code_runs (soV_X _) (soV_L _) (runZ_ok (soV_X _) (soV_T _) (soV_L _) mixed 9) mixed (sc1_same inr a b q o rs xs ys n c i m d l) ?_) rfl (by omega) (by omega) (fun n => n) ?_ ?_ rfl nx
        ·
          repeat' (first | exact alls_nil | refine alls_cons ?_ ?_)
          all_goals (try simp only [avLen, Nat.zero_add, List.nil_append, eY, tY, nY, vY])
          all_goals first | with_reducible assumption | with_reducible rfl | omega | (simp only [rg, adI_eq, beq_iff_eq, beq_eq_false_iff_ne, bne_iff_ne, bne_eq_false_iff_eq, ne_eq, decide_eq_true_eq, decide_eq_false_iff_not, Int.natCast_add]; omega) | (simp only [beq_self_eq_true, Bool.and_self, bne_self_eq_false]; done) | (refine ⟨by omega, by omega, ?_⟩; simp only [rg]; omega) | (refine ⟨by omega, by omega⟩) | rfl
        · exact ⟨rfl, rb_slc rfl (by unfold capBig; omega), rfl, rb_slc rfl (by unfold capBig; omega), rfl, rb_ptr rfl, rfl, rfl, rfl, rb_ptr rfl, rfl, rfl, rfl, rfl, trivial⟩
        · exact ⟨rb_old (by omega) rfl fR, rb_old (by omega) rfl fX, rb_row (m := 3) rfl rfl rfl rfl (Fl.of rfl), ⟨4, _, rfl, rfl, rfl, rfl, .inl (tab_rb (rb_slg rfl rfl))⟩, rb_row (m := 21) rfl rfl rfl rfl hy, trivial⟩
      by_cases x3 : intAt rs i < q
      · refine LRuns.step (code_runs (soV_X _) (soV_L _) (runZ_ok (soV_X _) (soV_T _) (soV_L _) mixed 9) mixed (sc1_old inr a b q o rs xs ys n c i m d l) ?_) rfl (by omega) (by omega) (fun n => n) ?_ ?_ rfl nx
        ·
          repeat' (first | exact alls_nil | refine alls_cons ?_ ?_)
          all_goals (try simp only [avLen, Nat.zero_add, List.nil_append, eY, tY, nY, vY])
          all_goals first | with_reducible assumption | with_reducible rfl | omega | (simp only [rg, adI_eq, beq_iff_eq, beq_eq_false_iff_ne, bne_iff_ne, bne_eq_false_iff_eq, ne_eq, decide_eq_true_eq, decide_eq_false_iff_not, Int.natCast_add]; omega) | (simp only [beq_self_eq_true, Bool.and_self, bne_self_eq_false]; done) | (refine ⟨by omega, by omega, ?_⟩; simp only [rg]; omega) | (refine ⟨by omega, by omega⟩) | rfl
        · exact ⟨rfl, rb_slc rfl (by unfold capBig; omega), rfl, rb_slc rfl (by unfold capBig; omega), rfl, rb_ptr rfl, rfl, rfl, rfl, rb_ptr rfl, rfl, rfl, rfl, rfl, trivial⟩
        · exact ⟨rb_old (by omega) rfl fR, rb_old (by omega) rfl fX, rb_row (m := 3) rfl rfl rfl rfl (Fl.of rfl), ⟨4, _, rfl, rfl, rfl, rfl, .inl (tab_rb (rb_slg rfl rfl))⟩, rb_row (m := 21) rfl rfl rfl rfl hy, trivial⟩
      · refine LRuns.step (code_runs (soV_X _) (soV_L _) (runZ_ok (soV_X _) (soV_T _) (soV_L _) mixed 9) mixed (sc1_over inr a b q o rs xs ys n c i m d l) ?_) rfl (by omega) (by omega) (fun n => n) ?_ ?_ rfl nx
        ·
          repeat' (first | exact alls_nil | refine alls_cons ?_ ?_)
          all_goals (try simp only [avLen, Nat.zero_add, List.nil_append, eY, tY, nY, vY])
          all_goals first | with_reducible assumption | with_reducible rfl | omega | (simp only [rg, adI_eq, beq_iff_eq, beq_eq_false_iff_ne, bne_iff_ne, bne_eq_false_iff_eq, ne_eq, decide_eq_true_eq, decide_eq_false_iff_not, Int.natCast_add]; omega) | (simp only [beq_self_eq_true, Bool.and_self, bne_self_eq_false]; done) | (refine ⟨by omega, by omega, ?_⟩; simp only [rg]; omega) | (refine ⟨by omega, by omega⟩) | rfl
        · exact ⟨rfl, rb_slc rfl (by unfold capBig; omega), rfl, rb_slc rfl (by unfold capBig; omega), rfl, rb_ptr rfl, rfl, rfl, rfl, rb_ptr rfl, rfl, rfl, rfl, rfl, trivial⟩
        · exact ⟨rb_old (by omega) rfl fR, rb_old (by omega) rfl fX, rb_row (m := 3) rfl rfl rfl rfl (Fl.of rfl), ⟨4, _, rfl, rfl, rfl, rfl, .inl (tab_rb (rb_slg rfl rfl))⟩, rb_row (m := 21) rfl rfl rfl rfl hy, trivial⟩
set_option maxHeartbeats 4000000 in
theorem sn0_l19 {inr : Bool} {h0 : Hp} {a b : Int} {rs : List Value} {n c : Nat} (F : SoF rs n c) : ∀ (k i : Nat) (q o : Int), i + k = n → 0 ≤ q → q ≤ (i : Int) →
    LRuns inr Try.prog (soB Try.prog) 19 80 h0 162 (soS (.slice none 0 0) n c i q) (soH a b q o (.slice none 0 0) rs [] []) 21 (.exit 0, [(7, .bool true)], (1, ⟨.old, rs⟩) :: [])
  | 0, i, q, o, hk, h1, h2 => by
      have hc := F.c
      have hn40 := F.m
      have fR := fl_ints F.i
      refine LRuns.exit (code_runs (soV_X _) (soV_L _) (runZ_ok (soV_X _) (soV_T _) (soV_L _) mixed 9) mixed (sn0_done inr a b q o rs n c i) ⟨dFl i n (by omega), trivial⟩) (by intro e; cases e) rfl (by omega) (by omega) (fun n => n) ⟨rfl, rfl, trivial⟩ ⟨rb_old (by omega) rfl fR, trivial⟩ rfl
  | k + 1, i, q, o, hk, h1, h2 => by
      have hc := F.c
      have hn40 := F.m
      have fR := fl_ints F.i
      obtain ⟨w1, w2⟩ := F.w i (by omega)
      have hg := F.i.get (i := i) (by have := F.l; omega)
      have hab : (a == a && (b == b && true)) = true := by simp
      have hi : ((i % 256 : Nat) : Int) = ((i % 256 : Nat) : Int) := rfl
      by_cases x1 : intAt rs i = q + 1
      · have fy : Fl [Value.int .u8 ((i % 256 : Nat) : Int)] := (fl_byts (by1 i))
        have nx := sn1_l19 (inr := inr) (h0 := h0) (a := a) (b := b) F k (i + 1) (intAt rs i) (((i + 2 : Nat) : Int)) 1 [Value.int .u8 ((i % 256 : Nat) : Int)] (by omega) (by omega) (by omega) fy
        refine LRuns.stepTo (code_runs (soV_X _) (soV_L _) (runZ_ok (soV_X _) (soV_T _) (soV_L _) mixed 9) mixed (sn0_next inr a b q o rs n c i) ?_) rfl (by omega) (by omega) (by omega) (by omega) (fun _ => 43) ?_ ?_ rfl nx
        ·
          repeat' (first | exact alls_nil | refine alls_cons ?_ ?_)
          all_goals (try simp only [avLen, Nat.zero_add, List.nil_append])
          all_goals first | with_reducible assumption | with_reducible rfl | omega | (simp only [rg, adI_eq, beq_iff_eq, beq_eq_false_iff_ne, bne_iff_ne, bne_eq_false_iff_eq, ne_eq, decide_eq_true_eq, decide_eq_false_iff_not, Int.natCast_add]; omega) | (simp only [beq_self_eq_true, Bool.and_self, bne_self_eq_false]; done) | (refine ⟨by omega, by omega, ?_⟩; simp only [rg]; omega) | (refine ⟨by omega, by omega⟩) | rfl
        · exact ⟨rfl, rb_slc rfl (by unfold capBig; omega), rfl, rfl, rfl, rb_ptr rfl, rfl, rfl, rfl, rb_ptr rfl, rfl, rfl, rfl, rfl, trivial⟩
        · exact ⟨rb_old (by omega) rfl fR, rb_row (m := 3) rfl rfl rfl rfl (Fl.of rfl), ⟨4, _, rfl, rfl, rfl, rfl, .inl (tab_rb (rb_slg rfl rfl))⟩, rb_row (m := 43) rfl rfl rfl rfl fy, trivial⟩
      have nx := sn0_l19 (inr := inr) (h0 := h0) (a := a) (b := b) F k (i + 1) q o (by omega) h1 (by omega)
      by_cases x2 : intAt rs i = q
      · refine LRuns.step (code_runs (soV_X _) (soV_L _) (runZ_ok (soV_X _) (soV_T _) (soV_L _) mixed 9) mixed (sn0_same inr a b q o rs n c i) ?_) rfl (by omega) (by omega) (fun n => n) ?_ ?_ rfl nx
        ·
          repeat' (first | exact alls_nil | refine alls_cons ?_ ?_)
          all_goals (try simp only [avLen, Nat.zero_add, List.nil_append])
          all_goals first | with_reducible assumption | with_reducible rfl | omega | (simp only [rg, adI_eq, beq_iff_eq, beq_eq_false_iff_ne, bne_iff_ne, bne_eq_false_iff_eq, ne_eq, decide_eq_true_eq, decide_eq_false_iff_not, Int.natCast_add]; omega) | (simp only [beq_self_eq_true, Bool.and_self, bne_self_eq_false]; done) | (refine ⟨by omega, by omega, ?_⟩; simp only [rg]; omega) | (refine ⟨by omega, by omega⟩) | rfl
        · exact ⟨rfl, rb_slc rfl (by unfold capBig; omega), rfl, rfl, rfl, rb_ptr rfl, rfl, rfl, rfl, rb_ptr rfl, rfl, rfl, rfl, rfl, trivial⟩
        · exact ⟨rb_old (by omega) rfl fR, rb_row (m := 3) rfl rfl rfl rfl (Fl.of rfl), ⟨4, _, rfl, rfl, rfl, rfl, .inl (tab_rb rfl)⟩, trivial⟩
      by_cases x3 : intAt rs i < q
      · refine LRuns.step (code_runs (soV_X _) (soV_L _) (runZ_ok (soV_X _) (soV_T _) (soV_L _) mixed 9) mixed (sn0_old inr a b q o rs n c i) ?_) rfl (by omega) (by omega) (fun n => n) ?_ ?_ rfl nx
        ·
          repeat' (first | exact alls_nil | refine alls_cons ?_ ?_)
          all_goals (try simp only [avLen, Nat.zero_add, List.nil_append])
          all_goals first | with_reducible assumption | with_reducible rfl | omega | (simp only [rg, adI_eq, beq_iff_eq, beq_eq_false_iff_ne, bne_iff_ne, bne_eq_false_iff_eq, ne_eq, decide_eq_true_eq, decide_eq_false_iff_not, Int.natCast_add]; omega) | (simp only [beq_self_eq_true, Bool.and_self, bne_self_eq_false]; done) | (refine ⟨by omega, by omega, ?_⟩; simp only [rg]; omega) | (refine ⟨by omega, by omega⟩) | rfl
        · exact ⟨rfl, rb_slc rfl (by unfold capBig; omega), rfl, rfl, rfl, rb_ptr rfl, rfl, rfl, rfl, rb_ptr rfl, rfl, rfl, rfl, rfl, trivial⟩
        · exact ⟨rb_old (by omega) rfl fR, rb_row (m := 3) rfl rfl rfl rfl (Fl.of rfl), ⟨4, _, rfl, rfl, rfl, rfl, .inl (tab_rb rfl)⟩, trivial⟩
      · refine LRuns.step (code_runs (soV_X _) (soV_L _) (runZ_ok (soV_X _) (soV_T _) (soV_L _) mixed 9) mixed (sn0_over inr a b q o rs n c i) ?_) rfl (by omega) (by omega) (fun n => n) ?_ ?_ rfl nx
        ·
          repeat' (first | exact alls_nil | refine alls_cons ?_ ?_)
          all_goals (try simp only [avLen, Nat.zero_add, List.nil_append])
          all_goals first | with_reducible assumption | with_reducible rfl | omega | (simp only [rg, adI_eq, beq_iff_eq, beq_eq_false_iff_ne, bne_iff_ne, bne_eq_false_iff_eq, ne_eq, decide_eq_true_eq, decide_eq_false_iff_not, Int.natCast_add]; omega) | (simp only [beq_self_eq_true, Bool.and_self, bne_self_eq_false]; done) | (refine ⟨by omega, by omega, ?_⟩; simp only [rg]; omega) | (refine ⟨by omega, by omega⟩) | rfl
        · exact ⟨rfl, rb_slc rfl (by unfold capBig; omega), rfl, rfl, rfl, rb_ptr rfl, rfl, rfl, rfl, rb_ptr rfl, rfl, rfl, rfl, rfl, trivial⟩
        · exact ⟨rb_old (by omega) rfl fR, rb_row (m := 3) rfl rfl rfl rfl (Fl.of rfl), ⟨4, _, rfl, rfl, rfl, rfl, .inl (tab_rb rfl)⟩, trivial⟩
set_option maxHeartbeats 4000000 in
theorem se0_l20 {inr : Bool} {h0 : Hp} {a b : Int} {rs xs : List Value} {n c m d : Nat} (F : SoF rs n c) (X : SoX xs m d) (hm : m / 2 = 0) : ∀ (k i : Nat) (q o : Int), i + k = n → 0 ≤ q → q ≤ (i : Int) →
    LRuns inr Try.prog (soB Try.prog) 20 80 h0 162 (soS (.slice (some ⟨2, 0, none⟩) m d) n c i q) (soH a b q o (.slice (some ⟨7, 0, none⟩) 0 0) rs [(2, ⟨.old, xs⟩)] [(7, ⟨.shut, []⟩)]) 21 (.exit 0, [(7, .bool true)], (1, ⟨.old, rs⟩) :: [(2, ⟨.old, xs⟩)])
  | 0, i, q, o, hk, h1, h2 => by
      have hc := F.c
      have hn40 := F.m
      have fR := fl_ints F.i
      have fX := fl_byts X.y
      have cX := X.c
      have sX := X.s
      have lX := X.l
      have hl2 : m / 2 ≤ xs.length := by omega
      have y2 := X.y.take (m / 2)
      have f2 := fl_byts y2
      refine LRuns.exit (code_runs (soV_X _) (soV_L _) (runZ_ok (soV_X _) (soV_T _) (soV_L _) mixed 9) mixed (se0_done inr a b q o rs xs n c i m d) ⟨dFl i n (by omega), trivial⟩) (by intro e; cases e) rfl (by omega) (by omega) (fun n => n) ⟨rfl, rfl, trivial⟩ ⟨rb_old (by omega) rfl fR, rb_old (by omega) rfl fX, trivial⟩ rfl
  | k + 1, i, q, o, hk, h1, h2 => by
      have hc := F.c
      have hn40 := F.m
      have fR := fl_ints F.i
      have fX := fl_byts X.y
      have cX := X.c
      have sX := X.s
      have lX := X.l
      have hl2 : m / 2 ≤ xs.length := by omega
      have y2 := X.y.take (m / 2)
      have f2 := fl_byts y2
      obtain ⟨w1, w2⟩ := F.w i (by omega)
      have hg := F.i.get (i := i) (by have := F.l; omega)
      have hab : (a == a && (b == b && true)) = true := by simp
      have hi : ((i % 256 : Nat) : Int) = ((i % 256 : Nat) : Int) := rfl
      by_cases x1 : intAt rs i = q + 1
      · have fy : Fl [Value.int .u8 ((i % 256 : Nat) : Int)] := (fl_byts (by1 i))
        have nx := sb1_l20 (inr := inr) (h0 := h0) (a := a) (b := b) F X hm k (i + 1) (intAt rs i) (((i + 2 : Nat) : Int)) 1 [Value.int .u8 ((i % 256 : Nat) : Int)] (by omega) (by omega) (by omega) fy
        refine LRuns.stepTo (code_runs (soV_X _) (soV_L _) (runZ_ok (soV_X _) (soV_T _) (soV_L _) mixed 9) mixed (se0_next inr a b q o rs xs n c i m d) ?_) rfl (by omega) (by omega) (by omega) (by omega) (fun _ => 43) ?_ ?_ rfl nx
        ·
          repeat' (first | exact alls_nil | refine alls_cons ?_ ?_)
          all_goals (try simp only [avLen, Nat.zero_add, List.nil_append])
          all_goals first | with_reducible assumption | with_reducible rfl | omega | (simp only [rg, adI_eq, beq_iff_eq, beq_eq_false_iff_ne, bne_iff_ne, bne_eq_false_iff_eq, ne_eq, decide_eq_true_eq, decide_eq_false_iff_not, Int.natCast_add]; omega) | (simp only [beq_self_eq_true, Bool.and_self, bne_self_eq_false]; done) | (refine ⟨by omega, by omega, ?_⟩; simp only [rg]; omega) | (refine ⟨by omega, by omega⟩) | rfl
        · exact ⟨rfl, rb_slc rfl (by unfold capBig; omega), rfl, rb_slc rfl (by unfold capBig; omega), rfl, rb_ptr rfl, rfl, rfl, rfl, rb_ptr rfl, rfl, rfl, rfl, rfl, trivial⟩
        · exact ⟨rb_old (by omega) rfl fR, rb_old (by omega) rfl fX, rb_row (m := 3) rfl rfl rfl rfl (Fl.of rfl), ⟨4, _, rfl, rfl, rfl, rfl, .inl (tab_rb (rb_slg rfl rfl))⟩, rb_row (m := 43) rfl rfl rfl rfl fy, trivial⟩
      have nx := se0_l20 (inr := inr) (h0 := h0) (a := a) (b := b) F X hm k (i + 1) q o (by omega) h1 (by omega)
      by_cases x2 : intAt rs i = q
      · refine LRuns.step (code_runs (soV_X _) (soV_L _) (runZ_ok (soV_X _) (soV_T _) (soV_L _) mixed 9) mixed (se0_same inr a b q o rs xs n c i m d) ?_) rfl (by omega) (by omega) (fun n => n) ?_ ?_ rfl nx
        ·
          repeat' (first | exact alls_nil | refine alls_cons ?_ ?_)
          all_goals (try simp only [avLen, Nat.zero_add, List.nil_append])
          all_goals first | with_reducible assumption | with_reducible rfl | omega | (simp only [rg, adI_eq, beq_iff_eq, beq_eq_false_iff_ne, bne_iff_ne, bne_eq_false_iff_eq, ne_eq, decide_eq_true_eq, decide_eq_false_iff_not, Int.natCast_add]; omega) | (simp only [beq_self_eq_true, Bool.and_self, bne_self_eq_false]; done) | (refine ⟨by omega, by omega, ?_⟩; simp only [rg]; omega) | (refine ⟨by omega, by omega⟩) | rfl
        · exact ⟨rfl, rb_slc rfl (by unfold capBig; omega), rfl, rb_slc rfl (by unfold capBig; omega), rfl, rb_ptr rfl, rfl, rfl, rfl, rb_ptr rfl, rfl, rfl, rfl, rfl, trivial⟩
        · exact ⟨rb_old (by omega) rfl fR, rb_old (by omega) rfl fX, rb_row (m := 3) rfl rfl rfl rfl (Fl.of rfl), ⟨4, _, rfl, rfl, rfl, rfl, .inl (tab_rb (rb_slc rfl (by unfold capBig; omega)))⟩, rb_row (m := 7) rfl rfl rfl rfl (Fl.of rfl), trivial⟩
      by_cases x3 : intAt rs i < q
      · refine LRuns.step (code_runs (soV_X _) (soV_L _) (runZ_ok (soV_X _) (soV_T _) (soV_L _) mixed 9) mixed (se0_old inr a b q o rs xs n c i m d) ?_) rfl (by omega) (by omega) (fun n => n) ?_ ?_ rfl nx
        ·
          repeat' (first | exact alls_nil | refine alls_cons ?_ ?_)
          all_goals (try simp only [avLen, Nat.zero_add, List.nil_append])
          all_goals first | with_reducible assumption | with_reducible rfl | omega | (simp only [rg, adI_eq, beq_iff_eq, beq_eq_false_iff_ne, bne_iff_ne, bne_eq_false_iff_eq, ne_eq, decide_eq_true_eq, decide_eq_false_iff_not, Int.natCast_add]; omega) | (simp only [beq_self_eq_true, Bool.and_self, bne_self_eq_false]; done) | (refine ⟨by omega, by omega, ?_⟩; simp only [rg]; omega) | (refine ⟨by omega, by omega⟩) | rfl
        · exact ⟨rfl, rb_slc rfl (by unfold capBig; omega), rfl, rb_slc rfl (by unfold capBig; omega), rfl, rb_ptr rfl, rfl, rfl, rfl, rb_ptr rfl, rfl, rfl, rfl, rfl, trivial⟩
        · exact ⟨rb_old (by omega) rfl fR, rb_old (by omega) rfl fX, rb_row (m := 3) rfl rfl rfl rfl (Fl.of rfl), ⟨4, _, rfl, rfl, rfl, rfl, .inl (tab_rb (rb_slc rfl (by unfold capBig; omega)))⟩, rb_row (m := 7) rfl rfl rfl rfl (Fl.of rfl), trivial⟩
      · refine LRuns.step (code_runs (soV_X _) (soV_L _) (runZ_ok (soV_X _) (soV_T _) (soV_L _) mixed 9) mixed (se0_over inr a b q o rs xs n c i m d) ?_) rfl (by omega) (by omega) (fun n => n) ?_ ?_ rfl nx
        ·
          repeat' (first | exact alls_nil | refine alls_cons ?_ ?_)
          all_goals (try simp only [avLen, Nat.zero_add, List.nil_append])
          all_goals first | with_reducible assumption | with_reducible rfl | omega | (simp only [rg, adI_eq, beq_iff_eq, beq_eq_false_iff_ne, bne_iff_ne, bne_eq_false_iff_eq, ne_eq, decide_eq_true_eq, decide_eq_false_iff_not, Int.natCast_add]; omega) | (simp only [beq_self_eq_true, Bool.and_self, bne_self_eq_false]; done) | (refine ⟨by omega, by omega, ?_⟩; simp only [rg]; omega) | (refine ⟨by omega, by omega⟩) | rfl
        · exact ⟨rfl, rb_slc rfl (by unfold capBig; omega), rfl, rb_slc rfl (by unfold capBig; omega), rfl, rb_ptr rfl, rfl, rfl, rfl, rb_ptr rfl, rfl, rfl, rfl, rfl, trivial⟩
        · exact ⟨rb_old (by omega) rfl fR, rb_old (by omega) rfl fX, rb_row (m := 3) rfl rfl rfl rfl (Fl.of rfl), ⟨4, _, rfl, rfl, rfl, rfl, .inl (tab_rb (rb_slc rfl (by unfold capBig; omega)))⟩, rb_row (m := 7) rfl rfl rfl rfl (Fl.of rfl), trivial⟩
set_option maxHeartbeats 4000000 in
theorem sb0_l21 {inr : Bool} {h0 : Hp} {a b : Int} {rs xs : List Value} {n c m d : Nat} (F : SoF rs n c) (X : SoX xs m d) (hm : m / 2 = 0) : ∀ (k i : Nat) (q o : Int) (l : Nat) (ys : List Value), i + k = n → 0 ≤ q → q ≤ (i : Int) → Fl ys →
    LRuns inr Try.prog (soB Try.prog) 21 80 h0 162 (soS (.slice (some ⟨2, 0, none⟩) m d) n c i q) (soH a b q o (.slice (some ⟨8, 0, none⟩) l (capBig + 8)) rs [(2, ⟨.old, xs⟩)] [(8, rbr ys)]) 21 (.exit 0, [(7, .bool true)], (1, ⟨.old, rs⟩) :: [(2, ⟨.old, xs⟩)])
  | 0, i, q, o, l, ys, hk, h1, h2, hy => by
      have hc := F.c
      have hn40 := F.m
      have fR := fl_ints F.i
      have fX := fl_byts X.y
      have cX := X.c
      have sX := X.s
      have lX := X.l
      have hl2 : m / 2 ≤ xs.length := by omega
      have y2 := X.y.take (m / 2)
      have f2 := fl_byts y2
      refine LRuns.exit (code_runs (soV_X _) (soV_L _) (runZ_ok (soV_X _) (soV_T _) (soV_L _) mixed 9) mixed (sb0_done inr a b q o rs xs ys n c i m d l) ⟨dFl i n (by omega), trivial⟩) (by intro e; cases e) rfl (by omega) (by omega) (fun n => n) ⟨rfl, rfl, trivial⟩ ⟨rb_old (by omega) rfl fR, rb_old (by omega) rfl fX, trivial⟩ rfl
  | k + 1, i, q, o, l, ys, hk, h1, h2, hy => by
      have hc := F.c
      have hn40 := F.m
      have fR := fl_ints F.i
      have fX := fl_byts X.y
      have cX := X.c
      have sX := X.s
      have lX := X.l
      have hl2 : m / 2 ≤ xs.length := by omega
      have y2 := X.y.take (m / 2)
      have f2 := fl_byts y2
      obtain ⟨w1, w2⟩ := F.w i (by omega)
      have hg := F.i.get (i := i) (by have := F.l; omega)
      have hab : (a == a && (b == b && true)) = true := by simp
      have hi : ((i % 256 : Nat) : Int) = ((i % 256 : Nat) : Int) := rfl
      by_cases x1 : intAt rs i = q + 1
      · have fy : Fl [Value.int .u8 ((i % 256 : Nat) : Int)] := (fl_byts (by1 i))
        have nx := sb1_l21 (inr := inr) (h0 := h0) (a := a) (b := b) F X hm k (i + 1) (intAt rs i) (((i + 2 : Nat) : Int)) 1 [Value.int .u8 ((i % 256 : Nat) : Int)] (by omega) (by omega) (by omega) fy
        refine LRuns.stepTo (code_runs (soV_X _) (soV_L _) (runZ_ok (soV_X _) (soV_T _) (soV_L _) mixed 9) mixed (sb0_next inr a b q o rs xs ys n c i m d l) ?_) rfl (by omega) (by omega) (by omega) (by omega) (fun _ => 43) ?_ ?_ rfl nx
        ·
          repeat' (first | exact alls_nil | refine alls_cons ?_ ?_)
          all_goals (try simp only [avLen, Nat.zero_add, List.nil_append])
          all_goals first | with_reducible assumption | with_reducible rfl | omega | (simp only [rg, adI_eq, beq_iff_eq, beq_eq_false_iff_ne, bne_iff_ne, bne_eq_false_iff_eq, ne_eq, decide_eq_true_eq, decide_eq_false_iff_not, Int.natCast_add]; omega) | (simp only [beq_self_eq_true, Bool.and_self, bne_self_eq_false]; done) | (refine ⟨by omega, by omega, ?_⟩; simp only [rg]; omega) | (refine ⟨by omega, by omega⟩) | rfl
        · exact ⟨rfl, rb_slc rfl (by unfold capBig; omega), rfl, rb_slc rfl (by unfold capBig; omega), rfl, rb_ptr rfl, rfl, rfl, rfl, rb_ptr rfl, rfl, rfl, rfl, rfl, trivial⟩
        · exact ⟨rb_old (by omega) rfl fR, rb_old (by omega) rfl fX, rb_row (m := 3) rfl rfl rfl rfl (Fl.of rfl), ⟨4, _, rfl, rfl, rfl, rfl, .inl (tab_rb (rb_slg rfl rfl))⟩, rb_row (m := 43) rfl rfl rfl rfl fy, trivial⟩
      have nx := sb0_l21 (inr := inr) (h0 := h0) (a := a) (b := b) F X hm k (i + 1) q o l ys (by omega) h1 (by omega) hy
      by_cases x2 : intAt rs i = q
      · refine LRuns.step (code_runs (soV_X _) (soV_L _) (runZ_ok (soV_X _) (soV_T _) (soV_L _) mixed 9) mixed (sb0_same inr a b q o rs xs ys n c i m d l) ?_) rfl (by omega) (by omega) (fun n => n) ?_ ?_ rfl nx
        ·
          repeat' (first | exact alls_nil | refine alls_cons ?_ ?_)
          all_goals (try simp only [avLen, Nat.zero_add, List.nil_append])
          all_goals first | with_reducible assumption | with_reducible rfl | omega | (simp only [rg, adI_eq, beq_iff_eq, beq_eq_false_iff_ne, bne_iff_ne, bne_eq_false_iff_eq, ne_eq, decide_eq_true_eq, decide_eq_false_iff_not, Int.natCast_add]; omega) | (simp only [beq_self_eq_true, Bool.and_self, bne_self_eq_false]; done) | (refine ⟨by omega, by omega, ?_⟩; simp only [rg]; omega) | (refine ⟨by omega, by omega⟩) | rfl
        · exact ⟨rfl, rb_slc rfl (by unfold capBig; omega), rfl, rb_slc rfl (by unfold capBig; omega), rfl, rb_ptr rfl, rfl, rfl, rfl, rb_ptr rfl, rfl, rfl, rfl, rfl, trivial⟩
        · exact ⟨rb_old (by omega) rfl fR, rb_old (by omega) rfl fX, rb_row (m := 3) rfl rfl rfl rfl (Fl.of rfl), ⟨4, _, rfl, rfl, rfl, rfl, .inl (tab_rb (rb_slg rfl rfl))⟩, rb_row (m := 8) rfl rfl rfl rfl hy, trivial⟩
      by_cases x3 : intAt rs i < q
      · refine LRuns.step (code_runs (soV_X _) (soV_L _) (runZ_ok (soV_X _) (soV_T _) (soV_L _) mixed 9) mixed (sb0_old inr a b q o rs xs ys n c i m d l) ?_) rfl (by omega) (by omega) (fun n => n) ?_ ?_ rfl nx
        ·
          repeat' (first | exact alls_nil | refine alls_cons ?_ ?_)
          all_goals (try simp only [avLen, Nat.zero_add, List.nil_append])
          all_goals first | with_reducible assumption | with_reducible rfl | omega | (simp only [rg, adI_eq, beq_iff_eq, beq_eq_false_iff_ne, bne_iff_ne, bne_eq_false_iff_eq, ne_eq, decide_eq_true_eq, decide_eq_false_iff_not, Int.natCast_add]; omega) | (simp only [beq_self_eq_true, Bool.and_self, bne_self_eq_false]; done) | (refine ⟨by omega, by omega, ?_⟩; simp only [rg]; omega) | (refine ⟨by omega, by omega⟩) | rfl
        · exact ⟨rfl, rb_slc rfl (by unfold capBig; omega), rfl, rb_slc rfl (by unfold capBig; omega), rfl, rb_ptr rfl, rfl, rfl, rfl, rb_ptr rfl, rfl, rfl, rfl, rfl, trivial⟩
        · exact ⟨rb_old (by omega) rfl fR, rb_old (by omega) rfl fX, rb_row (m := 3) rfl rfl rfl rfl (Fl.of rfl), ⟨4, _, rfl, rfl, rfl, rfl, .inl (tab_rb (rb_slg rfl rfl))⟩, rb_row (m := 8) rfl rfl rfl rfl hy, trivial⟩
      · refine LRuns.step (code_runs (soV_X _) (soV_L _) (runZ_ok (soV_X _) (soV_T _) (soV_L _) mixed 9) mixed (sb0_over inr a b q o rs xs ys n c i m d l) ?_) rfl (by omega) (by omega) (fun n => n) ?_ ?_ rfl nx
        ·
          repeat' (first | exact alls_nil | refine alls_cons ?_ ?_)
          all_goals (try simp only [avLen, Nat.zero_add, List.nil_append])
          all_goals first | with_reducible assumption | with_reducible rfl | omega | (simp only [rg, adI_eq, beq_iff_eq, beq_eq_false_iff_ne, bne_iff_ne, bne_eq_false_iff_eq, ne_eq, decide_eq_true_eq, decide_eq_false_iff_not, Int.natCast_add]; omega) | (simp only [beq_self_eq_true, Bool.and_self, bne_self_eq_false]; done) | (refine ⟨by omega, by omega, ?_⟩; simp only [rg]; omega) | (refine ⟨by omega, by omega⟩) | rfl
        · exact ⟨rfl, rb_slc rfl (by unfold capBig; omega), rfl, rb_slc rfl (by unfold capBig; omega), rfl, rb_ptr rfl, rfl, rfl, rfl, rb_ptr rfl, rfl, rfl, rfl, rfl, trivial⟩
        · exact ⟨rb_old (by omega) rfl fR, rb_old (by omega) rfl fX, rb_row (m := 3) rfl rfl rfl rfl (Fl.of rfl), ⟨4, _, rfl, rfl, rfl, rfl, .inl (tab_rb (rb_slg rfl rfl))⟩, rb_row (m := 8) rfl rfl rfl rfl hy, trivial⟩
set_option maxHeartbeats 4000000 in
theorem sc0_l21 {inr : Bool} {h0 : Hp} {a b : Int} {rs xs : List Value} {n c m d : Nat} (F : SoF rs n c) (X : SoX xs m d) (hm : 0 < m / 2) : ∀ (k i : Nat) (q o : Int) (l : Nat) (ys : List Value), i + k = n → 0 ≤ q → q ≤ (i : Int) → Fl ys →
    LRuns inr Try.prog (soB Try.prog) 21 80 h0 162 (soS (.slice (some ⟨2, 0, none⟩) m d) n c i q) (soH a b q o (.slice (some ⟨8, 0, none⟩) l (capBig + 8)) rs [(2, ⟨.old, xs⟩)] [(8, rbr ys)]) 21 (.exit 0, [(7, .bool true)], (1, ⟨.old, rs⟩) :: [(2, ⟨.old, xs⟩)])
  | 0, i, q, o, l, ys, hk, h1, h2, hy => by
      have hc := F.c
      have hn40 := F.m
      have fR := fl_ints F.i
      have fX := fl_byts X.y
      have cX := X.c
      have sX := X.s
      have lX := X.l
      have hl2 : m / 2 ≤ xs.length := by omega
      have y2 := X.y.take (m / 2)
      have f2 := fl_byts y2
      refine LRuns.exit (code_runs (soV_X _) (soV_L _) (runZ_ok (soV_X _) (soV_T _) (soV_L _) mixed 9) mixed (sc0_done inr a b q o rs xs ys n c i m d l) ⟨dFl i n (by omega), trivial⟩) (by intro e; cases e) rfl (by omega) (by omega) (fun n => n) ⟨rfl, rfl, trivial⟩ ⟨rb_old (by omega) rfl fR, rb_old (by omega) rfl fX, trivial⟩ rfl
  | k + 1, i, q, o, l, ys, hk, h1, h2, hy => by
      have hc := F.c
      have hn40 := F.m
      have fR := fl_ints F.i
      have fX := fl_byts X.y
      have cX := X.c
      have sX := X.s
      have lX := X.l
      have hl2 : m / 2 ≤ xs.length := by omega
      have y2 := X.y.take (m / 2)
      have f2 := fl_byts y2
      obtain ⟨w1, w2⟩ := F.w i (by omega)
      have hg := F.i.get (i := i) (by have := F.l; omega)
      have hab : (a == a && (b == b && true)) = true := by simp
      have hi : ((i % 256 : Nat) : Int) = ((i % 256 : Nat) : Int) := rfl
      obtain ⟨Y, hY⟩ := soY_ex (m := m) X.y X.l i
      have eY := hY.e
      have tY := hY.t
      have lY := hY.l
      have yY := hY.y
      have gY := hY.g
      have vY := hY.v
      have gV : Y[m / 2]? = some (.int .u8 ((i % 256 : Nat) : Int)) := by rw [gY, vY]
      have fY := fl_byts yY
      have aY := Ints.all1 (k := .u8) yY.1
      have nY : Int.toNat (((m / 2 + 1 : Nat) : Int) - 1) = m / 2 := by omega
      have l2 : (xs.take (m / 2)).length = m / 2 := by rw [List.length_take]; omega
      by_cases x1 : intAt rs i = q + 1
      · have fy : Fl ([] ++ List.take (m / 2 + 1) (List.take (m / 2) xs ++ [Value.int .u8 ((i % 256 : Nat) : Int)])) := (by rw [eY, tY, List.nil_append]; exact fY)
        have nx := sc1_l21 (inr := inr) (h0 := h0) (a := a) (b := b) F X hm k (i + 1) (intAt rs i) (((i + 2 : Nat) : Int)) (0 + (m / 2 + 1)) ([] ++ List.take (m / 2 + 1) (List.take (m / 2) xs ++ [Value.int .u8 ((i % 256 : Nat) : Int)])) (by omega) (by omega) (by omega) fy
        refine LRuns.stepTo (code_runs (soV_X _) (soV_L _) (runZ_ok (soV_X _) (soV_T _) (soV_L _) mixed 9) mixed (sc0_next inr a b q o rs xs ys n c i m d l) ?_) rfl (by omega) (by omega) (by omega) (by omega) (fun _ => 43) ?_ ?_ rfl nx
        ·
          repeat' (first | exact alls_nil | refine alls_cons ?_ ?_)
          all_goals (try simp only [avLen, Nat.zero_add, List.nil_append, eY, tY, nY, vY])
          all_goals first | with_reducible assumption | with_reducible rfl | omega | (simp only [rg, adI_eq, beq_iff_eq, beq_eq_false_iff_ne, bne_iff_ne, bne_eq_false_iff_eq, ne_eq, decide_eq_true_eq, decide_eq_false_iff_not, Int.natCast_add]; omega) | (simp only [beq_self_eq_true, Bool.and_self, bne_self_eq_false]; done) | (refine ⟨by omega, by omega, ?_⟩; simp only [rg]; omega) | (refine ⟨by omega, by omega⟩) | rfl
        · exact ⟨rfl, rb_slc rfl (by unfold capBig; omega), rfl, rb_slc rfl (by unfold capBig; omega), rfl, rb_ptr rfl, rfl, rfl, rfl, rb_ptr rfl, rfl, rfl, rfl, rfl, trivial⟩
        · exact ⟨rb_old (by omega) rfl fR, rb_old (by omega) rfl fX, rb_row (m := 3) rfl rfl rfl rfl (Fl.of rfl), ⟨4, _, rfl, rfl, rfl, rfl, .inl (tab_rb (rb_slg rfl rfl))⟩, rb_row (m := 43) rfl rfl rfl rfl fy, trivial⟩
      have nx := sc0_l21 (inr := inr) (h0 := h0) (a := a) (b := b) F X hm k (i + 1) q o l ys (by omega) h1 (by omega) hy
      by_cases x2 : intAt rs i = q
      · refine LRuns.step (code_runs (soV_X _) (soV_L _) (runZ_ok (soV_X _) (soV_T _) (soV_L _) mixed 9) mixed (sc0_same inr a b q o rs xs ys n c i m d l) ?_) rfl (by omega) (by omega) (fun n => n) ?_ ?_ rfl nx
        ·
          repeat' (first | exact alls_nil | refine alls_cons ?_ ?_)
          all_goals (try simp only [avLen, Nat.zero_add, List.nil_append, eY, tY, nY, vY])
          all_goals first | with_reducible assumption | with_reducible rfl | omega | (simp only [rg, adI_eq, beq_iff_eq, beq_eq_false_iff_ne, bne_iff_ne, bne_eq_false_iff_eq, ne_eq, decide_eq_true_eq, decide_eq_false_iff_not, Int.natCast_add]; omega) | (simp only [beq_self_eq_true, Bool.and_self, bne_self_eq_false]; done) | (refine ⟨by omega, by omega, ?_⟩; simp only [rg]; omega) | (refine ⟨by omega, by omega⟩) | rfl
        · exact ⟨rfl, rb_slc rfl (by unfold capBig; omega), rfl, rb_slc rfl (by unfold capBig; omega), rfl, rb_ptr rfl, rfl, rfl, rfl, rb_ptr rfl, rfl, rfl, rfl, rfl, trivial⟩
        · exact ⟨rb_old (by omega) rfl fR, rb_old (by omega) rfl fX, rb_row (m := 3) rfl rfl rfl rfl (Fl.of rfl), ⟨4, _, rfl, rfl, rfl, rfl, .inl (tab_rb (rb_slg rfl rfl))⟩, rb_row (m := 8) rfl rfl rfl rfl hy, trivial⟩
      by_cases x3 : intAt rs i < q
      · refine LRuns.step (code_runs (soV_X _) (soV_L _) (runZ_ok (soV_X _) (soV_T _) (soV_L _) mixed 9) mixed (sc0_old inr a b q o rs xs ys n c i m d l) ?_) rfl (by omega) (by omega) (fun n => n) ?_ ?_ rfl nx
        ·
          repeat' (first | exact alls_nil | refine alls_cons ?_ ?_)
          all_goals (try simp only [avLen, Nat.zero_add, List.nil_append, eY, tY, nY, vY])
          all_goals first | with_reducible assumption | with_reducible rfl | omega | (simp only [rg, adI_eq, beq_iff_eq, beq_eq_false_iff_ne, bne_iff_ne, bne_eq_false_iff_eq, ne_eq, decide_eq_true_eq, decide_eq_false_iff_not, Int.natCast_add]; omega) | (simp only [beq_self_eq_true, Bool.and_self, bne_self_eq_false]; done) | (refine ⟨by omega, by omega, ?_⟩; simp only [rg]; omega) | (refine ⟨by omega, by omega⟩) | rfl
        · exact ⟨rfl, rb_slc rfl (by unfold capBig; omega), rfl, rb_slc rfl (by unfold capBig; omega), rfl, rb_ptr rfl, rfl, rfl, rfl, rb_ptr rfl, rfl, rfl, rfl, rfl, trivial⟩
        · exact ⟨rb_old (by omega) rfl fR, rb_old (by omega) rfl fX, rb_row (m := 3) rfl rfl rfl rfl (Fl.of rfl), ⟨4, _, rfl, rfl, rfl, rfl, .inl (tab_rb (rb_slg rfl rfl))⟩, rb_row (m := 8) rfl rfl rfl rfl hy, trivial⟩
      · refine LRuns.step (code_runs (soV_X _) (soV_L _) (runZ_ok (soV_X _) (soV_T _) (soV_L _) mixed 9) mixed (sc0_over inr a b q o rs xs ys n c i m d l) ?_) rfl (by omega) (by omega) (fun n => n) ?_ ?_ rfl nx
        ·
          repeat' (first | exact alls_nil | refine alls_cons ?_ ?_)
          all_goals (try simp only [avLen, Nat.zero_add, List.nil_append, eY, tY, nY, vY])
          all_goals first | with_reducible assumption | with_reducible rfl | omega | (simp only [rg, adI_eq, beq_iff_eq, beq_eq_false_iff_ne, bne_iff_ne, bne_eq_false_iff_eq, ne_eq, decide_eq_true_eq, decide_eq_false_iff_not, Int.natCast_add]; omega) | (simp only [beq_self_eq_true, Bool.and_self, bne_self_eq_false]; done) | (refine ⟨by omega, by omega, ?_⟩; simp only [rg]; omega) | (refine ⟨by omega, by omega⟩) | rfl
        · exact ⟨rfl, rb_slc rfl (by unfold capBig; omega), rfl, rb_slc rfl (by unfold capBig; omega), rfl, rb_ptr rfl, rfl, rfl, rfl, rb_ptr rfl, rfl, rfl, rfl, rfl, trivial⟩
        · exact ⟨rb_old (by omega) rfl fR, rb_old (by omega) rfl fX, rb_row (m := 3) rfl rfl rfl rfl (Fl.of rfl), ⟨4, _, rfl, rfl, rfl, rfl, .inl (tab_rb (rb_slg rfl rfl))⟩, rb_row (m := 8) rfl rfl rfl rfl hy, trivial⟩
end Go.Proofs.Ytdcakhahagbedaa
