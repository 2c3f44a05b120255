/-
  Chapter 30: the statement NetworkKeeps: one round, case by case.
-/
import Derived.Test.YtcahhoemlmbnaaaNkB
import Derived.Test.YtcahhoemlmbnaaaNkC
namespace Go.Proofs.Ytcahhoemlmbnaaa
set_option linter.unusedSimpArgs false
set_option linter.unusedVariables false
set_option linter.unusedSectionVars false
open Go Go.RowKit

theorem nkT0_one : TOneZ Try.prog nkT0 := orTz_ok insT_one (orTz_ok (mkT_one chk_gok) delT_one)
theorem nkX : XOkZ (nkV noL nkT0) Try.prog := noXz_ok rfl
theorem nkT : TOkZ (nkV noL nkT0) Try.prog := T_okV rfl nkT0_one
theorem nkL : LOkZ (nkV noL nkT0) Try.prog := noL_okV rfl
theorem nk_mp {lo N : Nat} {ρ : Nat → Nat} {h0 h1 : Hp} {es fs : List (Value × Value)} (h : fnN lo N ρ 1 = some 1) (hl : lk h1 1 = some ⟨.mp fs, []⟩) (e : fs = es) : RbRow lo N ρ h0 h1 1 ⟨.mp es, []⟩ := ⟨1, _, h, hl, by rw [e], rfl, .inl rfl⟩
theorem nk_map {lo N : Nat} {ρ : Nat → Nat} (h : fnN lo N ρ 1 = some 1) : renV (sgf lo N ρ) (.map (some 1)) = some (.map (some 1)) := by
  simp only [renV, sgf, h]
theorem nk_net {lo N : Nat} {ρ : Nat → Nat} {h0 h1 : Hp} {l l' : Value} {k : Int} (h2 : fnN lo N ρ 2 = some 2) (h : fnN lo N ρ 1 = some 1) (hl : lk h1 2 = some (nkR l' k)) (hv : renV (sgf lo N ρ) l = some l') : RbRow lo N ρ h0 h1 2 (nkR l k) :=
  ⟨2, _, h2, hl, rfl, rfl, .inl (renL_mk rfl (renL_mk hv (renL_mk (nk_map h) (renL_mk rfl rfl))))⟩
theorem ls_row {lo N : Nat} {ρ : Nat → Nat} {h0 h1 : Hp} {n m : Nat} {C D : List Value} (hn : fnN lo N ρ n = some m) (hl : lk h1 m = some (lsR D)) (e : D = C) (hx : Fl C) : RbRow lo N ρ h0 h1 n (lsR C) := rb_row hn hl rfl e hx
def ShsA (ds : List DV) (n : Nat) : Prop := ∀ i, i < n → ShOb Try.prog 54 false ds (i * 21) 81
abbrev NkR (inr : Bool) (h0 : Hp) (ds : List DV) (n c : Nat) (asL bs : List Int) (es : List (Value × Value)) (l : List Pq) (i : Nat) (s t lo : Int) : Prop :=
  LRuns inr Try.prog (nkB Try.prog) 5 200 h0 157 (nkS n c s t i) (nkHr ds es lo (ints asL) (ints bs) l.length (pks l)) 81 (.exit 0, [(3, .bool true)], [])
abbrev NkN (inr : Bool) (h0 : Hp) (ds : List DV) (n c : Nat) (asL bs : List Int) (es : List (Value × Value)) (i : Nat) (s t lo : Int) : Prop :=
  LRuns inr Try.prog (nkB Try.prog) 5 200 h0 157 (nkS n c s t i) (nkHn ds es lo (ints asL) (ints bs)) 81 (.exit 0, [(3, .bool true)], [])
def NkG (inr : Bool) (h0 : Hp) (ds : List DV) (n c i : Nat) : Prop := ∀ (asL bs : List Int) (es : List (Value × Value)) (l : List Pq) (s t lo : Int), Nk asL bs es l i s t lo →
  NkR inr h0 ds n c asL bs es l i s t lo ∧ (l = [] → NkN inr h0 ds n c asL bs es i s t lo)
section
variable {inr : Bool} {h0 : Hp} {ds : List DV} {n c i : Nat} {asL bs : List Int} {es : List (Value × Value)} {l : List Pq} {s t lo : Int}
theorem nkn0 (hG : NkG inr h0 ds n c (i + 1)) (hi : i < n) (hn : n ≤ 60) (hc : c ≤ 9223372036854775807) (hS : ShsA ds n) (h : Nk asL bs es l i s t lo) (hl : l = []) (hk : dInt ds (i * 21) = 0) : NkN inr h0 ds n c asL bs es i s t lo := by
  subst hl
  have hs := hS i hi
  have hcc : c < capBig := by unfold capBig; omega
  have hLA := h.la
  have hLB := h.lb
  have hsum := h.sum
  have ht0 := h.t0
  have hl0 := h.l0
  have hsi := h.si
  simp only [List.length_nil] at hsum
  by_cases h_fa : (dInt ds (i * 21 + 1)) < 0
  ·
    refine LRuns.step (code_runsP nkX nkL (runZ_ok nkX nkT nkL mixed 9) mixed (nkn_snd_fa inr i n c s t lo (ints asL) (ints bs) es ds) ?_) rfl (by omega) (by omega) (fun n => n) ?_ ?_ rfl ((hG _ _ _ _ _ _ _ h.up).2 rfl)
    ·
      simp only [Alls, rg, decide_eq_true_eq, decide_eq_false_iff_not, beq_iff_eq, beq_eq_false_iff_ne, bne_eq_false_iff_eq, adI_eq, Nat.add_zero, ints_len, pks_len, hLA, hLB, ne_eq]
      repeat' (with_reducible apply And.intro)
      all_goals first | omega | (with_reducible assumption) | (with_reducible exact trivial) | (with_reducible rfl) | (skip)
    · exact ⟨rfl, rb_slc rfl hcc, rfl, rfl, rfl, rb_ptr rfl, rfl, rfl, rfl, rfl, rfl, rb_ptr rfl, rfl, rb_ptr rfl, rfl, rfl, trivial⟩
    · exact ⟨nk_mp rfl rfl (rfl), nk_net rfl rfl rfl (rfl), rb_row (n := 3) (m := 3) rfl rfl rfl (rfl) (ints_fl _), rb_row (n := 4) (m := 4) rfl rfl rfl (rfl) (ints_fl _), rb_rec (m := 0) rfl rfl trivial, trivial⟩
  by_cases h_fb : ¬ (dInt ds (i * 21 + 1)) < 4
  ·
    refine LRuns.step (code_runsP nkX nkL (runZ_ok nkX nkT nkL mixed 9) mixed (nkn_snd_fb inr i n c s t lo (ints asL) (ints bs) es ds) ?_) rfl (by omega) (by omega) (fun n => n) ?_ ?_ rfl ((hG _ _ _ _ _ _ _ h.up).2 rfl)
    ·
      simp only [Alls, rg, decide_eq_true_eq, decide_eq_false_iff_not, beq_iff_eq, beq_eq_false_iff_ne, bne_eq_false_iff_eq, adI_eq, Nat.add_zero, ints_len, pks_len, hLA, hLB, ne_eq]
      repeat' (with_reducible apply And.intro)
      all_goals first | omega | (with_reducible assumption) | (with_reducible exact trivial) | (with_reducible rfl) | (skip)
    · exact ⟨rfl, rb_slc rfl hcc, rfl, rfl, rfl, rb_ptr rfl, rfl, rfl, rfl, rfl, rfl, rb_ptr rfl, rfl, rb_ptr rfl, rfl, rfl, trivial⟩
    · exact ⟨nk_mp rfl rfl (rfl), nk_net rfl rfl rfl (rfl), rb_row (n := 3) (m := 3) rfl rfl rfl (rfl) (ints_fl _), rb_row (n := 4) (m := 4) rfl rfl rfl (rfl) (ints_fl _), rb_rec (m := 0) rfl rfl trivial, trivial⟩
  by_cases h_fc : (dInt ds (i * 21 + 2)) < 0
  ·
    refine LRuns.step (code_runsP nkX nkL (runZ_ok nkX nkT nkL mixed 9) mixed (nkn_snd_fc inr i n c s t lo (ints asL) (ints bs) es ds) ?_) rfl (by omega) (by omega) (fun n => n) ?_ ?_ rfl ((hG _ _ _ _ _ _ _ h.up).2 rfl)
    ·
      simp only [Alls, rg, decide_eq_true_eq, decide_eq_false_iff_not, beq_iff_eq, beq_eq_false_iff_ne, bne_eq_false_iff_eq, adI_eq, Nat.add_zero, ints_len, pks_len, hLA, hLB, ne_eq]
      repeat' (with_reducible apply And.intro)
      all_goals first | omega | (with_reducible assumption) | (with_reducible exact trivial) | (with_reducible rfl) | (skip)
    · exact ⟨rfl, rb_slc rfl hcc, rfl, rfl, rfl, rb_ptr rfl, rfl, rfl, rfl, rfl, rfl, rb_ptr rfl, rfl, rb_ptr rfl, rfl, rfl, trivial⟩
    · exact ⟨nk_mp rfl rfl (rfl), nk_net rfl rfl rfl (rfl), rb_row (n := 3) (m := 3) rfl rfl rfl (rfl) (ints_fl _), rb_row (n := 4) (m := 4) rfl rfl rfl (rfl) (ints_fl _), rb_rec (m := 0) rfl rfl trivial, trivial⟩
  by_cases h_fd : ¬ (dInt ds (i * 21 + 2)) < 4
  ·
    refine LRuns.step (code_runsP nkX nkL (runZ_ok nkX nkT nkL mixed 9) mixed (nkn_snd_fd inr i n c s t lo (ints asL) (ints bs) es ds) ?_) rfl (by omega) (by omega) (fun n => n) ?_ ?_ rfl ((hG _ _ _ _ _ _ _ h.up).2 rfl)
    ·
      simp only [Alls, rg, decide_eq_true_eq, decide_eq_false_iff_not, beq_iff_eq, beq_eq_false_iff_ne, bne_eq_false_iff_eq, adI_eq, Nat.add_zero, ints_len, pks_len, hLA, hLB, ne_eq]
      repeat' (with_reducible apply And.intro)
      all_goals first | omega | (with_reducible assumption) | (with_reducible exact trivial) | (with_reducible rfl) | (skip)
    · exact ⟨rfl, rb_slc rfl hcc, rfl, rfl, rfl, rb_ptr rfl, rfl, rfl, rfl, rfl, rfl, rb_ptr rfl, rfl, rb_ptr rfl, rfl, rfl, trivial⟩
    · exact ⟨nk_mp rfl rfl (rfl), nk_net rfl rfl rfl (rfl), rb_row (n := 3) (m := 3) rfl rfl rfl (rfl) (ints_fl _), rb_row (n := 4) (m := 4) rfl rfl rfl (rfl) (ints_fl _), rb_rec (m := 0) rfl rfl trivial, trivial⟩
  have hi6 : i < 64 := by omega
  cases hb : bE (lkK (dInt ds (i * 21 + 1)) (dInt ds (i * 21 + 2))) es with
  | true =>
    refine LRuns.step (code_runsP nkX nkL (runZ_ok nkX nkT nkL mixed 9) mixed (nkn_snd_cut inr i n c s t lo (ints asL) (ints bs) es ds) ?_) rfl (by omega) (by omega) (fun n => n) ?_ ?_ rfl ((hG _ _ _ _ _ _ _ (h.cut hi6 (dInt ds (i * 21 + 1)) (dInt ds (i * 21 + 2)))).2 rfl)
    ·
      simp only [Alls, rg, decide_eq_true_eq, decide_eq_false_iff_not, beq_iff_eq, beq_eq_false_iff_ne, bne_eq_false_iff_eq, adI_eq, Nat.add_zero, ints_len, pks_len, hLA, hLB, ne_eq]
      repeat' (with_reducible apply And.intro)
      all_goals first | omega | (with_reducible assumption) | (with_reducible exact trivial) | (with_reducible rfl) | (first | exact keysOk h.he _ _ | exact boolsOk h.he | exact hb | exact rfl)
    · exact ⟨rfl, rb_slc rfl hcc, rfl, rfl, rfl, rb_ptr rfl, rfl, rfl, rfl, rfl, rfl, rb_ptr rfl, rfl, rb_ptr rfl, rfl, rfl, trivial⟩
    · exact ⟨nk_mp rfl rfl (rfl), nk_net rfl rfl rfl (rfl), rb_row (n := 3) (m := 3) rfl rfl rfl (ints_set _ _ _) (ints_fl _), rb_row (n := 4) (m := 4) rfl rfl rfl (ints_set _ _ _) (ints_fl _), rb_rec (m := 0) rfl rfl trivial, trivial⟩
  | false =>
    refine LRuns.step (code_runsP nkX nkL (runZ_ok nkX nkT nkL mixed 9) mixed (nkn_snd_put inr i n c s t lo (ints asL) (ints bs) es ds) ?_) rfl (by omega) (by omega) (fun _ => 90) ?_ ?_ rfl ((hG _ _ _ _ _ _ _ (h.put hi6 (dInt ds (i * 21 + 1)) (dInt ds (i * 21 + 2)))).1)
    ·
      simp only [Alls, rg, decide_eq_true_eq, decide_eq_false_iff_not, beq_iff_eq, beq_eq_false_iff_ne, bne_eq_false_iff_eq, adI_eq, Nat.add_zero, ints_len, pks_len, hLA, hLB, ne_eq]
      repeat' (with_reducible apply And.intro)
      all_goals first | omega | (with_reducible assumption) | (with_reducible exact trivial) | (with_reducible rfl) | (first | exact keysOk h.he _ _ | exact boolsOk h.he | exact hb | exact rfl)
    · exact ⟨rfl, rb_slc rfl hcc, rfl, rfl, rfl, rb_ptr rfl, rfl, rfl, rfl, rfl, rfl, rb_ptr rfl, rfl, rb_ptr rfl, rfl, rfl, trivial⟩
    · exact ⟨nk_mp rfl rfl (rfl), nk_net rfl rfl rfl (rb_slg rfl rfl), rb_row (n := 3) (m := 3) rfl rfl rfl (ints_set _ _ _) (ints_fl _), rb_row (n := 4) (m := 4) rfl rfl rfl (ints_set _ _ _) (ints_fl _), ls_row (n := 80) (m := 90) rfl rfl (rfl) (pks_fl _), rb_rec (m := 0) rfl rfl trivial, trivial⟩
theorem nkn5 (hG : NkG inr h0 ds n c (i + 1)) (hi : i < n) (hn : n ≤ 60) (hc : c ≤ 9223372036854775807) (hS : ShsA ds n) (h : Nk asL bs es l i s t lo) (hl : l = []) (hk : dInt ds (i * 21) = 5) : NkN inr h0 ds n c asL bs es i s t lo := by
  subst hl
  have hs := hS i hi
  have hcc : c < capBig := by unfold capBig; omega
  have hLA := h.la
  have hLB := h.lb
  have hsum := h.sum
  have ht0 := h.t0
  have hl0 := h.l0
  have hsi := h.si
  simp only [List.length_nil] at hsum
  by_cases h_fa : (dInt ds (i * 21 + 1)) < 0
  ·
    refine LRuns.step (code_runsP nkX nkL (runZ_ok nkX nkT nkL mixed 9) mixed (nkn_cut_fa inr i n c s t lo (ints asL) (ints bs) es ds) ?_) rfl (by omega) (by omega) (fun n => n) ?_ ?_ rfl ((hG _ _ _ _ _ _ _ h.up).2 rfl)
    ·
      simp only [Alls, rg, decide_eq_true_eq, decide_eq_false_iff_not, beq_iff_eq, beq_eq_false_iff_ne, bne_eq_false_iff_eq, adI_eq, Nat.add_zero, ints_len, pks_len, hLA, hLB, ne_eq]
      repeat' (with_reducible apply And.intro)
      all_goals first | omega | (with_reducible assumption) | (with_reducible exact trivial) | (with_reducible rfl) | (skip)
    · exact ⟨rfl, rb_slc rfl hcc, rfl, rfl, rfl, rb_ptr rfl, rfl, rfl, rfl, rfl, rfl, rb_ptr rfl, rfl, rb_ptr rfl, rfl, rfl, trivial⟩
    · exact ⟨nk_mp rfl rfl (rfl), nk_net rfl rfl rfl (rfl), rb_row (n := 3) (m := 3) rfl rfl rfl (rfl) (ints_fl _), rb_row (n := 4) (m := 4) rfl rfl rfl (rfl) (ints_fl _), rb_rec (m := 0) rfl rfl trivial, trivial⟩
  by_cases h_fb : ¬ (dInt ds (i * 21 + 1)) < 4
  ·
    refine LRuns.step (code_runsP nkX nkL (runZ_ok nkX nkT nkL mixed 9) mixed (nkn_cut_fb inr i n c s t lo (ints asL) (ints bs) es ds) ?_) rfl (by omega) (by omega) (fun n => n) ?_ ?_ rfl ((hG _ _ _ _ _ _ _ h.up).2 rfl)
    ·
      simp only [Alls, rg, decide_eq_true_eq, decide_eq_false_iff_not, beq_iff_eq, beq_eq_false_iff_ne, bne_eq_false_iff_eq, adI_eq, Nat.add_zero, ints_len, pks_len, hLA, hLB, ne_eq]
      repeat' (with_reducible apply And.intro)
      all_goals first | omega | (with_reducible assumption) | (with_reducible exact trivial) | (with_reducible rfl) | (skip)
    · exact ⟨rfl, rb_slc rfl hcc, rfl, rfl, rfl, rb_ptr rfl, rfl, rfl, rfl, rfl, rfl, rb_ptr rfl, rfl, rb_ptr rfl, rfl, rfl, trivial⟩
    · exact ⟨nk_mp rfl rfl (rfl), nk_net rfl rfl rfl (rfl), rb_row (n := 3) (m := 3) rfl rfl rfl (rfl) (ints_fl _), rb_row (n := 4) (m := 4) rfl rfl rfl (rfl) (ints_fl _), rb_rec (m := 0) rfl rfl trivial, trivial⟩
  by_cases h_fc : (dInt ds (i * 21 + 2)) < 0
  ·
    refine LRuns.step (code_runsP nkX nkL (runZ_ok nkX nkT nkL mixed 9) mixed (nkn_cut_fc inr i n c s t lo (ints asL) (ints bs) es ds) ?_) rfl (by omega) (by omega) (fun n => n) ?_ ?_ rfl ((hG _ _ _ _ _ _ _ h.up).2 rfl)
    ·
      simp only [Alls, rg, decide_eq_true_eq, decide_eq_false_iff_not, beq_iff_eq, beq_eq_false_iff_ne, bne_eq_false_iff_eq, adI_eq, Nat.add_zero, ints_len, pks_len, hLA, hLB, ne_eq]
      repeat' (with_reducible apply And.intro)
      all_goals first | omega | (with_reducible assumption) | (with_reducible exact trivial) | (with_reducible rfl) | (skip)
    · exact ⟨rfl, rb_slc rfl hcc, rfl, rfl, rfl, rb_ptr rfl, rfl, rfl, rfl, rfl, rfl, rb_ptr rfl, rfl, rb_ptr rfl, rfl, rfl, trivial⟩
    · exact ⟨nk_mp rfl rfl (rfl), nk_net rfl rfl rfl (rfl), rb_row (n := 3) (m := 3) rfl rfl rfl (rfl) (ints_fl _), rb_row (n := 4) (m := 4) rfl rfl rfl (rfl) (ints_fl _), rb_rec (m := 0) rfl rfl trivial, trivial⟩
  by_cases h_fd : ¬ (dInt ds (i * 21 + 2)) < 4
  ·
    refine LRuns.step (code_runsP nkX nkL (runZ_ok nkX nkT nkL mixed 9) mixed (nkn_cut_fd inr i n c s t lo (ints asL) (ints bs) es ds) ?_) rfl (by omega) (by omega) (fun n => n) ?_ ?_ rfl ((hG _ _ _ _ _ _ _ h.up).2 rfl)
    ·
      simp only [Alls, rg, decide_eq_true_eq, decide_eq_false_iff_not, beq_iff_eq, beq_eq_false_iff_ne, bne_eq_false_iff_eq, adI_eq, Nat.add_zero, ints_len, pks_len, hLA, hLB, ne_eq]
      repeat' (with_reducible apply And.intro)
      all_goals first | omega | (with_reducible assumption) | (with_reducible exact trivial) | (with_reducible rfl) | (skip)
    · exact ⟨rfl, rb_slc rfl hcc, rfl, rfl, rfl, rb_ptr rfl, rfl, rfl, rfl, rfl, rfl, rb_ptr rfl, rfl, rb_ptr rfl, rfl, rfl, trivial⟩
    · exact ⟨nk_mp rfl rfl (rfl), nk_net rfl rfl rfl (rfl), rb_row (n := 3) (m := 3) rfl rfl rfl (rfl) (ints_fl _), rb_row (n := 4) (m := 4) rfl rfl rfl (rfl) (ints_fl _), rb_rec (m := 0) rfl rfl trivial, trivial⟩
  refine LRuns.step (code_runsP nkX nkL (runZ_ok nkX nkT nkL mixed 9) mixed (nkn_cut_ok inr i n c s t lo (ints asL) (ints bs) es ds) ?_) rfl (by omega) (by omega) (fun n => n) ?_ ?_ rfl ((hG _ _ _ _ _ _ _ (h.link (dInt ds (i * 21 + 1)) (dInt ds (i * 21 + 2)) (dBool ds (i * 21 + 3)))).2 rfl)
  ·
    simp only [Alls, rg, decide_eq_true_eq, decide_eq_false_iff_not, beq_iff_eq, beq_eq_false_iff_ne, bne_eq_false_iff_eq, adI_eq, Nat.add_zero, ints_len, pks_len, hLA, hLB, ne_eq]
    repeat' (with_reducible apply And.intro)
    all_goals first | omega | (with_reducible assumption) | (with_reducible exact trivial) | (with_reducible rfl) | (first | exact keysOk h.he _ _ | exact boolsOk h.he | exact rfl)
  · exact ⟨rfl, rb_slc rfl hcc, rfl, rfl, rfl, rb_ptr rfl, rfl, rfl, rfl, rfl, rfl, rb_ptr rfl, rfl, rb_ptr rfl, rfl, rfl, trivial⟩
  · exact ⟨nk_mp rfl rfl (rfl), nk_net rfl rfl rfl (rfl), rb_row (n := 3) (m := 3) rfl rfl rfl (rfl) (ints_fl _), rb_row (n := 4) (m := 4) rfl rfl rfl (rfl) (ints_fl _), rb_rec (m := 0) rfl rfl trivial, trivial⟩
theorem nkn1 (hG : NkG inr h0 ds n c (i + 1)) (hi : i < n) (hn : n ≤ 60) (hc : c ≤ 9223372036854775807) (hS : ShsA ds n) (h : Nk asL bs es l i s t lo) (hl : l = []) (hk : dInt ds (i * 21) = 1) : NkN inr h0 ds n c asL bs es i s t lo := by
  subst hl
  have hs := hS i hi
  have hcc : c < capBig := by unfold capBig; omega
  have hLA := h.la
  have hLB := h.lb
  have hsum := h.sum
  have ht0 := h.t0
  have hl0 := h.l0
  have hsi := h.si
  simp only [List.length_nil] at hsum
  by_cases h_fa : (dInt ds (i * 21 + 1)) < 0
  ·
    refine LRuns.step (code_runsP nkX nkL (runZ_ok nkX nkT nkL mixed 9) mixed (nkn_tak_fa inr i n c s t lo (ints asL) (ints bs) es ds) ?_) rfl (by omega) (by omega) (fun n => n) ?_ ?_ rfl ((hG _ _ _ _ _ _ _ h.up).2 rfl)
    ·
      simp only [Alls, rg, decide_eq_true_eq, decide_eq_false_iff_not, beq_iff_eq, beq_eq_false_iff_ne, bne_eq_false_iff_eq, adI_eq, Nat.add_zero, ints_len, pks_len, hLA, hLB, ne_eq]
      repeat' (with_reducible apply And.intro)
      all_goals first | omega | (with_reducible assumption) | (with_reducible exact trivial) | (with_reducible rfl) | (skip)
    · exact ⟨rfl, rb_slc rfl hcc, rfl, rfl, rfl, rb_ptr rfl, rfl, rfl, rfl, rfl, rfl, rb_ptr rfl, rfl, rb_ptr rfl, rfl, rfl, trivial⟩
    · exact ⟨nk_mp rfl rfl (rfl), nk_net rfl rfl rfl (rfl), rb_row (n := 3) (m := 3) rfl rfl rfl (rfl) (ints_fl _), rb_row (n := 4) (m := 4) rfl rfl rfl (rfl) (ints_fl _), rb_rec (m := 0) rfl rfl trivial, trivial⟩
  ·
    refine LRuns.step (code_runsP nkX nkL (runZ_ok nkX nkT nkL mixed 9) mixed (nkn_tak_fb inr i n c s t lo (ints asL) (ints bs) es ds) ?_) rfl (by omega) (by omega) (fun n => n) ?_ ?_ rfl ((hG _ _ _ _ _ _ _ h.up).2 rfl)
    ·
      simp only [Alls, rg, decide_eq_true_eq, decide_eq_false_iff_not, beq_iff_eq, beq_eq_false_iff_ne, bne_eq_false_iff_eq, adI_eq, Nat.add_zero, ints_len, pks_len, hLA, hLB, ne_eq]
      repeat' (with_reducible apply And.intro)
      all_goals first | omega | (with_reducible assumption) | (with_reducible exact trivial) | (with_reducible rfl) | (skip)
    · exact ⟨rfl, rb_slc rfl hcc, rfl, rfl, rfl, rb_ptr rfl, rfl, rfl, rfl, rfl, rfl, rb_ptr rfl, rfl, rb_ptr rfl, rfl, rfl, trivial⟩
    · exact ⟨nk_mp rfl rfl (rfl), nk_net rfl rfl rfl (rfl), rb_row (n := 3) (m := 3) rfl rfl rfl (rfl) (ints_fl _), rb_row (n := 4) (m := 4) rfl rfl rfl (rfl) (ints_fl _), rb_rec (m := 0) rfl rfl trivial, trivial⟩
theorem nkn2 (hG : NkG inr h0 ds n c (i + 1)) (hi : i < n) (hn : n ≤ 60) (hc : c ≤ 9223372036854775807) (hS : ShsA ds n) (h : Nk asL bs es l i s t lo) (hl : l = []) (hk : dInt ds (i * 21) = 2) : NkN inr h0 ds n c asL bs es i s t lo := by
  subst hl
  have hs := hS i hi
  have hcc : c < capBig := by unfold capBig; omega
  have hLA := h.la
  have hLB := h.lb
  have hsum := h.sum
  have ht0 := h.t0
  have hl0 := h.l0
  have hsi := h.si
  simp only [List.length_nil] at hsum
  by_cases h_fa : (dInt ds (i * 21 + 1)) < 0
  ·
    refine LRuns.step (code_runsP nkX nkL (runZ_ok nkX nkT nkL mixed 9) mixed (nkn_drp_fa inr i n c s t lo (ints asL) (ints bs) es ds) ?_) rfl (by omega) (by omega) (fun n => n) ?_ ?_ rfl ((hG _ _ _ _ _ _ _ h.up).2 rfl)
    ·
      simp only [Alls, rg, decide_eq_true_eq, decide_eq_false_iff_not, beq_iff_eq, beq_eq_false_iff_ne, bne_eq_false_iff_eq, adI_eq, Nat.add_zero, ints_len, pks_len, hLA, hLB, ne_eq]
      repeat' (with_reducible apply And.intro)
      all_goals first | omega | (with_reducible assumption) | (with_reducible exact trivial) | (with_reducible rfl) | (skip)
    · exact ⟨rfl, rb_slc rfl hcc, rfl, rfl, rfl, rb_ptr rfl, rfl, rfl, rfl, rfl, rfl, rb_ptr rfl, rfl, rb_ptr rfl, rfl, rfl, trivial⟩
    · exact ⟨nk_mp rfl rfl (rfl), nk_net rfl rfl rfl (rfl), rb_row (n := 3) (m := 3) rfl rfl rfl (rfl) (ints_fl _), rb_row (n := 4) (m := 4) rfl rfl rfl (rfl) (ints_fl _), rb_rec (m := 0) rfl rfl trivial, trivial⟩
  ·
    refine LRuns.step (code_runsP nkX nkL (runZ_ok nkX nkT nkL mixed 9) mixed (nkn_drp_fb inr i n c s t lo (ints asL) (ints bs) es ds) ?_) rfl (by omega) (by omega) (fun n => n) ?_ ?_ rfl ((hG _ _ _ _ _ _ _ h.up).2 rfl)
    ·
      simp only [Alls, rg, decide_eq_true_eq, decide_eq_false_iff_not, beq_iff_eq, beq_eq_false_iff_ne, bne_eq_false_iff_eq, adI_eq, Nat.add_zero, ints_len, pks_len, hLA, hLB, ne_eq]
      repeat' (with_reducible apply And.intro)
      all_goals first | omega | (with_reducible assumption) | (with_reducible exact trivial) | (with_reducible rfl) | (skip)
    · exact ⟨rfl, rb_slc rfl hcc, rfl, rfl, rfl, rb_ptr rfl, rfl, rfl, rfl, rfl, rfl, rb_ptr rfl, rfl, rb_ptr rfl, rfl, rfl, trivial⟩
    · exact ⟨nk_mp rfl rfl (rfl), nk_net rfl rfl rfl (rfl), rb_row (n := 3) (m := 3) rfl rfl rfl (rfl) (ints_fl _), rb_row (n := 4) (m := 4) rfl rfl rfl (rfl) (ints_fl _), rb_rec (m := 0) rfl rfl trivial, trivial⟩
theorem nkn3 (hG : NkG inr h0 ds n c (i + 1)) (hi : i < n) (hn : n ≤ 60) (hc : c ≤ 9223372036854775807) (hS : ShsA ds n) (h : Nk asL bs es l i s t lo) (hl : l = []) (hk : dInt ds (i * 21) = 3) : NkN inr h0 ds n c asL bs es i s t lo := by
  subst hl
  have hs := hS i hi
  have hcc : c < capBig := by unfold capBig; omega
  have hLA := h.la
  have hLB := h.lb
  have hsum := h.sum
  have ht0 := h.t0
  have hl0 := h.l0
  have hsi := h.si
  simp only [List.length_nil] at hsum
  by_cases h_fa : (dInt ds (i * 21 + 1)) < 0
  ·
    refine LRuns.step (code_runsP nkX nkL (runZ_ok nkX nkT nkL mixed 9) mixed (nkn_dbl_fa inr i n c s t lo (ints asL) (ints bs) es ds) ?_) rfl (by omega) (by omega) (fun n => n) ?_ ?_ rfl ((hG _ _ _ _ _ _ _ h.up).2 rfl)
    ·
      simp only [Alls, rg, decide_eq_true_eq, decide_eq_false_iff_not, beq_iff_eq, beq_eq_false_iff_ne, bne_eq_false_iff_eq, adI_eq, Nat.add_zero, ints_len, pks_len, hLA, hLB, ne_eq]
      repeat' (with_reducible apply And.intro)
      all_goals first | omega | (with_reducible assumption) | (with_reducible exact trivial) | (with_reducible rfl) | (skip)
    · exact ⟨rfl, rb_slc rfl hcc, rfl, rfl, rfl, rb_ptr rfl, rfl, rfl, rfl, rfl, rfl, rb_ptr rfl, rfl, rb_ptr rfl, rfl, rfl, trivial⟩
    · exact ⟨nk_mp rfl rfl (rfl), nk_net rfl rfl rfl (rfl), rb_row (n := 3) (m := 3) rfl rfl rfl (rfl) (ints_fl _), rb_row (n := 4) (m := 4) rfl rfl rfl (rfl) (ints_fl _), rb_rec (m := 0) rfl rfl trivial, trivial⟩
  ·
    refine LRuns.step (code_runsP nkX nkL (runZ_ok nkX nkT nkL mixed 9) mixed (nkn_dbl_fb inr i n c s t lo (ints asL) (ints bs) es ds) ?_) rfl (by omega) (by omega) (fun n => n) ?_ ?_ rfl ((hG _ _ _ _ _ _ _ h.up).2 rfl)
    ·
      simp only [Alls, rg, decide_eq_true_eq, decide_eq_false_iff_not, beq_iff_eq, beq_eq_false_iff_ne, bne_eq_false_iff_eq, adI_eq, Nat.add_zero, ints_len, pks_len, hLA, hLB, ne_eq]
      repeat' (with_reducible apply And.intro)
      all_goals first | omega | (with_reducible assumption) | (with_reducible exact trivial) | (with_reducible rfl) | (skip)
    · exact ⟨rfl, rb_slc rfl hcc, rfl, rfl, rfl, rb_ptr rfl, rfl, rfl, rfl, rfl, rfl, rb_ptr rfl, rfl, rb_ptr rfl, rfl, rfl, trivial⟩
    · exact ⟨nk_mp rfl rfl (rfl), nk_net rfl rfl rfl (rfl), rb_row (n := 3) (m := 3) rfl rfl rfl (rfl) (ints_fl _), rb_row (n := 4) (m := 4) rfl rfl rfl (rfl) (ints_fl _), rb_rec (m := 0) rfl rfl trivial, trivial⟩
theorem nkn4 (hG : NkG inr h0 ds n c (i + 1)) (hi : i < n) (hn : n ≤ 60) (hc : c ≤ 9223372036854775807) (hS : ShsA ds n) (h : Nk asL bs es l i s t lo) (hl : l = []) (hk : dInt ds (i * 21) = 4) : NkN inr h0 ds n c asL bs es i s t lo := by
  subst hl
  have hs := hS i hi
  have hcc : c < capBig := by unfold capBig; omega
  have hLA := h.la
  have hLB := h.lb
  have hsum := h.sum
  have ht0 := h.t0
  have hl0 := h.l0
  have hsi := h.si
  simp only [List.length_nil] at hsum
  by_cases h_fa : (dInt ds (i * 21 + 1)) < 0
  ·
    refine LRuns.step (code_runsP nkX nkL (runZ_ok nkX nkT nkL mixed 9) mixed (nkn_mov_fa inr i n c s t lo (ints asL) (ints bs) es ds) ?_) rfl (by omega) (by omega) (fun n => n) ?_ ?_ rfl ((hG _ _ _ _ _ _ _ h.up).2 rfl)
    ·
      simp only [Alls, rg, decide_eq_true_eq, decide_eq_false_iff_not, beq_iff_eq, beq_eq_false_iff_ne, bne_eq_false_iff_eq, adI_eq, Nat.add_zero, ints_len, pks_len, hLA, hLB, ne_eq]
      repeat' (with_reducible apply And.intro)
      all_goals first | omega | (with_reducible assumption) | (with_reducible exact trivial) | (with_reducible rfl) | (skip)
    · exact ⟨rfl, rb_slc rfl hcc, rfl, rfl, rfl, rb_ptr rfl, rfl, rfl, rfl, rfl, rfl, rb_ptr rfl, rfl, rb_ptr rfl, rfl, rfl, trivial⟩
    · exact ⟨nk_mp rfl rfl (rfl), nk_net rfl rfl rfl (rfl), rb_row (n := 3) (m := 3) rfl rfl rfl (rfl) (ints_fl _), rb_row (n := 4) (m := 4) rfl rfl rfl (rfl) (ints_fl _), rb_rec (m := 0) rfl rfl trivial, trivial⟩
  ·
    refine LRuns.step (code_runsP nkX nkL (runZ_ok nkX nkT nkL mixed 9) mixed (nkn_mov_fb inr i n c s t lo (ints asL) (ints bs) es ds) ?_) rfl (by omega) (by omega) (fun n => n) ?_ ?_ rfl ((hG _ _ _ _ _ _ _ h.up).2 rfl)
    ·
      simp only [Alls, rg, decide_eq_true_eq, decide_eq_false_iff_not, beq_iff_eq, beq_eq_false_iff_ne, bne_eq_false_iff_eq, adI_eq, Nat.add_zero, ints_len, pks_len, hLA, hLB, ne_eq]
      repeat' (with_reducible apply And.intro)
      all_goals first | omega | (with_reducible assumption) | (with_reducible exact trivial) | (with_reducible rfl) | (skip)
    · exact ⟨rfl, rb_slc rfl hcc, rfl, rfl, rfl, rb_ptr rfl, rfl, rfl, rfl, rfl, rfl, rb_ptr rfl, rfl, rb_ptr rfl, rfl, rfl, trivial⟩
    · exact ⟨nk_mp rfl rfl (rfl), nk_net rfl rfl rfl (rfl), rb_row (n := 3) (m := 3) rfl rfl rfl (rfl) (ints_fl _), rb_row (n := 4) (m := 4) rfl rfl rfl (rfl) (ints_fl _), rb_rec (m := 0) rfl rfl trivial, trivial⟩
theorem nkn6 (hG : NkG inr h0 ds n c (i + 1)) (hi : i < n) (hn : n ≤ 60) (hc : c ≤ 9223372036854775807) (hS : ShsA ds n) (h : Nk asL bs es l i s t lo) (hl : l = []) (hk : dInt ds (i * 21) = 6) : NkN inr h0 ds n c asL bs es i s t lo := by
  subst hl
  have hs := hS i hi
  have hcc : c < capBig := by unfold capBig; omega
  have hLA := h.la
  have hLB := h.lb
  have hsum := h.sum
  have ht0 := h.t0
  have hl0 := h.l0
  have hsi := h.si
  simp only [List.length_nil] at hsum
  refine LRuns.step (code_runsP nkX nkL (runZ_ok nkX nkT nkL mixed 9) mixed (nkn_clr inr i n c s t lo (ints asL) (ints bs) es ds) ?_) rfl (by omega) (by omega) (fun n => n) ?_ ?_ rfl ((hG _ _ _ _ _ _ _ h.clear).2 rfl)
  ·
    simp only [Alls, rg, decide_eq_true_eq, decide_eq_false_iff_not, beq_iff_eq, beq_eq_false_iff_ne, bne_eq_false_iff_eq, adI_eq, Nat.add_zero, ints_len, pks_len, hLA, hLB, ne_eq]
    repeat' (with_reducible apply And.intro)
    all_goals first | omega | (with_reducible assumption) | (with_reducible exact trivial) | (with_reducible rfl) | (skip)
  · exact ⟨rfl, rb_slc rfl hcc, rfl, rfl, rfl, rb_ptr rfl, rfl, rfl, rfl, rfl, rfl, rb_ptr rfl, rfl, rb_ptr rfl, rfl, rfl, trivial⟩
  · exact ⟨nk_mp rfl rfl (rfl), nk_net rfl rfl rfl (rfl), rb_row (n := 3) (m := 3) rfl rfl rfl (rfl) (ints_fl _), rb_row (n := 4) (m := 4) rfl rfl rfl (rfl) (ints_fl _), rb_rec (m := 0) rfl rfl trivial, trivial⟩
theorem nkn7 (hG : NkG inr h0 ds n c (i + 1)) (hi : i < n) (hn : n ≤ 60) (hc : c ≤ 9223372036854775807) (hS : ShsA ds n) (h : Nk asL bs es l i s t lo) (hl : l = []) (hk0 : dInt ds (i * 21) ≠ 0) (hk1 : dInt ds (i * 21) ≠ 1) (hk2 : dInt ds (i * 21) ≠ 2) (hk3 : dInt ds (i * 21) ≠ 3) (hk4 : dInt ds (i * 21) ≠ 4) (hk5 : dInt ds (i * 21) ≠ 5) (hk6 : dInt ds (i * 21) ≠ 6) : NkN inr h0 ds n c asL bs es i s t lo := by
  subst hl
  have hs := hS i hi
  have hcc : c < capBig := by unfold capBig; omega
  have hLA := h.la
  have hLB := h.lb
  have hsum := h.sum
  have ht0 := h.t0
  have hl0 := h.l0
  have hsi := h.si
  simp only [List.length_nil] at hsum
  refine LRuns.step (code_runsP nkX nkL (runZ_ok nkX nkT nkL mixed 9) mixed (nkn_oth inr i n c s t lo (ints asL) (ints bs) es ds) ?_) rfl (by omega) (by omega) (fun n => n) ?_ ?_ rfl ((hG _ _ _ _ _ _ _ h.up).2 rfl)
  ·
    simp only [Alls, rg, decide_eq_true_eq, decide_eq_false_iff_not, beq_iff_eq, beq_eq_false_iff_ne, bne_eq_false_iff_eq, adI_eq, Nat.add_zero, ints_len, pks_len, hLA, hLB, ne_eq]
    repeat' (with_reducible apply And.intro)
    all_goals first | omega | (with_reducible assumption) | (with_reducible exact trivial) | (with_reducible rfl) | (skip)
  · exact ⟨rfl, rb_slc rfl hcc, rfl, rfl, rfl, rb_ptr rfl, rfl, rfl, rfl, rfl, rfl, rb_ptr rfl, rfl, rb_ptr rfl, rfl, rfl, trivial⟩
  · exact ⟨nk_mp rfl rfl (rfl), nk_net rfl rfl rfl (rfl), rb_row (n := 3) (m := 3) rfl rfl rfl (rfl) (ints_fl _), rb_row (n := 4) (m := 4) rfl rfl rfl (rfl) (ints_fl _), rb_rec (m := 0) rfl rfl trivial, trivial⟩
theorem nkr0 (hG : NkG inr h0 ds n c (i + 1)) (hi : i < n) (hn : n ≤ 60) (hc : c ≤ 9223372036854775807) (hS : ShsA ds n) (h : Nk asL bs es l i s t lo) (hk : dInt ds (i * 21) = 0) : NkR inr h0 ds n c asL bs es l i s t lo := by
  have hs := hS i hi
  have hcc : c < capBig := by unfold capBig; omega
  have hLA := h.la
  have hLB := h.lb
  have hsum := h.sum
  have ht0 := h.t0
  have hl0 := h.l0
  have hsi := h.si
  by_cases h_fa : (dInt ds (i * 21 + 1)) < 0
  ·
    refine LRuns.step (code_runsP nkX nkL (runZ_ok nkX nkT nkL mixed 9) mixed (nkr_snd_fa inr i n c l.length s t lo (ints asL) (ints bs) (pks l) es ds) ?_) rfl (by omega) (by omega) (fun n => n) ?_ ?_ rfl ((hG _ _ _ _ _ _ _ h.up).1)
    ·
      simp only [Alls, rg, decide_eq_true_eq, decide_eq_false_iff_not, beq_iff_eq, beq_eq_false_iff_ne, bne_eq_false_iff_eq, adI_eq, Nat.add_zero, ints_len, pks_len, hLA, hLB, ne_eq]
      repeat' (with_reducible apply And.intro)
      all_goals first | omega | (with_reducible assumption) | (with_reducible exact trivial) | (with_reducible rfl) | (skip)
    · exact ⟨rfl, rb_slc rfl hcc, rfl, rfl, rfl, rb_ptr rfl, rfl, rfl, rfl, rfl, rfl, rb_ptr rfl, rfl, rb_ptr rfl, rfl, rfl, trivial⟩
    · exact ⟨nk_mp rfl rfl (rfl), nk_net rfl rfl rfl (rb_slg rfl rfl), rb_row (n := 3) (m := 3) rfl rfl rfl (rfl) (ints_fl _), rb_row (n := 4) (m := 4) rfl rfl rfl (rfl) (ints_fl _), ls_row (n := 80) (m := 80) rfl rfl (rfl) (pks_fl _), rb_rec (m := 0) rfl rfl trivial, trivial⟩
  by_cases h_fb : ¬ (dInt ds (i * 21 + 1)) < 4
  ·
    refine LRuns.step (code_runsP nkX nkL (runZ_ok nkX nkT nkL mixed 9) mixed (nkr_snd_fb inr i n c l.length s t lo (ints asL) (ints bs) (pks l) es ds) ?_) rfl (by omega) (by omega) (fun n => n) ?_ ?_ rfl ((hG _ _ _ _ _ _ _ h.up).1)
    ·
      simp only [Alls, rg, decide_eq_true_eq, decide_eq_false_iff_not, beq_iff_eq, beq_eq_false_iff_ne, bne_eq_false_iff_eq, adI_eq, Nat.add_zero, ints_len, pks_len, hLA, hLB, ne_eq]
      repeat' (with_reducible apply And.intro)
      all_goals first | omega | (with_reducible assumption) | (with_reducible exact trivial) | (with_reducible rfl) | (skip)
    · exact ⟨rfl, rb_slc rfl hcc, rfl, rfl, rfl, rb_ptr rfl, rfl, rfl, rfl, rfl, rfl, rb_ptr rfl, rfl, rb_ptr rfl, rfl, rfl, trivial⟩
    · exact ⟨nk_mp rfl rfl (rfl), nk_net rfl rfl rfl (rb_slg rfl rfl), rb_row (n := 3) (m := 3) rfl rfl rfl (rfl) (ints_fl _), rb_row (n := 4) (m := 4) rfl rfl rfl (rfl) (ints_fl _), ls_row (n := 80) (m := 80) rfl rfl (rfl) (pks_fl _), rb_rec (m := 0) rfl rfl trivial, trivial⟩
  by_cases h_fc : (dInt ds (i * 21 + 2)) < 0
  ·
    refine LRuns.step (code_runsP nkX nkL (runZ_ok nkX nkT nkL mixed 9) mixed (nkr_snd_fc inr i n c l.length s t lo (ints asL) (ints bs) (pks l) es ds) ?_) rfl (by omega) (by omega) (fun n => n) ?_ ?_ rfl ((hG _ _ _ _ _ _ _ h.up).1)
    ·
      simp only [Alls, rg, decide_eq_true_eq, decide_eq_false_iff_not, beq_iff_eq, beq_eq_false_iff_ne, bne_eq_false_iff_eq, adI_eq, Nat.add_zero, ints_len, pks_len, hLA, hLB, ne_eq]
      repeat' (with_reducible apply And.intro)
      all_goals first | omega | (with_reducible assumption) | (with_reducible exact trivial) | (with_reducible rfl) | (skip)
    · exact ⟨rfl, rb_slc rfl hcc, rfl, rfl, rfl, rb_ptr rfl, rfl, rfl, rfl, rfl, rfl, rb_ptr rfl, rfl, rb_ptr rfl, rfl, rfl, trivial⟩
    · exact ⟨nk_mp rfl rfl (rfl), nk_net rfl rfl rfl (rb_slg rfl rfl), rb_row (n := 3) (m := 3) rfl rfl rfl (rfl) (ints_fl _), rb_row (n := 4) (m := 4) rfl rfl rfl (rfl) (ints_fl _), ls_row (n := 80) (m := 80) rfl rfl (rfl) (pks_fl _), rb_rec (m := 0) rfl rfl trivial, trivial⟩
  by_cases h_fd : ¬ (dInt ds (i * 21 + 2)) < 4
  ·
    refine LRuns.step (code_runsP nkX nkL (runZ_ok nkX nkT nkL mixed 9) mixed (nkr_snd_fd inr i n c l.length s t lo (ints asL) (ints bs) (pks l) es ds) ?_) rfl (by omega) (by omega) (fun n => n) ?_ ?_ rfl ((hG _ _ _ _ _ _ _ h.up).1)
    ·
      simp only [Alls, rg, decide_eq_true_eq, decide_eq_false_iff_not, beq_iff_eq, beq_eq_false_iff_ne, bne_eq_false_iff_eq, adI_eq, Nat.add_zero, ints_len, pks_len, hLA, hLB, ne_eq]
      repeat' (with_reducible apply And.intro)
      all_goals first | omega | (with_reducible assumption) | (with_reducible exact trivial) | (with_reducible rfl) | (skip)
    · exact ⟨rfl, rb_slc rfl hcc, rfl, rfl, rfl, rb_ptr rfl, rfl, rfl, rfl, rfl, rfl, rb_ptr rfl, rfl, rb_ptr rfl, rfl, rfl, trivial⟩
    · exact ⟨nk_mp rfl rfl (rfl), nk_net rfl rfl rfl (rb_slg rfl rfl), rb_row (n := 3) (m := 3) rfl rfl rfl (rfl) (ints_fl _), rb_row (n := 4) (m := 4) rfl rfl rfl (rfl) (ints_fl _), ls_row (n := 80) (m := 80) rfl rfl (rfl) (pks_fl _), rb_rec (m := 0) rfl rfl trivial, trivial⟩
  have hi6 : i < 64 := by omega
  cases hb : bE (lkK (dInt ds (i * 21 + 1)) (dInt ds (i * 21 + 2))) es with
  | true =>
    refine LRuns.step (code_runsP nkX nkL (runZ_ok nkX nkT nkL mixed 9) mixed (nkr_snd_cut inr i n c l.length s t lo (ints asL) (ints bs) (pks l) es ds) ?_) rfl (by omega) (by omega) (fun n => n) ?_ ?_ rfl ((hG _ _ _ _ _ _ _ (h.cut hi6 (dInt ds (i * 21 + 1)) (dInt ds (i * 21 + 2)))).1)
    ·
      simp only [Alls, rg, decide_eq_true_eq, decide_eq_false_iff_not, beq_iff_eq, beq_eq_false_iff_ne, bne_eq_false_iff_eq, adI_eq, Nat.add_zero, ints_len, pks_len, hLA, hLB, ne_eq]
      repeat' (with_reducible apply And.intro)
      all_goals first | omega | (with_reducible assumption) | (with_reducible exact trivial) | (with_reducible rfl) | (first | exact keysOk h.he _ _ | exact boolsOk h.he | exact hb | exact rfl)
    · exact ⟨rfl, rb_slc rfl hcc, rfl, rfl, rfl, rb_ptr rfl, rfl, rfl, rfl, rfl, rfl, rb_ptr rfl, rfl, rb_ptr rfl, rfl, rfl, trivial⟩
    · exact ⟨nk_mp rfl rfl (rfl), nk_net rfl rfl rfl (rb_slg rfl rfl), rb_row (n := 3) (m := 3) rfl rfl rfl (ints_set _ _ _) (ints_fl _), rb_row (n := 4) (m := 4) rfl rfl rfl (ints_set _ _ _) (ints_fl _), ls_row (n := 80) (m := 80) rfl rfl (rfl) (pks_fl _), rb_rec (m := 0) rfl rfl trivial, trivial⟩
  | false =>
    refine LRuns.step (code_runsP nkX nkL (runZ_ok nkX nkT nkL mixed 9) mixed (nkr_snd_put inr i n c l.length s t lo (ints asL) (ints bs) (pks l) es ds) ?_) rfl (by omega) (by omega) (fun _ => 90) ?_ ?_ rfl ((hG _ _ _ _ _ _ _ (h.put hi6 (dInt ds (i * 21 + 1)) (dInt ds (i * 21 + 2)))).1)
    ·
      simp only [Alls, rg, decide_eq_true_eq, decide_eq_false_iff_not, beq_iff_eq, beq_eq_false_iff_ne, bne_eq_false_iff_eq, adI_eq, Nat.add_zero, ints_len, pks_len, hLA, hLB, ne_eq]
      repeat' (with_reducible apply And.intro)
      all_goals first | omega | (with_reducible assumption) | (with_reducible exact trivial) | (with_reducible rfl) | (first | exact keysOk h.he _ _ | exact boolsOk h.he | exact hb | exact rfl)
    · exact ⟨rfl, rb_slc rfl hcc, rfl, rfl, rfl, rb_ptr rfl, rfl, rfl, rfl, rfl, rfl, rb_ptr rfl, rfl, rb_ptr rfl, rfl, rfl, trivial⟩
    · exact ⟨nk_mp rfl rfl (rfl), nk_net rfl rfl rfl (by rw [List.length_append]; exact rb_slg rfl rfl), rb_row (n := 3) (m := 3) rfl rfl rfl (ints_set _ _ _) (ints_fl _), rb_row (n := 4) (m := 4) rfl rfl rfl (ints_set _ _ _) (ints_fl _), ls_row (n := 80) (m := 90) rfl rfl (pks_snoc l ((i : Int), (dInt ds (i * 21 + 1)), (dInt ds (i * 21 + 2)))) (pks_fl _), rb_rec (m := 0) rfl rfl trivial, trivial⟩
theorem nkr5 (hG : NkG inr h0 ds n c (i + 1)) (hi : i < n) (hn : n ≤ 60) (hc : c ≤ 9223372036854775807) (hS : ShsA ds n) (h : Nk asL bs es l i s t lo) (hk : dInt ds (i * 21) = 5) : NkR inr h0 ds n c asL bs es l i s t lo := by
  have hs := hS i hi
  have hcc : c < capBig := by unfold capBig; omega
  have hLA := h.la
  have hLB := h.lb
  have hsum := h.sum
  have ht0 := h.t0
  have hl0 := h.l0
  have hsi := h.si
  by_cases h_fa : (dInt ds (i * 21 + 1)) < 0
  ·
    refine LRuns.step (code_runsP nkX nkL (runZ_ok nkX nkT nkL mixed 9) mixed (nkr_cut_fa inr i n c l.length s t lo (ints asL) (ints bs) (pks l) es ds) ?_) rfl (by omega) (by omega) (fun n => n) ?_ ?_ rfl ((hG _ _ _ _ _ _ _ h.up).1)
    ·
      simp only [Alls, rg, decide_eq_true_eq, decide_eq_false_iff_not, beq_iff_eq, beq_eq_false_iff_ne, bne_eq_false_iff_eq, adI_eq, Nat.add_zero, ints_len, pks_len, hLA, hLB, ne_eq]
      repeat' (with_reducible apply And.intro)
      all_goals first | omega | (with_reducible assumption) | (with_reducible exact trivial) | (with_reducible rfl) | (skip)
    · exact ⟨rfl, rb_slc rfl hcc, rfl, rfl, rfl, rb_ptr rfl, rfl, rfl, rfl, rfl, rfl, rb_ptr rfl, rfl, rb_ptr rfl, rfl, rfl, trivial⟩
    · exact ⟨nk_mp rfl rfl (rfl), nk_net rfl rfl rfl (rb_slg rfl rfl), rb_row (n := 3) (m := 3) rfl rfl rfl (rfl) (ints_fl _), rb_row (n := 4) (m := 4) rfl rfl rfl (rfl) (ints_fl _), ls_row (n := 80) (m := 80) rfl rfl (rfl) (pks_fl _), rb_rec (m := 0) rfl rfl trivial, trivial⟩
  by_cases h_fb : ¬ (dInt ds (i * 21 + 1)) < 4
  ·
    refine LRuns.step (code_runsP nkX nkL (runZ_ok nkX nkT nkL mixed 9) mixed (nkr_cut_fb inr i n c l.length s t lo (ints asL) (ints bs) (pks l) es ds) ?_) rfl (by omega) (by omega) (fun n => n) ?_ ?_ rfl ((hG _ _ _ _ _ _ _ h.up).1)
    ·
      simp only [Alls, rg, decide_eq_true_eq, decide_eq_false_iff_not, beq_iff_eq, beq_eq_false_iff_ne, bne_eq_false_iff_eq, adI_eq, Nat.add_zero, ints_len, pks_len, hLA, hLB, ne_eq]
      repeat' (with_reducible apply And.intro)
      all_goals first | omega | (with_reducible assumption) | (with_reducible exact trivial) | (with_reducible rfl) | (skip)
    · exact ⟨rfl, rb_slc rfl hcc, rfl, rfl, rfl, rb_ptr rfl, rfl, rfl, rfl, rfl, rfl, rb_ptr rfl, rfl, rb_ptr rfl, rfl, rfl, trivial⟩
    · exact ⟨nk_mp rfl rfl (rfl), nk_net rfl rfl rfl (rb_slg rfl rfl), rb_row (n := 3) (m := 3) rfl rfl rfl (rfl) (ints_fl _), rb_row (n := 4) (m := 4) rfl rfl rfl (rfl) (ints_fl _), ls_row (n := 80) (m := 80) rfl rfl (rfl) (pks_fl _), rb_rec (m := 0) rfl rfl trivial, trivial⟩
  by_cases h_fc : (dInt ds (i * 21 + 2)) < 0
  ·
    refine LRuns.step (code_runsP nkX nkL (runZ_ok nkX nkT nkL mixed 9) mixed (nkr_cut_fc inr i n c l.length s t lo (ints asL) (ints bs) (pks l) es ds) ?_) rfl (by omega) (by omega) (fun n => n) ?_ ?_ rfl ((hG _ _ _ _ _ _ _ h.up).1)
    ·
      simp only [Alls, rg, decide_eq_true_eq, decide_eq_false_iff_not, beq_iff_eq, beq_eq_false_iff_ne, bne_eq_false_iff_eq, adI_eq, Nat.add_zero, ints_len, pks_len, hLA, hLB, ne_eq]
      repeat' (with_reducible apply And.intro)
      all_goals first | omega | (with_reducible assumption) | (with_reducible exact trivial) | (with_reducible rfl) | (skip)
    · exact ⟨rfl, rb_slc rfl hcc, rfl, rfl, rfl, rb_ptr rfl, rfl, rfl, rfl, rfl, rfl, rb_ptr rfl, rfl, rb_ptr rfl, rfl, rfl, trivial⟩
    · exact ⟨nk_mp rfl rfl (rfl), nk_net rfl rfl rfl (rb_slg rfl rfl), rb_row (n := 3) (m := 3) rfl rfl rfl (rfl) (ints_fl _), rb_row (n := 4) (m := 4) rfl rfl rfl (rfl) (ints_fl _), ls_row (n := 80) (m := 80) rfl rfl (rfl) (pks_fl _), rb_rec (m := 0) rfl rfl trivial, trivial⟩
  by_cases h_fd : ¬ (dInt ds (i * 21 + 2)) < 4
  ·
    refine LRuns.step (code_runsP nkX nkL (runZ_ok nkX nkT nkL mixed 9) mixed (nkr_cut_fd inr i n c l.length s t lo (ints asL) (ints bs) (pks l) es ds) ?_) rfl (by omega) (by omega) (fun n => n) ?_ ?_ rfl ((hG _ _ _ _ _ _ _ h.up).1)
    ·
      simp only [Alls, rg, decide_eq_true_eq, decide_eq_false_iff_not, beq_iff_eq, beq_eq_false_iff_ne, bne_eq_false_iff_eq, adI_eq, Nat.add_zero, ints_len, pks_len, hLA, hLB, ne_eq]
      repeat' (with_reducible apply And.intro)
      all_goals first | omega | (with_reducible assumption) | (with_reducible exact trivial) | (with_reducible rfl) | (skip)
    · exact ⟨rfl, rb_slc rfl hcc, rfl, rfl, rfl, rb_ptr rfl, rfl, rfl, rfl, rfl, rfl, rb_ptr rfl, rfl, rb_ptr rfl, rfl, rfl, trivial⟩
    · exact ⟨nk_mp rfl rfl (rfl), nk_net rfl rfl rfl (rb_slg rfl rfl), rb_row (n := 3) (m := 3) rfl rfl rfl (rfl) (ints_fl _), rb_row (n := 4) (m := 4) rfl rfl rfl (rfl) (ints_fl _), ls_row (n := 80) (m := 80) rfl rfl (rfl) (pks_fl _), rb_rec (m := 0) rfl rfl trivial, trivial⟩
  refine LRuns.step (code_runsP nkX nkL (runZ_ok nkX nkT nkL mixed 9) mixed (nkr_cut_ok inr i n c l.length s t lo (ints asL) (ints bs) (pks l) es ds) ?_) rfl (by omega) (by omega) (fun n => n) ?_ ?_ rfl ((hG _ _ _ _ _ _ _ (h.link (dInt ds (i * 21 + 1)) (dInt ds (i * 21 + 2)) (dBool ds (i * 21 + 3)))).1)
  ·
    simp only [Alls, rg, decide_eq_true_eq, decide_eq_false_iff_not, beq_iff_eq, beq_eq_false_iff_ne, bne_eq_false_iff_eq, adI_eq, Nat.add_zero, ints_len, pks_len, hLA, hLB, ne_eq]
    repeat' (with_reducible apply And.intro)
    all_goals first | omega | (with_reducible assumption) | (with_reducible exact trivial) | (with_reducible rfl) | (first | exact keysOk h.he _ _ | exact boolsOk h.he | exact rfl)
  · exact ⟨rfl, rb_slc rfl hcc, rfl, rfl, rfl, rb_ptr rfl, rfl, rfl, rfl, rfl, rfl, rb_ptr rfl, rfl, rb_ptr rfl, rfl, rfl, trivial⟩
  · exact ⟨nk_mp rfl rfl (rfl), nk_net rfl rfl rfl (rb_slg rfl rfl), rb_row (n := 3) (m := 3) rfl rfl rfl (rfl) (ints_fl _), rb_row (n := 4) (m := 4) rfl rfl rfl (rfl) (ints_fl _), ls_row (n := 80) (m := 80) rfl rfl (rfl) (pks_fl _), rb_rec (m := 0) rfl rfl trivial, trivial⟩
theorem nkr1 (hG : NkG inr h0 ds n c (i + 1)) (hi : i < n) (hn : n ≤ 60) (hc : c ≤ 9223372036854775807) (hS : ShsA ds n) (h : Nk asL bs es l i s t lo) (hk : dInt ds (i * 21) = 1) : NkR inr h0 ds n c asL bs es l i s t lo := by
  have hs := hS i hi
  have hcc : c < capBig := by unfold capBig; omega
  have hLA := h.la
  have hLB := h.lb
  have hsum := h.sum
  have ht0 := h.t0
  have hl0 := h.l0
  have hsi := h.si
  by_cases h_fa : (dInt ds (i * 21 + 1)) < 0
  ·
    refine LRuns.step (code_runsP nkX nkL (runZ_ok nkX nkT nkL mixed 9) mixed (nkr_tak_fa inr i n c l.length s t lo (ints asL) (ints bs) (pks l) es ds) ?_) rfl (by omega) (by omega) (fun n => n) ?_ ?_ rfl ((hG _ _ _ _ _ _ _ h.up).1)
    ·
      simp only [Alls, rg, decide_eq_true_eq, decide_eq_false_iff_not, beq_iff_eq, beq_eq_false_iff_ne, bne_eq_false_iff_eq, adI_eq, Nat.add_zero, ints_len, pks_len, hLA, hLB, ne_eq]
      repeat' (with_reducible apply And.intro)
      all_goals first | omega | (with_reducible assumption) | (with_reducible exact trivial) | (with_reducible rfl) | (skip)
    · exact ⟨rfl, rb_slc rfl hcc, rfl, rfl, rfl, rb_ptr rfl, rfl, rfl, rfl, rfl, rfl, rb_ptr rfl, rfl, rb_ptr rfl, rfl, rfl, trivial⟩
    · exact ⟨nk_mp rfl rfl (rfl), nk_net rfl rfl rfl (rb_slg rfl rfl), rb_row (n := 3) (m := 3) rfl rfl rfl (rfl) (ints_fl _), rb_row (n := 4) (m := 4) rfl rfl rfl (rfl) (ints_fl _), ls_row (n := 80) (m := 80) rfl rfl (rfl) (pks_fl _), rb_rec (m := 0) rfl rfl trivial, trivial⟩
  by_cases h_fb : ¬ (dInt ds (i * 21 + 1)) < (l.length : Int)
  ·
    refine LRuns.step (code_runsP nkX nkL (runZ_ok nkX nkT nkL mixed 9) mixed (nkr_tak_fb inr i n c l.length s t lo (ints asL) (ints bs) (pks l) es ds) ?_) rfl (by omega) (by omega) (fun n => n) ?_ ?_ rfl ((hG _ _ _ _ _ _ _ h.up).1)
    ·
      simp only [Alls, rg, decide_eq_true_eq, decide_eq_false_iff_not, beq_iff_eq, beq_eq_false_iff_ne, bne_eq_false_iff_eq, adI_eq, Nat.add_zero, ints_len, pks_len, hLA, hLB, ne_eq]
      repeat' (with_reducible apply And.intro)
      all_goals first | omega | (with_reducible assumption) | (with_reducible exact trivial) | (with_reducible rfl) | (skip)
    · exact ⟨rfl, rb_slc rfl hcc, rfl, rfl, rfl, rb_ptr rfl, rfl, rfl, rfl, rfl, rfl, rb_ptr rfl, rfl, rb_ptr rfl, rfl, rfl, trivial⟩
    · exact ⟨nk_mp rfl rfl (rfl), nk_net rfl rfl rfl (rb_slg rfl rfl), rb_row (n := 3) (m := 3) rfl rfl rfl (rfl) (ints_fl _), rb_row (n := 4) (m := 4) rfl rfl rfl (rfl) (ints_fl _), ls_row (n := 80) (m := 80) rfl rfl (rfl) (pks_fl _), rb_rec (m := 0) rfl rfl trivial, trivial⟩
  have hj : (dInt ds (i * 21 + 1)).toNat < l.length := by omega
  have hdl := del_len hj
  have hpf := pks_fl l
  have hp1 := pks_one l
  have hll := ldl_take hj
  obtain ⟨g7, g0, g1⟩ := pks_op hj
  obtain ⟨q1, q2, q3, q4⟩ := h.hq _ (pq_mem hj)
  have k7 : intAt (pks l) ((dInt ds (i * 21 + 1)).toNat * 19 + 1 + 1 + 1 + 1 + 1 + 1 + 1) = (pq l (dInt ds (i * 21 + 1)).toNat).1 := by simp only [Nat.add_assoc, Nat.reduceAdd]; unfold intAt; rw [g7]
  have k0 : intAt (pks l) ((dInt ds (i * 21 + 1)).toNat * 19) = (pq l (dInt ds (i * 21 + 1)).toNat).2.1 := by unfold intAt; rw [g0]
  have k1 : intAt (pks l) ((dInt ds (i * 21 + 1)).toNat * 19 + 1) = (pq l (dInt ds (i * 21 + 1)).toNat).2.2 := by unfold intAt; rw [g1]
  have f3 : (ints asL)[(intAt (pks l) ((dInt ds (i * 21 + 1)).toNat * 19 + 1 + 1 + 1 + 1 + 1 + 1 + 1)).toNat]? = some (.int .i64 (intAt (ints asL) (intAt (pks l) ((dInt ds (i * 21 + 1)).toNat * 19 + 1 + 1 + 1 + 1 + 1 + 1 + 1)).toNat)) := by rw [k7, (ints_at q3).2]; exact (ints_at q3).1
  have f4 : (ints bs)[(intAt (pks l) ((dInt ds (i * 21 + 1)).toNat * 19 + 1 + 1 + 1 + 1 + 1 + 1 + 1)).toNat]? = some (.int .i64 (intAt (ints bs) (intAt (pks l) ((dInt ds (i * 21 + 1)).toNat * 19 + 1 + 1 + 1 + 1 + 1 + 1 + 1)).toNat)) := by rw [k7, (ints_at q4).2]; exact (ints_at q4).1
  have f5 : intAt (pks l) ((dInt ds (i * 21 + 1)).toNat * 19) = intAt (ints asL) (intAt (pks l) ((dInt ds (i * 21 + 1)).toNat * 19 + 1 + 1 + 1 + 1 + 1 + 1 + 1)).toNat := by rw [k7, (ints_at q3).2, k0]
  have f6 : intAt (pks l) ((dInt ds (i * 21 + 1)).toNat * 19 + 1) = intAt (ints bs) (intAt (pks l) ((dInt ds (i * 21 + 1)).toNat * 19 + 1 + 1 + 1 + 1 + 1 + 1 + 1)).toNat := by rw [k7, (ints_at q4).2, k1]
  refine LRuns.step (code_runsP nkX nkL (runZ_ok nkX nkT nkL mixed 9) mixed (nkr_tak_ok inr i n c l.length s t lo (ints asL) (ints bs) (pks l) es ds) ?_) rfl (by omega) (by omega) (fun _ => 86) ?_ ?_ rfl ((hG _ _ _ _ _ _ _ (h.take hj)).1)
  ·
    simp only [Alls, rg, decide_eq_true_eq, decide_eq_false_iff_not, beq_iff_eq, beq_eq_false_iff_ne, bne_eq_false_iff_eq, adI_eq, Nat.add_zero, ints_len, pks_len, hLA, hLB, ne_eq]
    repeat' (with_reducible apply And.intro)
    all_goals first | omega | (with_reducible assumption) | (with_reducible exact trivial) | (with_reducible rfl) | (first | exact hll | exact rfl)
  · exact ⟨rfl, rb_slc rfl hcc, rfl, rfl, rfl, rb_ptr rfl, rfl, rfl, rfl, rfl, rfl, rb_ptr rfl, rfl, rb_ptr rfl, rfl, rfl, trivial⟩
  · exact ⟨nk_mp rfl rfl (rfl), nk_net rfl rfl rfl (by rw [hdl]; exact rb_slg rfl rfl), rb_row (n := 3) (m := 3) rfl rfl rfl (rfl) (ints_fl _), rb_row (n := 4) (m := 4) rfl rfl rfl (rfl) (ints_fl _), ls_row (n := 80) (m := 86) rfl rfl (pks_del' l _) (pks_fl _), rb_rec (m := 0) rfl rfl trivial, trivial⟩
theorem nkr2 (hG : NkG inr h0 ds n c (i + 1)) (hi : i < n) (hn : n ≤ 60) (hc : c ≤ 9223372036854775807) (hS : ShsA ds n) (h : Nk asL bs es l i s t lo) (hk : dInt ds (i * 21) = 2) : NkR inr h0 ds n c asL bs es l i s t lo := by
  have hs := hS i hi
  have hcc : c < capBig := by unfold capBig; omega
  have hLA := h.la
  have hLB := h.lb
  have hsum := h.sum
  have ht0 := h.t0
  have hl0 := h.l0
  have hsi := h.si
  by_cases h_fa : (dInt ds (i * 21 + 1)) < 0
  ·
    refine LRuns.step (code_runsP nkX nkL (runZ_ok nkX nkT nkL mixed 9) mixed (nkr_drp_fa inr i n c l.length s t lo (ints asL) (ints bs) (pks l) es ds) ?_) rfl (by omega) (by omega) (fun n => n) ?_ ?_ rfl ((hG _ _ _ _ _ _ _ h.up).1)
    ·
      simp only [Alls, rg, decide_eq_true_eq, decide_eq_false_iff_not, beq_iff_eq, beq_eq_false_iff_ne, bne_eq_false_iff_eq, adI_eq, Nat.add_zero, ints_len, pks_len, hLA, hLB, ne_eq]
      repeat' (with_reducible apply And.intro)
      all_goals first | omega | (with_reducible assumption) | (with_reducible exact trivial) | (with_reducible rfl) | (skip)
    · exact ⟨rfl, rb_slc rfl hcc, rfl, rfl, rfl, rb_ptr rfl, rfl, rfl, rfl, rfl, rfl, rb_ptr rfl, rfl, rb_ptr rfl, rfl, rfl, trivial⟩
    · exact ⟨nk_mp rfl rfl (rfl), nk_net rfl rfl rfl (rb_slg rfl rfl), rb_row (n := 3) (m := 3) rfl rfl rfl (rfl) (ints_fl _), rb_row (n := 4) (m := 4) rfl rfl rfl (rfl) (ints_fl _), ls_row (n := 80) (m := 80) rfl rfl (rfl) (pks_fl _), rb_rec (m := 0) rfl rfl trivial, trivial⟩
  by_cases h_fb : ¬ (dInt ds (i * 21 + 1)) < (l.length : Int)
  ·
    refine LRuns.step (code_runsP nkX nkL (runZ_ok nkX nkT nkL mixed 9) mixed (nkr_drp_fb inr i n c l.length s t lo (ints asL) (ints bs) (pks l) es ds) ?_) rfl (by omega) (by omega) (fun n => n) ?_ ?_ rfl ((hG _ _ _ _ _ _ _ h.up).1)
    ·
      simp only [Alls, rg, decide_eq_true_eq, decide_eq_false_iff_not, beq_iff_eq, beq_eq_false_iff_ne, bne_eq_false_iff_eq, adI_eq, Nat.add_zero, ints_len, pks_len, hLA, hLB, ne_eq]
      repeat' (with_reducible apply And.intro)
      all_goals first | omega | (with_reducible assumption) | (with_reducible exact trivial) | (with_reducible rfl) | (skip)
    · exact ⟨rfl, rb_slc rfl hcc, rfl, rfl, rfl, rb_ptr rfl, rfl, rfl, rfl, rfl, rfl, rb_ptr rfl, rfl, rb_ptr rfl, rfl, rfl, trivial⟩
    · exact ⟨nk_mp rfl rfl (rfl), nk_net rfl rfl rfl (rb_slg rfl rfl), rb_row (n := 3) (m := 3) rfl rfl rfl (rfl) (ints_fl _), rb_row (n := 4) (m := 4) rfl rfl rfl (rfl) (ints_fl _), ls_row (n := 80) (m := 80) rfl rfl (rfl) (pks_fl _), rb_rec (m := 0) rfl rfl trivial, trivial⟩
  have hj : (dInt ds (i * 21 + 1)).toNat < l.length := by omega
  have hdl := del_len hj
  have hpf := pks_fl l
  have hp1 := pks_one l
  have hll := ldl_take hj
  refine LRuns.step (code_runsP nkX nkL (runZ_ok nkX nkT nkL mixed 9) mixed (nkr_drp_ok inr i n c l.length s t lo (ints asL) (ints bs) (pks l) es ds) ?_) rfl (by omega) (by omega) (fun _ => 86) ?_ ?_ rfl ((hG _ _ _ _ _ _ _ (h.drop hj)).1)
  ·
    simp only [Alls, rg, decide_eq_true_eq, decide_eq_false_iff_not, beq_iff_eq, beq_eq_false_iff_ne, bne_eq_false_iff_eq, adI_eq, Nat.add_zero, ints_len, pks_len, hLA, hLB, ne_eq]
    repeat' (with_reducible apply And.intro)
    all_goals first | omega | (with_reducible assumption) | (with_reducible exact trivial) | (with_reducible rfl) | (first | exact hll | exact rfl)
  · exact ⟨rfl, rb_slc rfl hcc, rfl, rfl, rfl, rb_ptr rfl, rfl, rfl, rfl, rfl, rfl, rb_ptr rfl, rfl, rb_ptr rfl, rfl, rfl, trivial⟩
  · exact ⟨nk_mp rfl rfl (rfl), nk_net rfl rfl rfl (by rw [hdl]; exact rb_slg rfl rfl), rb_row (n := 3) (m := 3) rfl rfl rfl (rfl) (ints_fl _), rb_row (n := 4) (m := 4) rfl rfl rfl (rfl) (ints_fl _), ls_row (n := 80) (m := 86) rfl rfl (pks_del' l _) (pks_fl _), rb_rec (m := 0) rfl rfl trivial, trivial⟩
theorem nkr3 (hG : NkG inr h0 ds n c (i + 1)) (hi : i < n) (hn : n ≤ 60) (hc : c ≤ 9223372036854775807) (hS : ShsA ds n) (h : Nk asL bs es l i s t lo) (hk : dInt ds (i * 21) = 3) : NkR inr h0 ds n c asL bs es l i s t lo := by
  have hs := hS i hi
  have hcc : c < capBig := by unfold capBig; omega
  have hLA := h.la
  have hLB := h.lb
  have hsum := h.sum
  have ht0 := h.t0
  have hl0 := h.l0
  have hsi := h.si
  by_cases h_fa : (dInt ds (i * 21 + 1)) < 0
  ·
    refine LRuns.step (code_runsP nkX nkL (runZ_ok nkX nkT nkL mixed 9) mixed (nkr_dbl_fa inr i n c l.length s t lo (ints asL) (ints bs) (pks l) es ds) ?_) rfl (by omega) (by omega) (fun n => n) ?_ ?_ rfl ((hG _ _ _ _ _ _ _ h.up).1)
    ·
      simp only [Alls, rg, decide_eq_true_eq, decide_eq_false_iff_not, beq_iff_eq, beq_eq_false_iff_ne, bne_eq_false_iff_eq, adI_eq, Nat.add_zero, ints_len, pks_len, hLA, hLB, ne_eq]
      repeat' (with_reducible apply And.intro)
      all_goals first | omega | (with_reducible assumption) | (with_reducible exact trivial) | (with_reducible rfl) | (skip)
    · exact ⟨rfl, rb_slc rfl hcc, rfl, rfl, rfl, rb_ptr rfl, rfl, rfl, rfl, rfl, rfl, rb_ptr rfl, rfl, rb_ptr rfl, rfl, rfl, trivial⟩
    · exact ⟨nk_mp rfl rfl (rfl), nk_net rfl rfl rfl (rb_slg rfl rfl), rb_row (n := 3) (m := 3) rfl rfl rfl (rfl) (ints_fl _), rb_row (n := 4) (m := 4) rfl rfl rfl (rfl) (ints_fl _), ls_row (n := 80) (m := 80) rfl rfl (rfl) (pks_fl _), rb_rec (m := 0) rfl rfl trivial, trivial⟩
  by_cases h_fb : ¬ (dInt ds (i * 21 + 1)) < (l.length : Int)
  ·
    refine LRuns.step (code_runsP nkX nkL (runZ_ok nkX nkT nkL mixed 9) mixed (nkr_dbl_fb inr i n c l.length s t lo (ints asL) (ints bs) (pks l) es ds) ?_) rfl (by omega) (by omega) (fun n => n) ?_ ?_ rfl ((hG _ _ _ _ _ _ _ h.up).1)
    ·
      simp only [Alls, rg, decide_eq_true_eq, decide_eq_false_iff_not, beq_iff_eq, beq_eq_false_iff_ne, bne_eq_false_iff_eq, adI_eq, Nat.add_zero, ints_len, pks_len, hLA, hLB, ne_eq]
      repeat' (with_reducible apply And.intro)
      all_goals first | omega | (with_reducible assumption) | (with_reducible exact trivial) | (with_reducible rfl) | (skip)
    · exact ⟨rfl, rb_slc rfl hcc, rfl, rfl, rfl, rb_ptr rfl, rfl, rfl, rfl, rfl, rfl, rb_ptr rfl, rfl, rb_ptr rfl, rfl, rfl, trivial⟩
    · exact ⟨nk_mp rfl rfl (rfl), nk_net rfl rfl rfl (rb_slg rfl rfl), rb_row (n := 3) (m := 3) rfl rfl rfl (rfl) (ints_fl _), rb_row (n := 4) (m := 4) rfl rfl rfl (rfl) (ints_fl _), ls_row (n := 80) (m := 80) rfl rfl (rfl) (pks_fl _), rb_rec (m := 0) rfl rfl trivial, trivial⟩
  have hj : (dInt ds (i * 21 + 1)).toNat < l.length := by omega
  have hdl := del_len hj
  have hpf := pks_fl l
  have hp1 := pks_one l
  have hll := ldl_take hj
  refine LRuns.step (code_runsP nkX nkL (runZ_ok nkX nkT nkL mixed 9) mixed (nkr_dbl_ok inr i n c l.length s t lo (ints asL) (ints bs) (pks l) es ds) ?_) rfl (by omega) (by omega) (fun _ => 88) ?_ ?_ rfl ((hG _ _ _ _ _ _ _ (h.dbl hj)).1)
  ·
    simp only [Alls, rg, decide_eq_true_eq, decide_eq_false_iff_not, beq_iff_eq, beq_eq_false_iff_ne, bne_eq_false_iff_eq, adI_eq, Nat.add_zero, ints_len, pks_len, hLA, hLB, ne_eq]
    repeat' (with_reducible apply And.intro)
    all_goals first | omega | (with_reducible assumption) | (with_reducible exact trivial) | (with_reducible rfl) | (first | exact hll | exact rfl)
  · exact ⟨rfl, rb_slc rfl hcc, rfl, rfl, rfl, rb_ptr rfl, rfl, rfl, rfl, rfl, rfl, rb_ptr rfl, rfl, rb_ptr rfl, rfl, rfl, trivial⟩
  · exact ⟨nk_mp rfl rfl (rfl), nk_net rfl rfl rfl (by rw [List.length_append]; exact rb_slg rfl rfl), rb_row (n := 3) (m := 3) rfl rfl rfl (rfl) (ints_fl _), rb_row (n := 4) (m := 4) rfl rfl rfl (rfl) (ints_fl _), ls_row (n := 80) (m := 88) rfl rfl (by show pks l ++ ldl (pks l) ((dInt ds (i * 21 + 1)).toNat * 19) = _; rw [ldl_pks hj, pks_snoc]) (pks_fl _), rb_rec (m := 0) rfl rfl trivial, trivial⟩
theorem nkr4 (hG : NkG inr h0 ds n c (i + 1)) (hi : i < n) (hn : n ≤ 60) (hc : c ≤ 9223372036854775807) (hS : ShsA ds n) (h : Nk asL bs es l i s t lo) (hk : dInt ds (i * 21) = 4) : NkR inr h0 ds n c asL bs es l i s t lo := by
  have hs := hS i hi
  have hcc : c < capBig := by unfold capBig; omega
  have hLA := h.la
  have hLB := h.lb
  have hsum := h.sum
  have ht0 := h.t0
  have hl0 := h.l0
  have hsi := h.si
  by_cases h_fa : (dInt ds (i * 21 + 1)) < 0
  ·
    refine LRuns.step (code_runsP nkX nkL (runZ_ok nkX nkT nkL mixed 9) mixed (nkr_mov_fa inr i n c l.length s t lo (ints asL) (ints bs) (pks l) es ds) ?_) rfl (by omega) (by omega) (fun n => n) ?_ ?_ rfl ((hG _ _ _ _ _ _ _ h.up).1)
    ·
      simp only [Alls, rg, decide_eq_true_eq, decide_eq_false_iff_not, beq_iff_eq, beq_eq_false_iff_ne, bne_eq_false_iff_eq, adI_eq, Nat.add_zero, ints_len, pks_len, hLA, hLB, ne_eq]
      repeat' (with_reducible apply And.intro)
      all_goals first | omega | (with_reducible assumption) | (with_reducible exact trivial) | (with_reducible rfl) | (skip)
    · exact ⟨rfl, rb_slc rfl hcc, rfl, rfl, rfl, rb_ptr rfl, rfl, rfl, rfl, rfl, rfl, rb_ptr rfl, rfl, rb_ptr rfl, rfl, rfl, trivial⟩
    · exact ⟨nk_mp rfl rfl (rfl), nk_net rfl rfl rfl (rb_slg rfl rfl), rb_row (n := 3) (m := 3) rfl rfl rfl (rfl) (ints_fl _), rb_row (n := 4) (m := 4) rfl rfl rfl (rfl) (ints_fl _), ls_row (n := 80) (m := 80) rfl rfl (rfl) (pks_fl _), rb_rec (m := 0) rfl rfl trivial, trivial⟩
  by_cases h_fb : ¬ (dInt ds (i * 21 + 1)) < (l.length : Int)
  ·
    refine LRuns.step (code_runsP nkX nkL (runZ_ok nkX nkT nkL mixed 9) mixed (nkr_mov_fb inr i n c l.length s t lo (ints asL) (ints bs) (pks l) es ds) ?_) rfl (by omega) (by omega) (fun n => n) ?_ ?_ rfl ((hG _ _ _ _ _ _ _ h.up).1)
    ·
      simp only [Alls, rg, decide_eq_true_eq, decide_eq_false_iff_not, beq_iff_eq, beq_eq_false_iff_ne, bne_eq_false_iff_eq, adI_eq, Nat.add_zero, ints_len, pks_len, hLA, hLB, ne_eq]
      repeat' (with_reducible apply And.intro)
      all_goals first | omega | (with_reducible assumption) | (with_reducible exact trivial) | (with_reducible rfl) | (skip)
    · exact ⟨rfl, rb_slc rfl hcc, rfl, rfl, rfl, rb_ptr rfl, rfl, rfl, rfl, rfl, rfl, rb_ptr rfl, rfl, rb_ptr rfl, rfl, rfl, trivial⟩
    · exact ⟨nk_mp rfl rfl (rfl), nk_net rfl rfl rfl (rb_slg rfl rfl), rb_row (n := 3) (m := 3) rfl rfl rfl (rfl) (ints_fl _), rb_row (n := 4) (m := 4) rfl rfl rfl (rfl) (ints_fl _), ls_row (n := 80) (m := 80) rfl rfl (rfl) (pks_fl _), rb_rec (m := 0) rfl rfl trivial, trivial⟩
  by_cases h_fc : (dInt ds (i * 21 + 2)) < 0
  ·
    refine LRuns.step (code_runsP nkX nkL (runZ_ok nkX nkT nkL mixed 9) mixed (nkr_mov_fc inr i n c l.length s t lo (ints asL) (ints bs) (pks l) es ds) ?_) rfl (by omega) (by omega) (fun n => n) ?_ ?_ rfl ((hG _ _ _ _ _ _ _ h.up).1)
    ·
      simp only [Alls, rg, decide_eq_true_eq, decide_eq_false_iff_not, beq_iff_eq, beq_eq_false_iff_ne, bne_eq_false_iff_eq, adI_eq, Nat.add_zero, ints_len, pks_len, hLA, hLB, ne_eq]
      repeat' (with_reducible apply And.intro)
      all_goals first | omega | (with_reducible assumption) | (with_reducible exact trivial) | (with_reducible rfl) | (skip)
    · exact ⟨rfl, rb_slc rfl hcc, rfl, rfl, rfl, rb_ptr rfl, rfl, rfl, rfl, rfl, rfl, rb_ptr rfl, rfl, rb_ptr rfl, rfl, rfl, trivial⟩
    · exact ⟨nk_mp rfl rfl (rfl), nk_net rfl rfl rfl (rb_slg rfl rfl), rb_row (n := 3) (m := 3) rfl rfl rfl (rfl) (ints_fl _), rb_row (n := 4) (m := 4) rfl rfl rfl (rfl) (ints_fl _), ls_row (n := 80) (m := 80) rfl rfl (rfl) (pks_fl _), rb_rec (m := 0) rfl rfl trivial, trivial⟩
  by_cases h_fd : ¬ (dInt ds (i * 21 + 2)) < (l.length : Int)
  ·
    refine LRuns.step (code_runsP nkX nkL (runZ_ok nkX nkT nkL mixed 9) mixed (nkr_mov_fd inr i n c l.length s t lo (ints asL) (ints bs) (pks l) es ds) ?_) rfl (by omega) (by omega) (fun n => n) ?_ ?_ rfl ((hG _ _ _ _ _ _ _ h.up).1)
    ·
      simp only [Alls, rg, decide_eq_true_eq, decide_eq_false_iff_not, beq_iff_eq, beq_eq_false_iff_ne, bne_eq_false_iff_eq, adI_eq, Nat.add_zero, ints_len, pks_len, hLA, hLB, ne_eq]
      repeat' (with_reducible apply And.intro)
      all_goals first | omega | (with_reducible assumption) | (with_reducible exact trivial) | (with_reducible rfl) | (skip)
    · exact ⟨rfl, rb_slc rfl hcc, rfl, rfl, rfl, rb_ptr rfl, rfl, rfl, rfl, rfl, rfl, rb_ptr rfl, rfl, rb_ptr rfl, rfl, rfl, trivial⟩
    · exact ⟨nk_mp rfl rfl (rfl), nk_net rfl rfl rfl (rb_slg rfl rfl), rb_row (n := 3) (m := 3) rfl rfl rfl (rfl) (ints_fl _), rb_row (n := 4) (m := 4) rfl rfl rfl (rfl) (ints_fl _), ls_row (n := 80) (m := 80) rfl rfl (rfl) (pks_fl _), rb_rec (m := 0) rfl rfl trivial, trivial⟩
  have hj : (dInt ds (i * 21 + 1)).toNat < l.length := by omega
  have hdl := del_len hj
  have hpf := pks_fl l
  have hp1 := pks_one l
  have hll := ldl_take hj
  have hk4 : (dInt ds (i * 21 + 2)).toNat < l.length := by omega
  have hil : (insQ (l.take (dInt ds (i * 21 + 1)).toNat ++ l.drop ((dInt ds (i * 21 + 1)).toNat + 1)) (dInt ds (i * 21 + 2)).toNat (pq l (dInt ds (i * 21 + 1)).toNat)).length = l.length - 1 + 1 := by rw [insQ_len (by rw [hdl]; omega), hdl]
  have hd1 : all1 (delP (pks l) (dInt ds (i * 21 + 1))) = true := by rw [pks_del']; exact pks_one _
  have hd2 : (delP (pks l) (dInt ds (i * 21 + 1))).length = (l.length - 1) * 19 := by rw [pks_del', pks_len, hdl]
  refine LRuns.step (code_runsP nkX nkL (runZ_ok nkX nkT nkL mixed 9) mixed (nkr_mov_ok inr i n c l.length s t lo (ints asL) (ints bs) (pks l) es ds) ?_) rfl (by omega) (by omega) (fun _ => 90) ?_ ?_ rfl ((hG _ _ _ _ _ _ _ (h.move hj hk4)).1)
  ·
    simp only [Alls, rg, decide_eq_true_eq, decide_eq_false_iff_not, beq_iff_eq, beq_eq_false_iff_ne, bne_eq_false_iff_eq, adI_eq, Nat.add_zero, ints_len, pks_len, hLA, hLB, ne_eq]
    repeat' (with_reducible apply And.intro)
    all_goals first | omega | (with_reducible assumption) | (with_reducible exact trivial) | (with_reducible rfl) | (first | exact hll | exact rfl)
  · exact ⟨rfl, rb_slc rfl hcc, rfl, rfl, rfl, rb_ptr rfl, rfl, rfl, rfl, rfl, rfl, rb_ptr rfl, rfl, rb_ptr rfl, rfl, rfl, trivial⟩
  · exact ⟨nk_mp rfl rfl (rfl), nk_net rfl rfl rfl (by rw [hil]; exact rb_slg rfl rfl), rb_row (n := 3) (m := 3) rfl rfl rfl (rfl) (ints_fl _), rb_row (n := 4) (m := 4) rfl rfl rfl (rfl) (ints_fl _), ls_row (n := 80) (m := 90) rfl rfl (by show insL (delP (pks l) (dInt ds (i * 21 + 1))) (dInt ds (i * 21 + 2)) (ldl (pks l) ((dInt ds (i * 21 + 1)).toNat * 19)) = _; rw [ldl_pks hj, pks_del', insQ_row]) (pks_fl _), rb_rec (m := 0) rfl rfl trivial, trivial⟩
theorem nkr6 (hG : NkG inr h0 ds n c (i + 1)) (hi : i < n) (hn : n ≤ 60) (hc : c ≤ 9223372036854775807) (hS : ShsA ds n) (h : Nk asL bs es l i s t lo) (hk : dInt ds (i * 21) = 6) : NkR inr h0 ds n c asL bs es l i s t lo := by
  have hs := hS i hi
  have hcc : c < capBig := by unfold capBig; omega
  have hLA := h.la
  have hLB := h.lb
  have hsum := h.sum
  have ht0 := h.t0
  have hl0 := h.l0
  have hsi := h.si
  refine LRuns.step (code_runsP nkX nkL (runZ_ok nkX nkT nkL mixed 9) mixed (nkr_clr inr i n c l.length s t lo (ints asL) (ints bs) (pks l) es ds) ?_) rfl (by omega) (by omega) (fun n => n) ?_ ?_ rfl ((hG _ _ _ _ _ _ _ h.clear).2 rfl)
  ·
    simp only [Alls, rg, decide_eq_true_eq, decide_eq_false_iff_not, beq_iff_eq, beq_eq_false_iff_ne, bne_eq_false_iff_eq, adI_eq, Nat.add_zero, ints_len, pks_len, hLA, hLB, ne_eq]
    repeat' (with_reducible apply And.intro)
    all_goals first | omega | (with_reducible assumption) | (with_reducible exact trivial) | (with_reducible rfl) | (skip)
  · exact ⟨rfl, rb_slc rfl hcc, rfl, rfl, rfl, rb_ptr rfl, rfl, rfl, rfl, rfl, rfl, rb_ptr rfl, rfl, rb_ptr rfl, rfl, rfl, trivial⟩
  · exact ⟨nk_mp rfl rfl (rfl), nk_net rfl rfl rfl (rfl), rb_row (n := 3) (m := 3) rfl rfl rfl (rfl) (ints_fl _), rb_row (n := 4) (m := 4) rfl rfl rfl (rfl) (ints_fl _), rb_rec (m := 0) rfl rfl trivial, trivial⟩
theorem nkr7 (hG : NkG inr h0 ds n c (i + 1)) (hi : i < n) (hn : n ≤ 60) (hc : c ≤ 9223372036854775807) (hS : ShsA ds n) (h : Nk asL bs es l i s t lo) (hk0 : dInt ds (i * 21) ≠ 0) (hk1 : dInt ds (i * 21) ≠ 1) (hk2 : dInt ds (i * 21) ≠ 2) (hk3 : dInt ds (i * 21) ≠ 3) (hk4 : dInt ds (i * 21) ≠ 4) (hk5 : dInt ds (i * 21) ≠ 5) (hk6 : dInt ds (i * 21) ≠ 6) : NkR inr h0 ds n c asL bs es l i s t lo := by
  have hs := hS i hi
  have hcc : c < capBig := by unfold capBig; omega
  have hLA := h.la
  have hLB := h.lb
  have hsum := h.sum
  have ht0 := h.t0
  have hl0 := h.l0
  have hsi := h.si
  refine LRuns.step (code_runsP nkX nkL (runZ_ok nkX nkT nkL mixed 9) mixed (nkr_oth inr i n c l.length s t lo (ints asL) (ints bs) (pks l) es ds) ?_) rfl (by omega) (by omega) (fun n => n) ?_ ?_ rfl ((hG _ _ _ _ _ _ _ h.up).1)
  ·
    simp only [Alls, rg, decide_eq_true_eq, decide_eq_false_iff_not, beq_iff_eq, beq_eq_false_iff_ne, bne_eq_false_iff_eq, adI_eq, Nat.add_zero, ints_len, pks_len, hLA, hLB, ne_eq]
    repeat' (with_reducible apply And.intro)
    all_goals first | omega | (with_reducible assumption) | (with_reducible exact trivial) | (with_reducible rfl) | (skip)
  · exact ⟨rfl, rb_slc rfl hcc, rfl, rfl, rfl, rb_ptr rfl, rfl, rfl, rfl, rfl, rfl, rb_ptr rfl, rfl, rb_ptr rfl, rfl, rfl, trivial⟩
  · exact ⟨nk_mp rfl rfl (rfl), nk_net rfl rfl rfl (rb_slg rfl rfl), rb_row (n := 3) (m := 3) rfl rfl rfl (rfl) (ints_fl _), rb_row (n := 4) (m := 4) rfl rfl rfl (rfl) (ints_fl _), ls_row (n := 80) (m := 80) rfl rfl (rfl) (pks_fl _), rb_rec (m := 0) rfl rfl trivial, trivial⟩
end
end Go.Proofs.Ytcahhoemlmbnaaa
