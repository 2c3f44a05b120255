/-
  Chapter 22: the statement SessionFull: its first loops (written by wip/tools/gen_fulc.py).
-/
import Derived.Test.YtdcakhahagbedaaFulP
namespace Go.Proofs.Ytdcakhahagbedaa
set_option linter.unusedSimpArgs false
set_option linter.unusedVariables false
set_option linter.unusedSectionVars false
open Go Go.RowKit
theorem pick_ok {x : Int} : ∃ k : Nat, k < 4 ∧ PkOf x k := by
  have h1 := Int.tmod_lt_of_pos x (b := 4) (by omega)
  have h2 : -4 < x.tmod 4 := by
    have := Int.lt_tmod_of_pos x (b := 4) (by omega)
    omega
  refine ⟨(if x.tmod 4 < 0 then x.tmod 4 + 4 else x.tmod 4).toNat, ?_, ?_⟩
  · split <;> omega
  · unfold PkOf
    split <;> omega
theorem wr4 {z : Int} (h0 : -4 < z) (h1 : z < 8) : IntKind.wrap IntKind.i64 z = z := by
  rw [IntKind.wrap_i64]
  omega
theorem pk_gok (k : Nat) : GOk Try.prog 23 [.f, .f] (gPk k) := by
  have hX : XOkZ pkV Try.prog := noXz_ok rfl
  have hT : TOkZ pkV Try.prog := noTz_okV rfl
  have hL : LOkZ pkV Try.prog := noL_okV rfl
  intro av tp gr tp' ob hG ho hP caps hcap
  unfold gPk at hG
  split at hG
  case h_2 => cases hG
  rename_i x
  simp only [Option.some.injEq, Prod.mk.injEq] at hG
  obtain ⟨rfl, rfl, rfl⟩ := hG
  have hp : PkOf x k := ho.1
  unfold PkOf at hp
  have h1 := Int.tmod_lt_of_pos x (b := 4) (by omega)
  have h2 : -4 < x.tmod 4 := Int.lt_tmod_of_pos x (by omega)
  by_cases hn : x.tmod 4 < 0
  · rw [if_pos hn] at hp
    obtain ⟨h', nx', dd, T⟩ := run_val hX hT hL (pk_t x) ⟨decide_eq_true hn, trivial⟩ rfl
    rw [wr4 (by omega) (by omega), ← hp] at T
    exact ⟨_, _, _, _, fun n => n, T, GrIs.flat fun σ => rfl⟩
  · rw [if_neg hn] at hp
    obtain ⟨h', nx', dd, T⟩ := run_val hX hT hL (pk_f x) ⟨decide_eq_false hn, trivial⟩ rfl
    rw [← hp] at T
    exact ⟨_, _, _, _, fun n => n, T, GrIs.flat fun σ => rfl⟩
theorem fuT_one (k : Nat) : TOneZ Try.prog (fuT k) := orTz_ok (mkT_one aw_gok) (orTz_ok (mkT_one cm_gok) (mkT_one (pk_gok k)))
theorem fuV_X (k : Nat) (L : LFun) : XOkZ (fuV k L) Try.prog := noXz_ok rfl
theorem fuV_T (k : Nat) (L : LFun) : TOkZ (fuV k L) Try.prog := T_okV rfl (fuT_one k)
theorem fuV_L (k : Nat) : LOkZ (fuV k noL) Try.prog := noL_okV rfl
def fbS (tk : Value) (i : Int) : List (Nat × Value) := [(5, tk), (10, eP), (13, .bool true), (14, lX), (17, tP), (18, lL), (19, .int .i64 i)]
def fbX (tk : Value) : List (Nat × Value) := [(5, tk), (10, eP), (13, .bool true), (14, lX), (17, tP), (18, lL)]
def Y1 : Nat → Int := fun k => (k : Int) + 1
def yC (Y : Nat → Int) : List Value := [.int .i64 (Y 0), .int .i64 (Y 1), .int .i64 (Y 2), .int .i64 (Y 3)]
def fbH (E X : List Value) (L : List En) : Hp := [(10, ⟨.shut, E⟩), (11, ⟨.shut, X⟩), (12, tbL L), (13, ⟨.shut, yC Y1⟩)]
/-- A slot that no loop looks at. -/
def Keep (lo : Nat) (v : Value) : Prop := ∀ N ρ, renV (sgf lo N ρ) v = some v
theorem tb_fl (L : List En) : Fl (tbL L).cs := by
  rcases L with _ | ⟨a, _ | ⟨b, _ | ⟨c, _ | ⟨d, L⟩⟩⟩⟩ <;> exact Fl.of rfl
theorem tb_kd (L : List En) : tbL L = ⟨.shut, (tbL L).cs⟩ := by
  rcases L with _ | ⟨a, _ | ⟨b, _ | ⟨c, _ | ⟨d, L⟩⟩⟩⟩ <;> rfl
theorem sh_row {lo N : Nat} {ρ : Nat → Nat} {h0 h1 : Hp} {n : Nat} {C : List Value} (hn : fnN lo N ρ n = some n) (hl : lk h1 n = some ⟨.shut, C⟩) (hx : Fl C) : RbRow lo N ρ h0 h1 n ⟨.shut, C⟩ := rb_row hn hl rfl rfl hx
theorem tb_row {lo N : Nat} {ρ : Nat → Nat} {h0 h1 : Hp} {L : List En} (hn : fnN lo N ρ 12 = some 12) (hl : lk h1 12 = some (tbL L)) : RbRow lo N ρ h0 h1 12 (tbL L) := by
  rw [tb_kd L]
  exact rb_row hn (hl.trans (congrArg some (tb_kd L))) rfl rfl (tb_fl L)
theorem yC_fl (Y : Nat → Int) : Fl (yC Y) := Fl.of rfl
theorem CmN.lt {a : En} {x y : Int} (hw : w6 a.h ∧ w6 a.l) (hx : w6 x ∧ w6 y) (h : a.nm < nm2 x y) : CmN a.h a.l x y (nm2 a.h a.l < nm2 x y) := ⟨⟨hw.1, hw.2, hx.1, hx.2⟩, h⟩
theorem CmN.gt {a : En} {x y : Int} (hw : w6 a.h ∧ w6 a.l) (hx : w6 x ∧ w6 y) (h : nm2 x y < a.nm) : CmN a.h a.l x y (nm2 x y < nm2 a.h a.l) := ⟨⟨hw.1, hw.2, hx.1, hx.2⟩, h⟩
theorem len1 {L : List En} (h : L.length = 1) : ∃ a, L = [a] := by
  rcases L with _ | ⟨a, _ | ⟨b, L⟩⟩
  · cases h
  · exact ⟨a, rfl⟩
  · simp at h
theorem len2 {L : List En} (h : L.length = 2) : ∃ a b, L = [a, b] := by
  rcases L with _ | ⟨a, _ | ⟨b, _ | ⟨c, L⟩⟩⟩
  · cases h
  · cases h
  · exact ⟨a, b, rfl⟩
  · simp at h
theorem len3 {L : List En} (h : L.length = 3) : ∃ a b c, L = [a, b, c] := by
  rcases L with _ | ⟨a, _ | ⟨b, _ | ⟨c, _ | ⟨d, L⟩⟩⟩⟩
  · cases h
  · cases h
  · cases h
  · exact ⟨a, b, c, rfl⟩
  · simp at h
/-- What the fourth registration leaves. -/
def LoopB (P : Program) (tk : Value) (E X : List Value) (i : Int) (L L4 : List En) : Prop := Inv X Y1 4 0 L4 ∧ ∀ inr h0, LRuns inr P (fb1 P) 14 100 h0 204 (fbS tk i) (fbH E X L) 14 (.exit 4, fbX tk, fbH E X L4)
def newE (X : List Value) (i : Nat) : En := ⟨intAt X (i * 2), intAt X (i * 2 + 1), 0, (i : Int) + 1, (i : Int) + 1⟩
section
variable {tk : Value} {E X : List Value}
theorem fb_4 (hk : Keep 14 tk) (hE : Fl E) (hXf : Fl X) {L : List En} (h : Inv X Y1 4 0 L) : LoopB Try.prog tk E X 4 L L := by
  refine ⟨h, fun inr h0 => ?_⟩
  obtain ⟨e0, L, rfl⟩ : ∃ a t, L = a :: t := by cases L with | nil => have := h.len; cases this | cons a t => exact ⟨a, t, rfl⟩
  obtain ⟨e1, e2, e3, rfl⟩ := len3 (by have := h.len; simpa using this)
  refine LRuns.exit (code_runs (fuV_X _ _) (fuV_L 0) (runZ_ok (fuV_X _ _) (fuV_T 0 _) (fuV_L 0) mixed 12) mixed (fb_end inr tk E X e0.h e0.l e0.r e0.o e0.s e1.h e1.l e1.r e1.o e1.s e2.h e2.l e2.r e2.o e2.s e3.h e3.l e3.r e3.o e3.s) alls_nil) (by intro e; cases e) rfl (by omega) (by omega) (fun n => n) ?_ ?_ rfl
  · exact ⟨rfl, hk _ _, rfl, rb_ptr rfl, rfl, rfl, rfl, rb_slc rfl (by unfold capBig; omega), rfl, rb_ptr rfl, rfl, rb_slc rfl (by unfold capBig; omega), trivial⟩
  · exact ⟨sh_row rfl rfl hE, sh_row rfl rfl hXf, tb_row rfl rfl, sh_row rfl rfl (yC_fl _), trivial⟩

theorem fb_4x (hk : Keep 14 tk) (hE : Fl E) (hXf : Fl X) (hX : Cls X) {L : List En} (h : Inv X Y1 4 0 L) : ∃ L4, LoopB Try.prog tk E X 4 L L4 := ⟨L, fb_4 hk hE hXf h⟩
theorem fb_s3 (hk : Keep 14 tk) (hE : Fl E) (hXf : Fl X) (hX : Cls X) {L : List En} (h : Inv X Y1 3 0 L) : ∃ L4, LoopB Try.prog tk E X 3 L L4 := by
  have hw := hX.u.w (k := 3) (by omega)
  have two := hX.u.two (k := 3) (by omega)
  have nz : (intAt X (3 * 2) == 0 && (intAt X (3 * 2 + 1) == 0 && true)) = false := eqf (by have := hX.nz 3 (by omega); exact this)
  have nw := h.new hX (by omega)
  obtain ⟨A, B, rfl, hA, hB⟩ := h.srt.split nw
  have hlen := h.len
  rw [List.length_append] at hlen
  have next := fun hh => fb_4x (tk := tk) (E := E) (X := X) hk hE hXf hX (L := A ++ newE X 3 :: B) hh
  have inv := h.reg hX (by omega) (e := newE X 3) rfl rfl rfl ⟨hw.1, hw.2⟩ hA hB
  obtain ⟨L4, hi4, hL4⟩ := next inv
  refine ⟨L4, hi4, fun inr h0 => ?_⟩
  have nx := hL4 inr h0
  rcases (by omega : A.length = 0 ∨ A.length = 1 ∨ A.length = 2 ∨ A.length = 3) with hp | hp | hp | hp
  · obtain rfl : A = [] := List.eq_nil_of_length_eq_zero (by omega)
    obtain ⟨e0, e1, e2, rfl⟩ := len3 (L := B) (by omega)
    refine LRuns.step (code_runs (fuV_X _ _) (fuV_L 0) (runZ_ok (fuV_X _ _) (fuV_T 0 _) (fuV_L 0) mixed 12) mixed (fb_30 inr tk E X e0.h e0.l e0.r e0.o e0.s e1.h e1.l e1.r e1.o e1.s e2.h e2.l e2.r e2.o e2.s) ⟨⟨by omega, by omega⟩, two, nz, rfl, rfl, eqf (nw e0 (by simp)), eqf (nw e1 (by simp)), eqf (nw e2 (by simp)), CmN.gt (by have := h.wid e0 (by simp); exact ⟨this.1, this.2.1⟩) hw (hB e0 (by simp)), CmN.gt (by have := h.wid e1 (by simp); exact ⟨this.1, this.2.1⟩) hw (hB e1 (by simp)), CmN.gt (by have := h.wid e2 (by simp); exact ⟨this.1, this.2.1⟩) hw (hB e2 (by simp)), trivial⟩) rfl (by omega) (by omega) (fun n => n) ?_ ?_ rfl nx
    · exact ⟨rfl, hk _ _, rfl, rb_ptr rfl, rfl, rfl, rfl, rb_slc rfl (by unfold capBig; omega), rfl, rb_ptr rfl, rfl, rb_slc rfl (by unfold capBig; omega), rfl, rfl, trivial⟩
    · exact ⟨sh_row rfl rfl hE, sh_row rfl rfl hXf, tb_row rfl rfl, sh_row rfl rfl (yC_fl _), trivial⟩
  · obtain ⟨e0, rfl⟩ := len1 (L := A) (by omega)
    obtain ⟨e1, e2, rfl⟩ := len2 (L := B) (by omega)
    refine LRuns.step (code_runs (fuV_X _ _) (fuV_L 0) (runZ_ok (fuV_X _ _) (fuV_T 0 _) (fuV_L 0) mixed 12) mixed (fb_31 inr tk E X e0.h e0.l e0.r e0.o e0.s e1.h e1.l e1.r e1.o e1.s e2.h e2.l e2.r e2.o e2.s) ⟨⟨by omega, by omega⟩, two, nz, rfl, rfl, eqf (nw e0 (by simp)), eqf (nw e1 (by simp)), eqf (nw e2 (by simp)), CmN.lt (by have := h.wid e0 (by simp); exact ⟨this.1, this.2.1⟩) hw (hA e0 (by simp)), CmN.gt (by have := h.wid e1 (by simp); exact ⟨this.1, this.2.1⟩) hw (hB e1 (by simp)), CmN.gt (by have := h.wid e2 (by simp); exact ⟨this.1, this.2.1⟩) hw (hB e2 (by simp)), trivial⟩) rfl (by omega) (by omega) (fun n => n) ?_ ?_ rfl nx
    · exact ⟨rfl, hk _ _, rfl, rb_ptr rfl, rfl, rfl, rfl, rb_slc rfl (by unfold capBig; omega), rfl, rb_ptr rfl, rfl, rb_slc rfl (by unfold capBig; omega), rfl, rfl, trivial⟩
    · exact ⟨sh_row rfl rfl hE, sh_row rfl rfl hXf, tb_row rfl rfl, sh_row rfl rfl (yC_fl _), trivial⟩
  · obtain ⟨e0, e1, rfl⟩ := len2 (L := A) (by omega)
    obtain ⟨e2, rfl⟩ := len1 (L := B) (by omega)
    refine LRuns.step (code_runs (fuV_X _ _) (fuV_L 0) (runZ_ok (fuV_X _ _) (fuV_T 0 _) (fuV_L 0) mixed 12) mixed (fb_32 inr tk E X e0.h e0.l e0.r e0.o e0.s e1.h e1.l e1.r e1.o e1.s e2.h e2.l e2.r e2.o e2.s) ⟨⟨by omega, by omega⟩, two, nz, rfl, rfl, eqf (nw e0 (by simp)), eqf (nw e1 (by simp)), eqf (nw e2 (by simp)), CmN.lt (by have := h.wid e0 (by simp); exact ⟨this.1, this.2.1⟩) hw (hA e0 (by simp)), CmN.lt (by have := h.wid e1 (by simp); exact ⟨this.1, this.2.1⟩) hw (hA e1 (by simp)), CmN.gt (by have := h.wid e2 (by simp); exact ⟨this.1, this.2.1⟩) hw (hB e2 (by simp)), trivial⟩) rfl (by omega) (by omega) (fun n => n) ?_ ?_ rfl nx
    · exact ⟨rfl, hk _ _, rfl, rb_ptr rfl, rfl, rfl, rfl, rb_slc rfl (by unfold capBig; omega), rfl, rb_ptr rfl, rfl, rb_slc rfl (by unfold capBig; omega), rfl, rfl, trivial⟩
    · exact ⟨sh_row rfl rfl hE, sh_row rfl rfl hXf, tb_row rfl rfl, sh_row rfl rfl (yC_fl _), trivial⟩
  · obtain ⟨e0, e1, e2, rfl⟩ := len3 (L := A) (by omega)
    obtain rfl : B = [] := List.eq_nil_of_length_eq_zero (by omega)
    refine LRuns.step (code_runs (fuV_X _ _) (fuV_L 0) (runZ_ok (fuV_X _ _) (fuV_T 0 _) (fuV_L 0) mixed 12) mixed (fb_33 inr tk E X e0.h e0.l e0.r e0.o e0.s e1.h e1.l e1.r e1.o e1.s e2.h e2.l e2.r e2.o e2.s) ⟨⟨by omega, by omega⟩, two, nz, rfl, rfl, eqf (nw e0 (by simp)), eqf (nw e1 (by simp)), eqf (nw e2 (by simp)), CmN.lt (by have := h.wid e0 (by simp); exact ⟨this.1, this.2.1⟩) hw (hA e0 (by simp)), CmN.lt (by have := h.wid e1 (by simp); exact ⟨this.1, this.2.1⟩) hw (hA e1 (by simp)), CmN.lt (by have := h.wid e2 (by simp); exact ⟨this.1, this.2.1⟩) hw (hA e2 (by simp)), trivial⟩) rfl (by omega) (by omega) (fun n => n) ?_ ?_ rfl nx
    · exact ⟨rfl, hk _ _, rfl, rb_ptr rfl, rfl, rfl, rfl, rb_slc rfl (by unfold capBig; omega), rfl, rb_ptr rfl, rfl, rb_slc rfl (by unfold capBig; omega), rfl, rfl, trivial⟩
    · exact ⟨sh_row rfl rfl hE, sh_row rfl rfl hXf, tb_row rfl rfl, sh_row rfl rfl (yC_fl _), trivial⟩
theorem fb_s2 (hk : Keep 14 tk) (hE : Fl E) (hXf : Fl X) (hX : Cls X) {L : List En} (h : Inv X Y1 2 0 L) : ∃ L4, LoopB Try.prog tk E X 2 L L4 := by
  have hw := hX.u.w (k := 2) (by omega)
  have two := hX.u.two (k := 2) (by omega)
  have nz : (intAt X (2 * 2) == 0 && (intAt X (2 * 2 + 1) == 0 && true)) = false := eqf (by have := hX.nz 2 (by omega); exact this)
  have nw := h.new hX (by omega)
  obtain ⟨A, B, rfl, hA, hB⟩ := h.srt.split nw
  have hlen := h.len
  rw [List.length_append] at hlen
  have next := fun hh => fb_s3 (tk := tk) (E := E) (X := X) hk hE hXf hX (L := A ++ newE X 2 :: B) hh
  have inv := h.reg hX (by omega) (e := newE X 2) rfl rfl rfl ⟨hw.1, hw.2⟩ hA hB
  obtain ⟨L4, hi4, hL4⟩ := next inv
  refine ⟨L4, hi4, fun inr h0 => ?_⟩
  have nx := hL4 inr h0
  rcases (by omega : A.length = 0 ∨ A.length = 1 ∨ A.length = 2) with hp | hp | hp
  · obtain rfl : A = [] := List.eq_nil_of_length_eq_zero (by omega)
    obtain ⟨e0, e1, rfl⟩ := len2 (L := B) (by omega)
    refine LRuns.step (code_runs (fuV_X _ _) (fuV_L 0) (runZ_ok (fuV_X _ _) (fuV_T 0 _) (fuV_L 0) mixed 12) mixed (fb_20 inr tk E X e0.h e0.l e0.r e0.o e0.s e1.h e1.l e1.r e1.o e1.s) ⟨⟨by omega, by omega⟩, two, nz, rfl, rfl, eqf (nw e0 (by simp)), eqf (nw e1 (by simp)), CmN.gt (by have := h.wid e0 (by simp); exact ⟨this.1, this.2.1⟩) hw (hB e0 (by simp)), CmN.gt (by have := h.wid e1 (by simp); exact ⟨this.1, this.2.1⟩) hw (hB e1 (by simp)), trivial⟩) rfl (by omega) (by omega) (fun n => n) ?_ ?_ rfl nx
    · exact ⟨rfl, hk _ _, rfl, rb_ptr rfl, rfl, rfl, rfl, rb_slc rfl (by unfold capBig; omega), rfl, rb_ptr rfl, rfl, rb_slc rfl (by unfold capBig; omega), rfl, rfl, trivial⟩
    · exact ⟨sh_row rfl rfl hE, sh_row rfl rfl hXf, tb_row rfl rfl, sh_row rfl rfl (yC_fl _), trivial⟩
  · obtain ⟨e0, rfl⟩ := len1 (L := A) (by omega)
    obtain ⟨e1, rfl⟩ := len1 (L := B) (by omega)
    refine LRuns.step (code_runs (fuV_X _ _) (fuV_L 0) (runZ_ok (fuV_X _ _) (fuV_T 0 _) (fuV_L 0) mixed 12) mixed (fb_21 inr tk E X e0.h e0.l e0.r e0.o e0.s e1.h e1.l e1.r e1.o e1.s) ⟨⟨by omega, by omega⟩, two, nz, rfl, rfl, eqf (nw e0 (by simp)), eqf (nw e1 (by simp)), CmN.lt (by have := h.wid e0 (by simp); exact ⟨this.1, this.2.1⟩) hw (hA e0 (by simp)), CmN.gt (by have := h.wid e1 (by simp); exact ⟨this.1, this.2.1⟩) hw (hB e1 (by simp)), trivial⟩) rfl (by omega) (by omega) (fun n => n) ?_ ?_ rfl nx
    · exact ⟨rfl, hk _ _, rfl, rb_ptr rfl, rfl, rfl, rfl, rb_slc rfl (by unfold capBig; omega), rfl, rb_ptr rfl, rfl, rb_slc rfl (by unfold capBig; omega), rfl, rfl, trivial⟩
    · exact ⟨sh_row rfl rfl hE, sh_row rfl rfl hXf, tb_row rfl rfl, sh_row rfl rfl (yC_fl _), trivial⟩
  · obtain ⟨e0, e1, rfl⟩ := len2 (L := A) (by omega)
    obtain rfl : B = [] := List.eq_nil_of_length_eq_zero (by omega)
    refine LRuns.step (code_runs (fuV_X _ _) (fuV_L 0) (runZ_ok (fuV_X _ _) (fuV_T 0 _) (fuV_L 0) mixed 12) mixed (fb_22 inr tk E X e0.h e0.l e0.r e0.o e0.s e1.h e1.l e1.r e1.o e1.s) ⟨⟨by omega, by omega⟩, two, nz, rfl, rfl, eqf (nw e0 (by simp)), eqf (nw e1 (by simp)), CmN.lt (by have := h.wid e0 (by simp); exact ⟨this.1, this.2.1⟩) hw (hA e0 (by simp)), CmN.lt (by have := h.wid e1 (by simp); exact ⟨this.1, this.2.1⟩) hw (hA e1 (by simp)), trivial⟩) rfl (by omega) (by omega) (fun n => n) ?_ ?_ rfl nx
    · exact ⟨rfl, hk _ _, rfl, rb_ptr rfl, rfl, rfl, rfl, rb_slc rfl (by unfold capBig; omega), rfl, rb_ptr rfl, rfl, rb_slc rfl (by unfold capBig; omega), rfl, rfl, trivial⟩
    · exact ⟨sh_row rfl rfl hE, sh_row rfl rfl hXf, tb_row rfl rfl, sh_row rfl rfl (yC_fl _), trivial⟩
theorem fb_s1 (hk : Keep 14 tk) (hE : Fl E) (hXf : Fl X) (hX : Cls X) {L : List En} (h : Inv X Y1 1 0 L) : ∃ L4, LoopB Try.prog tk E X 1 L L4 := by
  have hw := hX.u.w (k := 1) (by omega)
  have two := hX.u.two (k := 1) (by omega)
  have nz : (intAt X (1 * 2) == 0 && (intAt X (1 * 2 + 1) == 0 && true)) = false := eqf (by have := hX.nz 1 (by omega); exact this)
  have nw := h.new hX (by omega)
  obtain ⟨A, B, rfl, hA, hB⟩ := h.srt.split nw
  have hlen := h.len
  rw [List.length_append] at hlen
  have next := fun hh => fb_s2 (tk := tk) (E := E) (X := X) hk hE hXf hX (L := A ++ newE X 1 :: B) hh
  have inv := h.reg hX (by omega) (e := newE X 1) rfl rfl rfl ⟨hw.1, hw.2⟩ hA hB
  obtain ⟨L4, hi4, hL4⟩ := next inv
  refine ⟨L4, hi4, fun inr h0 => ?_⟩
  have nx := hL4 inr h0
  rcases (by omega : A.length = 0 ∨ A.length = 1) with hp | hp
  · obtain rfl : A = [] := List.eq_nil_of_length_eq_zero (by omega)
    obtain ⟨e0, rfl⟩ := len1 (L := B) (by omega)
    refine LRuns.step (code_runs (fuV_X _ _) (fuV_L 0) (runZ_ok (fuV_X _ _) (fuV_T 0 _) (fuV_L 0) mixed 12) mixed (fb_10 inr tk E X e0.h e0.l e0.r e0.o e0.s) ⟨⟨by omega, by omega⟩, two, nz, rfl, rfl, eqf (nw e0 (by simp)), CmN.gt (by have := h.wid e0 (by simp); exact ⟨this.1, this.2.1⟩) hw (hB e0 (by simp)), trivial⟩) rfl (by omega) (by omega) (fun n => n) ?_ ?_ rfl nx
    · exact ⟨rfl, hk _ _, rfl, rb_ptr rfl, rfl, rfl, rfl, rb_slc rfl (by unfold capBig; omega), rfl, rb_ptr rfl, rfl, rb_slc rfl (by unfold capBig; omega), rfl, rfl, trivial⟩
    · exact ⟨sh_row rfl rfl hE, sh_row rfl rfl hXf, tb_row rfl rfl, sh_row rfl rfl (yC_fl _), trivial⟩
  · obtain ⟨e0, rfl⟩ := len1 (L := A) (by omega)
    obtain rfl : B = [] := List.eq_nil_of_length_eq_zero (by omega)
    refine LRuns.step (code_runs (fuV_X _ _) (fuV_L 0) (runZ_ok (fuV_X _ _) (fuV_T 0 _) (fuV_L 0) mixed 12) mixed (fb_11 inr tk E X e0.h e0.l e0.r e0.o e0.s) ⟨⟨by omega, by omega⟩, two, nz, rfl, rfl, eqf (nw e0 (by simp)), CmN.lt (by have := h.wid e0 (by simp); exact ⟨this.1, this.2.1⟩) hw (hA e0 (by simp)), trivial⟩) rfl (by omega) (by omega) (fun n => n) ?_ ?_ rfl nx
    · exact ⟨rfl, hk _ _, rfl, rb_ptr rfl, rfl, rfl, rfl, rb_slc rfl (by unfold capBig; omega), rfl, rb_ptr rfl, rfl, rb_slc rfl (by unfold capBig; omega), rfl, rfl, trivial⟩
    · exact ⟨sh_row rfl rfl hE, sh_row rfl rfl hXf, tb_row rfl rfl, sh_row rfl rfl (yC_fl _), trivial⟩
theorem fb_s0 (hk : Keep 14 tk) (hE : Fl E) (hXf : Fl X) (hX : Cls X) {L : List En} (h : Inv X Y1 0 0 L) : ∃ L4, LoopB Try.prog tk E X 0 L L4 := by
  have hw := hX.u.w (k := 0) (by omega)
  have two := hX.u.two (k := 0) (by omega)
  have nz : (intAt X (0 * 2) == 0 && (intAt X (0 * 2 + 1) == 0 && true)) = false := eqf (by have := hX.nz 0 (by omega); exact this)
  have nw := h.new hX (by omega)
  obtain ⟨A, B, rfl, hA, hB⟩ := h.srt.split nw
  have hlen := h.len
  rw [List.length_append] at hlen
  have next := fun hh => fb_s1 (tk := tk) (E := E) (X := X) hk hE hXf hX (L := A ++ newE X 0 :: B) hh
  have inv := h.reg hX (by omega) (e := newE X 0) rfl rfl rfl ⟨hw.1, hw.2⟩ hA hB
  obtain ⟨L4, hi4, hL4⟩ := next inv
  refine ⟨L4, hi4, fun inr h0 => ?_⟩
  have nx := hL4 inr h0
  rcases (by omega : A.length = 0) with hp
  · obtain rfl : A = [] := List.eq_nil_of_length_eq_zero (by omega)
    obtain rfl : B = [] := List.eq_nil_of_length_eq_zero (by omega)
    refine LRuns.step (code_runs (fuV_X _ _) (fuV_L 0) (runZ_ok (fuV_X _ _) (fuV_T 0 _) (fuV_L 0) mixed 12) mixed (fb_00 inr tk E X 0) ⟨⟨by omega, by omega⟩, two, nz, rfl, rfl, trivial⟩) rfl (by omega) (by omega) (fun n => n) ?_ ?_ rfl nx
    · exact ⟨rfl, hk _ _, rfl, rb_ptr rfl, rfl, rfl, rfl, rb_slc rfl (by unfold capBig; omega), rfl, rb_ptr rfl, rfl, rb_slc rfl (by unfold capBig; omega), rfl, rfl, trivial⟩
    · exact ⟨sh_row rfl rfl hE, sh_row rfl rfl hXf, tb_row rfl rfl, sh_row rfl rfl (yC_fl _), trivial⟩
end
end Go.Proofs.Ytdcakhahagbedaa
