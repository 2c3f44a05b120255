/-
  Chapter 22: the statement SessionFull: requests between, the least op, who is there (written by wip/tools/gen_fuld.py).
-/
import Derived.Test.YtdcakhahagbedaaFulC
namespace Go.Proofs.Ytdcakhahagbedaa
set_option linter.unusedSimpArgs false
set_option linter.unusedVariables false
set_option linter.unusedSectionVars false
open Go Go.RowKit
theorem fcn_end (inr : Bool) (E X T Y : List Value) : prjZ [10, 13, 14, 17, 18] (codeZ (fuV 0 noL) Try.prog (runZ (fuV 0 noL) Try.prog 12) 5 inr 100000 (fb2 Try.prog) (SL 204 [(5, .slice none 0 0), (10, eP), (13, .bool true), (14, lX), (17, tP), (18, lL), (23, .int .i64 0)]) [(10, ⟨.shut, E⟩), (11, ⟨.shut, X⟩), (12, ⟨.shut, T⟩), (13, ⟨.shut, Y⟩)] 100 [false]) =
  Res.ok ((Xt.exit 6, 204, [(10, Value.pointer (some (Addr.mk 10 0 none))), (13, Value.bool true), (14, Value.slice (some (Addr.mk 11 0 none)) 5 5), (17, Value.pointer (some (Addr.mk 12 0 none))), (18, Value.slice (some
 (Addr.mk 13 0 none)) 4 4)], [(10, Rw.mk Kd.shut E), (11, Rw.mk Kd.shut X), (12, Rw.mk Kd.shut T), (13, Rw.mk Kd.shut Y)], 100, [], []), [], [false = false]) := by kernel_rfl
def fcS (n c i : Nat) : List (Nat × Value) := [(5, .slice (some ⟨5, 0, none⟩) n c), (10, eP), (13, .bool true), (14, lX), (17, tP), (18, lL), (23, .int .i64 (i : Int))]
def fcX : List (Nat × Value) := [(10, eP), (13, .bool true), (14, lX), (17, tP), (18, lL)]
def fcH (E X : List Value) (L : List En) (Y : Nat → Int) (bs : List Value) : Hp := [(10, ⟨.shut, E⟩), (11, ⟨.shut, X⟩), (12, tbL L), (13, ⟨.shut, yC Y⟩), (5, ⟨.old, bs⟩)]
/-- Ops of the four, all of them unlike. -/
structure YD (Y : Nat → Int) (i : Nat) : Prop where
  b : ∀ j, j < 4 → Y j < 10 + (i : Int)
  d : ∀ j k, j < 4 → k < 4 → j ≠ k → Y j ≠ Y k
theorem YD.one : YD Y1 0 := ⟨fun j h => by unfold Y1; omega, fun j k h1 h2 h3 => by unfold Y1; omega⟩
theorem YD.upd {Y : Nat → Int} {i k : Nat} (h : YD Y i) (hk : k < 4) : YD (updY Y k (((10 + i : Nat)) : Int)) (i + 1) := by
  refine ⟨fun j hj => ?_, fun j l hj hl hne => ?_⟩
  · have := h.b j hj
    unfold updY
    split <;> omega
  · have h1 := h.b j hj
    have h2 := h.b l hl
    have h3 := h.d j l hj hl hne
    unfold updY
    split <;> split <;> omega
theorem adf {r : Int} (h : 0 ≤ r ∧ r ≤ 100) : rg .i64 (adI r 1) ∧ (adI r 1 == r) = false ∧ decide (adI r 1 < r) = false ∧ rg .i64 (adI r 1 - 1) ∧ (adI r 1 - 1 == r) = true := by
  simp only [adI_eq, rg, beq_eq_false_iff_ne, decide_eq_false_iff_not, beq_iff_eq]
  omega
theorem rgn {i : Nat} (h : i ≤ 100) : rg .i64 ((i : Nat) : Int) := by
  simp only [rg]
  omega
theorem yC_at (Y : Nat → Int) {j : Nat} (h : j < 4) : (yC Y)[j]? = some (.int .i64 (Y j)) ∧ intAt (yC Y) j = Y j := by
  rcases (by omega : j = 0 ∨ j = 1 ∨ j = 2 ∨ j = 3) with rfl | rfl | rfl | rfl <;> exact ⟨rfl, rfl⟩
theorem yC_upd (Y : Nat → Int) {k : Nat} (h : k < 4) (v : Int) : splice (yC Y) k [.int .i64 v] = yC (updY Y k v) := by
  rcases (by omega : k = 0 ∨ k = 1 ∨ k = 2 ∨ k = 3) with rfl | rfl | rfl | rfl <;> rfl
section
variable {E X bs : List Value} {n c : Nat}
theorem fc_loop (hE : Fl E) (hXf : Fl X) (hX : Cls X) (hb : Ints .i64 bs) (hl : bs.length = n) (hn : n ≤ 20) (hc : c ≤ 9223372036854775807) : ∀ (r i : Nat) (L : List En) (Y : Nat → Int), i + r = n → Inv X Y 4 i L → YD Y i →
    ∃ L' Y', Inv X Y' 4 n L' ∧ YD Y' n ∧ ∀ inr h0, LRuns inr Try.prog (fb2 Try.prog) 100 200 h0 204 (fcS n c i) (fcH E X L Y bs) 100 (.exit 6, fcX, fcH E X L' Y' bs)
  | 0, i, L, Y, hr, hI, hY => by
      obtain rfl : i = n := by omega
      refine ⟨L, Y, hI, hY, fun inr h0 => ?_⟩
      obtain ⟨e0, L, rfl⟩ : ∃ a t, L = a :: t := by cases L with | nil => have := hI.len; cases this | cons a t => exact ⟨a, t, rfl⟩
      obtain ⟨e1, e2, e3, rfl⟩ := len3 (by have := hI.len; simpa using this)
      refine LRuns.exit (code_runs (fuV_X _ _) (fuV_L 0) (runZ_ok (fuV_X _ _) (fuV_T 0 _) (fuV_L 0) mixed 12) mixed (fc_end inr i c i E X (yC Y) bs e0.h e0.l e0.r e0.o e0.s e1.h e1.l e1.r e1.o e1.s e2.h e2.l e2.r e2.o e2.s e3.h e3.l e3.r e3.o e3.s) ⟨decide_eq_false (by omega), trivial⟩) (by intro e; cases e) rfl (by omega) (by omega) (fun n => n) ?_ ?_ rfl
      · exact ⟨rfl, rb_ptr rfl, rfl, rfl, rfl, rb_slc rfl (by unfold capBig; omega), rfl, rb_ptr rfl, rfl, rb_slc rfl (by unfold capBig; omega), trivial⟩
      · exact ⟨sh_row rfl rfl hE, sh_row rfl rfl hXf, tb_row rfl rfl, sh_row rfl rfl (yC_fl _), rb_old (by omega) rfl hb.fl, trivial⟩
  | r + 1, i, L, Y, hr, hI, hY => by
      obtain ⟨k, hk, hpk⟩ := pick_ok (x := intAt bs i)
      obtain ⟨e, he, hen, heo⟩ := hI.fwd k hk
      obtain ⟨A, B, rfl, hA, hB⟩ := hI.srt.at he
      have hlen := hI.len
      rw [List.length_append, List.length_cons] at hlen
      have hwe := hI.wid e he
      have hw := hX.u.w (k := k) (by omega)
      have two := hX.u.two (k := k) (by omega)
      obtain ⟨a1, a2, a3, a4, a5⟩ := adf (r := e.r) ⟨hwe.2.2.1, by omega⟩
      have et : (e.h == intAt X (k * 2) && (e.l == intAt X (k * 2 + 1) && true)) = true := eqt hwe.1 hwe.2.1 hw.1 hw.2 hen
      have ef : ∀ a ∈ A, (a.h == intAt X (k * 2) && (a.l == intAt X (k * 2 + 1) && true)) = false := fun a ha => eqf (by have := hA a ha; have h2 : e.nm = nm2 (intAt X (k * 2)) (intAt X (k * 2 + 1)) := hen; have h3 : a.nm = nm2 a.h a.l := rfl; omega)
      have inv := hI.upd hX hk (e' := ⟨e.h, e.l, adI e.r 1, ((10 + i : Nat) : Int), e.s⟩) hen rfl (v := ((10 + i : Nat) : Int)) rfl ⟨hwe.1, hwe.2.1⟩ (adI_eq _ _)
      obtain ⟨L', Y', g1, g2, g3⟩ := fc_loop hE hXf hX hb hl hn hc r (i + 1) (A ++ ⟨e.h, e.l, adI e.r 1, ((10 + i : Nat) : Int), e.s⟩ :: B) (updY Y k ((10 + i : Nat) : Int)) (by omega) inv (hY.upd hk)
      refine ⟨L', Y', g1, g2, fun inr h0 => ?_⟩
      have nx := g3 inr h0
      have hcell := hb.get (i := i) (by omega)
      rcases (by omega : A.length = 0 ∨ A.length = 1 ∨ A.length = 2 ∨ A.length = 3) with hp | hp | hp | hp
      · obtain rfl : A = [] := List.eq_nil_of_length_eq_zero (by omega)
        obtain ⟨x1, x2, x3, rfl⟩ := len3 (L := B) (by omega)
        refine LRuns.step (code_runs (fuV_X _ _) (fuV_L k) (runZ_ok (fuV_X _ _) (fuV_T k _) (fuV_L k) mixed 12) mixed (fc_0 inr n c i k E X (yC Y) bs e.h e.l e.r e.o e.s x1.h x1.l x1.r x1.o x1.s x2.h x2.l x2.r x2.o x2.s x3.h x3.l x3.r x3.o x3.s) ⟨decide_eq_true (by omega), ⟨by omega, by omega⟩, hcell, hpk, ⟨by omega, by omega⟩, two, et, ⟨by omega, by omega⟩, two, a1, rgn (by omega), et, et, a2, a3, a4, a5, decide_eq_true (by omega), decide_eq_true (by omega), rgn (by omega), ⟨by omega, by omega⟩, (show k + 1 ≤ 4 by omega), rgn (by omega), trivial⟩) rfl (by omega) (by omega) (fun n => n) ?_ ?_ rfl nx
        · exact ⟨rfl, rb_slc rfl (by unfold capBig; omega), rfl, rb_ptr rfl, rfl, rfl, rfl, rb_slc rfl (by unfold capBig; omega), rfl, rb_ptr rfl, rfl, rb_slc rfl (by unfold capBig; omega), rfl, rfl, trivial⟩
        · exact ⟨sh_row rfl rfl hE, sh_row rfl rfl hXf, tb_row rfl rfl, rb_row rfl rfl rfl (yC_upd Y hk _) (yC_fl _), rb_old (by omega) rfl hb.fl, trivial⟩
      · obtain ⟨x0, rfl⟩ := len1 (L := A) (by omega)
        obtain ⟨x2, x3, rfl⟩ := len2 (L := B) (by omega)
        refine LRuns.step (code_runs (fuV_X _ _) (fuV_L k) (runZ_ok (fuV_X _ _) (fuV_T k _) (fuV_L k) mixed 12) mixed (fc_1 inr n c i k E X (yC Y) bs x0.h x0.l x0.r x0.o x0.s e.h e.l e.r e.o e.s x2.h x2.l x2.r x2.o x2.s x3.h x3.l x3.r x3.o x3.s) ⟨decide_eq_true (by omega), ⟨by omega, by omega⟩, hcell, hpk, ⟨by omega, by omega⟩, two, ef x0 (by simp), et, ⟨by omega, by omega⟩, two, a1, rgn (by omega), ef x0 (by simp), et, ef x0 (by simp), et, a2, a3, a4, a5, decide_eq_true (by omega), decide_eq_true (by omega), rgn (by omega), ⟨by omega, by omega⟩, (show k + 1 ≤ 4 by omega), rgn (by omega), trivial⟩) rfl (by omega) (by omega) (fun n => n) ?_ ?_ rfl nx
        · exact ⟨rfl, rb_slc rfl (by unfold capBig; omega), rfl, rb_ptr rfl, rfl, rfl, rfl, rb_slc rfl (by unfold capBig; omega), rfl, rb_ptr rfl, rfl, rb_slc rfl (by unfold capBig; omega), rfl, rfl, trivial⟩
        · exact ⟨sh_row rfl rfl hE, sh_row rfl rfl hXf, tb_row rfl rfl, rb_row rfl rfl rfl (yC_upd Y hk _) (yC_fl _), rb_old (by omega) rfl hb.fl, trivial⟩
      · obtain ⟨x0, x1, rfl⟩ := len2 (L := A) (by omega)
        obtain ⟨x3, rfl⟩ := len1 (L := B) (by omega)
        refine LRuns.step (code_runs (fuV_X _ _) (fuV_L k) (runZ_ok (fuV_X _ _) (fuV_T k _) (fuV_L k) mixed 12) mixed (fc_2 inr n c i k E X (yC Y) bs x0.h x0.l x0.r x0.o x0.s x1.h x1.l x1.r x1.o x1.s e.h e.l e.r e.o e.s x3.h x3.l x3.r x3.o x3.s) ⟨decide_eq_true (by omega), ⟨by omega, by omega⟩, hcell, hpk, ⟨by omega, by omega⟩, two, ef x0 (by simp), ef x1 (by simp), et, ⟨by omega, by omega⟩, two, a1, rgn (by omega), ef x0 (by simp), ef x1 (by simp), et, ef x0 (by simp), ef x1 (by simp), et, a2, a3, a4, a5, decide_eq_true (by omega), decide_eq_true (by omega), rgn (by omega), ⟨by omega, by omega⟩, (show k + 1 ≤ 4 by omega), rgn (by omega), trivial⟩) rfl (by omega) (by omega) (fun n => n) ?_ ?_ rfl nx
        · exact ⟨rfl, rb_slc rfl (by unfold capBig; omega), rfl, rb_ptr rfl, rfl, rfl, rfl, rb_slc rfl (by unfold capBig; omega), rfl, rb_ptr rfl, rfl, rb_slc rfl (by unfold capBig; omega), rfl, rfl, trivial⟩
        · exact ⟨sh_row rfl rfl hE, sh_row rfl rfl hXf, tb_row rfl rfl, rb_row rfl rfl rfl (yC_upd Y hk _) (yC_fl _), rb_old (by omega) rfl hb.fl, trivial⟩
      · obtain ⟨x0, x1, x2, rfl⟩ := len3 (L := A) (by omega)
        obtain rfl : B = [] := List.eq_nil_of_length_eq_zero (by omega)
        refine LRuns.step (code_runs (fuV_X _ _) (fuV_L k) (runZ_ok (fuV_X _ _) (fuV_T k _) (fuV_L k) mixed 12) mixed (fc_3 inr n c i k E X (yC Y) bs x0.h x0.l x0.r x0.o x0.s x1.h x1.l x1.r x1.o x1.s x2.h x2.l x2.r x2.o x2.s e.h e.l e.r e.o e.s) ⟨decide_eq_true (by omega), ⟨by omega, by omega⟩, hcell, hpk, ⟨by omega, by omega⟩, two, ef x0 (by simp), ef x1 (by simp), ef x2 (by simp), et, ⟨by omega, by omega⟩, two, a1, rgn (by omega), ef x0 (by simp), ef x1 (by simp), ef x2 (by simp), et, ef x0 (by simp), ef x1 (by simp), ef x2 (by simp), et, a2, a3, a4, a5, decide_eq_true (by omega), decide_eq_true (by omega), rgn (by omega), ⟨by omega, by omega⟩, (show k + 1 ≤ 4 by omega), rgn (by omega), trivial⟩) rfl (by omega) (by omega) (fun n => n) ?_ ?_ rfl nx
        · exact ⟨rfl, rb_slc rfl (by unfold capBig; omega), rfl, rb_ptr rfl, rfl, rfl, rfl, rb_slc rfl (by unfold capBig; omega), rfl, rb_ptr rfl, rfl, rb_slc rfl (by unfold capBig; omega), rfl, rfl, trivial⟩
        · exact ⟨sh_row rfl rfl hE, sh_row rfl rfl hXf, tb_row rfl rfl, rb_row rfl rfl rfl (yC_upd Y hk _) (yC_fl _), rb_old (by omega) rfl hb.fl, trivial⟩
end
/-! ### the least -/
def fdS (m : Nat) (i : Int) : List (Nat × Value) := [(10, eP), (13, .bool true), (14, lX), (17, tP), (18, lL), (27, .int .i64 (m : Int)), (28, .int .i64 i)]
def fdX (m : Nat) : List (Nat × Value) := [(10, eP), (13, .bool true), (14, lX), (17, tP), (27, .int .i64 (m : Int))]
def fdH (E X T : List Value) (Y : Nat → Int) : Hp := [(10, ⟨.shut, E⟩), (11, ⟨.shut, X⟩), (12, ⟨.shut, T⟩), (13, ⟨.shut, yC Y⟩)]
section
variable {E X T : List Value} {Y : Nat → Int}
theorem fd_4 (hE : Fl E) (hX : Fl X) (hT : Fl T) {m : Nat} : ∀ inr h0, LRuns inr Try.prog (fb3 Try.prog) 200 300 h0 204 (fdS m 4) (fdH E X T Y) 200 (.exit 8, fdX m, fdH E X T Y) := fun inr h0 => by
  refine LRuns.exit (code_runs (fuV_X _ _) (fuV_L 0) (runZ_ok (fuV_X _ _) (fuV_T 0 _) (fuV_L 0) mixed 12) mixed (fd_end inr m E X (yC Y) T) alls_nil) (by intro e; cases e) rfl (by omega) (by omega) (fun n => n) ?_ ?_ rfl
  · exact ⟨rfl, rb_ptr rfl, rfl, rfl, rfl, rb_slc rfl (by unfold capBig; omega), rfl, rb_ptr rfl, rfl, rfl, trivial⟩
  · exact ⟨sh_row rfl rfl hE, sh_row rfl rfl hX, sh_row rfl rfl hT, sh_row rfl rfl (yC_fl _), trivial⟩
theorem fd_4x (hE : Fl E) (hX : Fl X) (hT : Fl T) {m : Nat} (hm : m < 4) (hl : ∀ j, j < 4 → Y m ≤ Y j) : ∃ m', m' < 4 ∧ (∀ j, j < 4 → Y m' ≤ Y j) ∧ ∀ inr h0, LRuns inr Try.prog (fb3 Try.prog) 200 300 h0 204 (fdS m 4) (fdH E X T Y) 200 (.exit 8, fdX m', fdH E X T Y) := ⟨m, hm, hl, fd_4 hE hX hT⟩
theorem fd_s3 (hE : Fl E) (hX : Fl X) (hT : Fl T) {m : Nat} (hm : m < 3) (hl : ∀ j, j < 3 → Y m ≤ Y j) : ∃ m', m' < 4 ∧ (∀ j, j < 4 → Y m' ≤ Y j) ∧ ∀ inr h0, LRuns inr Try.prog (fb3 Try.prog) 200 300 h0 204 (fdS m 3) (fdH E X T Y) 200 (.exit 8, fdX m', fdH E X T Y) := by
  obtain ⟨c1, c2⟩ := yC_at Y (j := 3) (by omega)
  obtain ⟨d1, d2⟩ := yC_at Y (j := m) (by omega)
  by_cases hlt : Y 3 < Y m
  · obtain ⟨m', g1, g2, g3⟩ := fd_4x (Y := Y) (m := 3) hE hX hT (by omega) (fun j hj => by
      rcases Nat.lt_or_ge j 3 with h | h
      · have := hl j h; omega
      · obtain rfl : j = 3 := by omega
        exact Int.le_refl _)
    refine ⟨m', g1, g2, fun inr h0 => ?_⟩
    refine LRuns.step (code_runs (fuV_X _ _) (fuV_L 0) (runZ_ok (fuV_X _ _) (fuV_T 0 _) (fuV_L 0) mixed 12) mixed (fd_3t inr m E X (yC Y) T) ⟨⟨by omega, by omega⟩, by rw [c1, c2], ⟨by omega, by omega⟩, by rw [d1, d2], by rw [c2, d2]; exact decide_eq_true hlt, trivial⟩) rfl (by omega) (by omega) (fun n => n) ?_ ?_ rfl (g3 inr h0)
    · exact ⟨rfl, rb_ptr rfl, rfl, rfl, rfl, rb_slc rfl (by unfold capBig; omega), rfl, rb_ptr rfl, rfl, rb_slc rfl (by unfold capBig; omega), rfl, rfl, rfl, rfl, trivial⟩
    · exact ⟨sh_row rfl rfl hE, sh_row rfl rfl hX, sh_row rfl rfl hT, sh_row rfl rfl (yC_fl _), trivial⟩
  · obtain ⟨m', g1, g2, g3⟩ := fd_4x (Y := Y) (m := m) hE hX hT (by omega) (fun j hj => by
      rcases Nat.lt_or_ge j 3 with h | h
      · exact hl j h
      · obtain rfl : j = 3 := by omega
        omega)
    refine ⟨m', g1, g2, fun inr h0 => ?_⟩
    refine LRuns.step (code_runs (fuV_X _ _) (fuV_L 0) (runZ_ok (fuV_X _ _) (fuV_T 0 _) (fuV_L 0) mixed 12) mixed (fd_3f inr m E X (yC Y) T) ⟨⟨by omega, by omega⟩, by rw [c1, c2], ⟨by omega, by omega⟩, by rw [d1, d2], by rw [c2, d2]; exact decide_eq_false hlt, trivial⟩) rfl (by omega) (by omega) (fun n => n) ?_ ?_ rfl (g3 inr h0)
    · exact ⟨rfl, rb_ptr rfl, rfl, rfl, rfl, rb_slc rfl (by unfold capBig; omega), rfl, rb_ptr rfl, rfl, rb_slc rfl (by unfold capBig; omega), rfl, rfl, rfl, rfl, trivial⟩
    · exact ⟨sh_row rfl rfl hE, sh_row rfl rfl hX, sh_row rfl rfl hT, sh_row rfl rfl (yC_fl _), trivial⟩
theorem fd_s2 (hE : Fl E) (hX : Fl X) (hT : Fl T) {m : Nat} (hm : m < 2) (hl : ∀ j, j < 2 → Y m ≤ Y j) : ∃ m', m' < 4 ∧ (∀ j, j < 4 → Y m' ≤ Y j) ∧ ∀ inr h0, LRuns inr Try.prog (fb3 Try.prog) 200 300 h0 204 (fdS m 2) (fdH E X T Y) 200 (.exit 8, fdX m', fdH E X T Y) := by
  obtain ⟨c1, c2⟩ := yC_at Y (j := 2) (by omega)
  obtain ⟨d1, d2⟩ := yC_at Y (j := m) (by omega)
  by_cases hlt : Y 2 < Y m
  · obtain ⟨m', g1, g2, g3⟩ := fd_s3 (Y := Y) (m := 2) hE hX hT (by omega) (fun j hj => by
      rcases Nat.lt_or_ge j 2 with h | h
      · have := hl j h; omega
      · obtain rfl : j = 2 := by omega
        exact Int.le_refl _)
    refine ⟨m', g1, g2, fun inr h0 => ?_⟩
    refine LRuns.step (code_runs (fuV_X _ _) (fuV_L 0) (runZ_ok (fuV_X _ _) (fuV_T 0 _) (fuV_L 0) mixed 12) mixed (fd_2t inr m E X (yC Y) T) ⟨⟨by omega, by omega⟩, by rw [c1, c2], ⟨by omega, by omega⟩, by rw [d1, d2], by rw [c2, d2]; exact decide_eq_true hlt, trivial⟩) rfl (by omega) (by omega) (fun n => n) ?_ ?_ rfl (g3 inr h0)
    · exact ⟨rfl, rb_ptr rfl, rfl, rfl, rfl, rb_slc rfl (by unfold capBig; omega), rfl, rb_ptr rfl, rfl, rb_slc rfl (by unfold capBig; omega), rfl, rfl, rfl, rfl, trivial⟩
    · exact ⟨sh_row rfl rfl hE, sh_row rfl rfl hX, sh_row rfl rfl hT, sh_row rfl rfl (yC_fl _), trivial⟩
  · obtain ⟨m', g1, g2, g3⟩ := fd_s3 (Y := Y) (m := m) hE hX hT (by omega) (fun j hj => by
      rcases Nat.lt_or_ge j 2 with h | h
      · exact hl j h
      · obtain rfl : j = 2 := by omega
        omega)
    refine ⟨m', g1, g2, fun inr h0 => ?_⟩
    refine LRuns.step (code_runs (fuV_X _ _) (fuV_L 0) (runZ_ok (fuV_X _ _) (fuV_T 0 _) (fuV_L 0) mixed 12) mixed (fd_2f inr m E X (yC Y) T) ⟨⟨by omega, by omega⟩, by rw [c1, c2], ⟨by omega, by omega⟩, by rw [d1, d2], by rw [c2, d2]; exact decide_eq_false hlt, trivial⟩) rfl (by omega) (by omega) (fun n => n) ?_ ?_ rfl (g3 inr h0)
    · exact ⟨rfl, rb_ptr rfl, rfl, rfl, rfl, rb_slc rfl (by unfold capBig; omega), rfl, rb_ptr rfl, rfl, rb_slc rfl (by unfold capBig; omega), rfl, rfl, rfl, rfl, trivial⟩
    · exact ⟨sh_row rfl rfl hE, sh_row rfl rfl hX, sh_row rfl rfl hT, sh_row rfl rfl (yC_fl _), trivial⟩
theorem fd_s1 (hE : Fl E) (hX : Fl X) (hT : Fl T) {m : Nat} (hm : m < 1) (hl : ∀ j, j < 1 → Y m ≤ Y j) : ∃ m', m' < 4 ∧ (∀ j, j < 4 → Y m' ≤ Y j) ∧ ∀ inr h0, LRuns inr Try.prog (fb3 Try.prog) 200 300 h0 204 (fdS m 1) (fdH E X T Y) 200 (.exit 8, fdX m', fdH E X T Y) := by
  obtain ⟨c1, c2⟩ := yC_at Y (j := 1) (by omega)
  obtain ⟨d1, d2⟩ := yC_at Y (j := m) (by omega)
  by_cases hlt : Y 1 < Y m
  · obtain ⟨m', g1, g2, g3⟩ := fd_s2 (Y := Y) (m := 1) hE hX hT (by omega) (fun j hj => by
      rcases Nat.lt_or_ge j 1 with h | h
      · have := hl j h; omega
      · obtain rfl : j = 1 := by omega
        exact Int.le_refl _)
    refine ⟨m', g1, g2, fun inr h0 => ?_⟩
    refine LRuns.step (code_runs (fuV_X _ _) (fuV_L 0) (runZ_ok (fuV_X _ _) (fuV_T 0 _) (fuV_L 0) mixed 12) mixed (fd_1t inr m E X (yC Y) T) ⟨⟨by omega, by omega⟩, by rw [c1, c2], ⟨by omega, by omega⟩, by rw [d1, d2], by rw [c2, d2]; exact decide_eq_true hlt, trivial⟩) rfl (by omega) (by omega) (fun n => n) ?_ ?_ rfl (g3 inr h0)
    · exact ⟨rfl, rb_ptr rfl, rfl, rfl, rfl, rb_slc rfl (by unfold capBig; omega), rfl, rb_ptr rfl, rfl, rb_slc rfl (by unfold capBig; omega), rfl, rfl, rfl, rfl, trivial⟩
    · exact ⟨sh_row rfl rfl hE, sh_row rfl rfl hX, sh_row rfl rfl hT, sh_row rfl rfl (yC_fl _), trivial⟩
  · obtain ⟨m', g1, g2, g3⟩ := fd_s2 (Y := Y) (m := m) hE hX hT (by omega) (fun j hj => by
      rcases Nat.lt_or_ge j 1 with h | h
      · exact hl j h
      · obtain rfl : j = 1 := by omega
        omega)
    refine ⟨m', g1, g2, fun inr h0 => ?_⟩
    refine LRuns.step (code_runs (fuV_X _ _) (fuV_L 0) (runZ_ok (fuV_X _ _) (fuV_T 0 _) (fuV_L 0) mixed 12) mixed (fd_1f inr m E X (yC Y) T) ⟨⟨by omega, by omega⟩, by rw [c1, c2], ⟨by omega, by omega⟩, by rw [d1, d2], by rw [c2, d2]; exact decide_eq_false hlt, trivial⟩) rfl (by omega) (by omega) (fun n => n) ?_ ?_ rfl (g3 inr h0)
    · exact ⟨rfl, rb_ptr rfl, rfl, rfl, rfl, rb_slc rfl (by unfold capBig; omega), rfl, rb_ptr rfl, rfl, rb_slc rfl (by unfold capBig; omega), rfl, rfl, rfl, rfl, trivial⟩
    · exact ⟨sh_row rfl rfl hE, sh_row rfl rfl hX, sh_row rfl rfl hT, sh_row rfl rfl (yC_fl _), trivial⟩
end
/-! ### who is there -/
def ffS (m i : Nat) : List (Nat × Value) := [(13, .bool true), (14, lX), (17, tP), (27, .int .i64 (m : Int)), (32, .int .i64 (i : Int))]
def ffH (X : List Value) (L : List En) : Hp := [(11, ⟨.shut, X⟩), (12, tbL L)]
theorem ff_loop {X : List Value} {m : Nat} {L : List En} (hXf : Fl X) (h : Fin5 X m L) {inr : Bool} {h0 : Hp} : ∀ (r i : Nat), i + r = 5 →
    LRuns inr Try.prog (fb4 Try.prog) 344 600 h0 204 (ffS m i) (ffH X L) 400 (.exit 10, [(13, .bool true)], [])
  | 0, i, hr => by
      obtain ⟨e0, L, rfl⟩ : ∃ a t, L = a :: t := by cases L with | nil => have := h.hn; cases this | cons a t => exact ⟨a, t, rfl⟩
      obtain ⟨e1, e2, e3, rfl⟩ := len3 (by have := h.hn; simpa using this)
      refine LRuns.exit (code_runs (fuV_X _ _) (fuV_L 0) (runZ_ok (fuV_X _ _) (fuV_T 0 _) (fuV_L 0) mixed 12) mixed (ff_end inr m i X e0.h e0.l e0.r e0.o e0.s e1.h e1.l e1.r e1.o e1.s e2.h e2.l e2.r e2.o e2.s e3.h e3.l e3.r e3.o e3.s) ⟨decide_eq_false (by omega), trivial⟩) (by intro e; cases e) rfl (by omega) (by omega) (fun n => n) ?_ ?_ rfl
      · exact ⟨rfl, rfl, trivial⟩
      · exact trivial
  | r + 1, i, hr => by
      have nx := ff_loop hXf h (inr := inr) (h0 := h0) r (i + 1) (by omega)
      have hw := h.hu.w (k := i) (by omega)
      have two := h.hu.two (k := i) (by omega)
      obtain ⟨e0, L, rfl⟩ : ∃ a t, L = a :: t := by cases L with | nil => have := h.hn; cases this | cons a t => exact ⟨a, t, rfl⟩
      obtain ⟨e1, e2, e3, rfl⟩ := len3 (by have := h.hn; simpa using this)
      have hi := h.hi i (by omega)
      have et : ∀ e ∈ [e0, e1, e2, e3], e.nm = cl X i → (e.h == intAt X (i * 2) && (e.l == intAt X (i * 2 + 1) && true)) = true := fun e he hn => eqt (h.hw e he).1 (h.hw e he).2 hw.1 hw.2 hn
      have ef : ∀ e : En, e.nm ≠ cl X i → (e.h == intAt X (i * 2) && (e.l == intAt X (i * 2 + 1) && true)) = false := fun e hn => eqf hn
      have tn : (∃ e ∈ [e0, e1, e2, e3], e.nm = cl X i) → (((i : Nat) : Int) != ((m : Nat) : Int)) = true := fun hh => by
        have := hi.2 hh
        simp only [bne_iff_ne, ne_eq]
        omega
      by_cases c0 : e0.nm = cl X i
      · refine LRuns.step (code_runs (fuV_X _ _) (fuV_L 0) (runZ_ok (fuV_X _ _) (fuV_T 0 _) (fuV_L 0) mixed 12) mixed (ff_0 inr m i X e0.h e0.l e0.r e0.o e0.s e1.h e1.l e1.r e1.o e1.s e2.h e2.l e2.r e2.o e2.s e3.h e3.l e3.r e3.o e3.s) ⟨decide_eq_true (by omega), ⟨by omega, by omega⟩, two, et e0 (by simp) c0, tn ⟨e0, by simp, c0⟩, rgn (by omega), trivial⟩) rfl (by omega) (by omega) (fun n => n) ?_ ?_ rfl nx
        · exact ⟨rfl, rfl, rfl, rb_slc rfl (by unfold capBig; omega), rfl, rb_ptr rfl, rfl, rfl, rfl, rfl, trivial⟩
        · exact ⟨sh_row rfl rfl hXf, tb_row rfl rfl, trivial⟩
      ·
        by_cases c1 : e1.nm = cl X i
        · refine LRuns.step (code_runs (fuV_X _ _) (fuV_L 0) (runZ_ok (fuV_X _ _) (fuV_T 0 _) (fuV_L 0) mixed 12) mixed (ff_1 inr m i X e0.h e0.l e0.r e0.o e0.s e1.h e1.l e1.r e1.o e1.s e2.h e2.l e2.r e2.o e2.s e3.h e3.l e3.r e3.o e3.s) ⟨decide_eq_true (by omega), ⟨by omega, by omega⟩, two, ef e0 c0, et e1 (by simp) c1, tn ⟨e1, by simp, c1⟩, rgn (by omega), trivial⟩) rfl (by omega) (by omega) (fun n => n) ?_ ?_ rfl nx
          · exact ⟨rfl, rfl, rfl, rb_slc rfl (by unfold capBig; omega), rfl, rb_ptr rfl, rfl, rfl, rfl, rfl, trivial⟩
          · exact ⟨sh_row rfl rfl hXf, tb_row rfl rfl, trivial⟩
        ·
          by_cases c2 : e2.nm = cl X i
          · refine LRuns.step (code_runs (fuV_X _ _) (fuV_L 0) (runZ_ok (fuV_X _ _) (fuV_T 0 _) (fuV_L 0) mixed 12) mixed (ff_2 inr m i X e0.h e0.l e0.r e0.o e0.s e1.h e1.l e1.r e1.o e1.s e2.h e2.l e2.r e2.o e2.s e3.h e3.l e3.r e3.o e3.s) ⟨decide_eq_true (by omega), ⟨by omega, by omega⟩, two, ef e0 c0, ef e1 c1, et e2 (by simp) c2, tn ⟨e2, by simp, c2⟩, rgn (by omega), trivial⟩) rfl (by omega) (by omega) (fun n => n) ?_ ?_ rfl nx
            · exact ⟨rfl, rfl, rfl, rb_slc rfl (by unfold capBig; omega), rfl, rb_ptr rfl, rfl, rfl, rfl, rfl, trivial⟩
            · exact ⟨sh_row rfl rfl hXf, tb_row rfl rfl, trivial⟩
          ·
            by_cases c3 : e3.nm = cl X i
            · refine LRuns.step (code_runs (fuV_X _ _) (fuV_L 0) (runZ_ok (fuV_X _ _) (fuV_T 0 _) (fuV_L 0) mixed 12) mixed (ff_3 inr m i X e0.h e0.l e0.r e0.o e0.s e1.h e1.l e1.r e1.o e1.s e2.h e2.l e2.r e2.o e2.s e3.h e3.l e3.r e3.o e3.s) ⟨decide_eq_true (by omega), ⟨by omega, by omega⟩, two, ef e0 c0, ef e1 c1, ef e2 c2, et e3 (by simp) c3, tn ⟨e3, by simp, c3⟩, rgn (by omega), trivial⟩) rfl (by omega) (by omega) (fun n => n) ?_ ?_ rfl nx
              · exact ⟨rfl, rfl, rfl, rb_slc rfl (by unfold capBig; omega), rfl, rb_ptr rfl, rfl, rfl, rfl, rfl, trivial⟩
              · exact ⟨sh_row rfl rfl hXf, tb_row rfl rfl, trivial⟩
            ·
              have nn : (((i : Nat) : Int) != ((m : Nat) : Int)) = false := by
                have : ¬ (i ≠ m) := fun hh => by
                  obtain ⟨e, he, hn⟩ := hi.1 hh
                  simp only [List.mem_cons, List.not_mem_nil, or_false] at he
                  rcases he with rfl | rfl | rfl | rfl
                  · exact c0 hn
                  · exact c1 hn
                  · exact c2 hn
                  · exact c3 hn
                simp only [bne_eq_false_iff_eq]
                omega
              refine LRuns.step (code_runs (fuV_X _ _) (fuV_L 0) (runZ_ok (fuV_X _ _) (fuV_T 0 _) (fuV_L 0) mixed 12) mixed (ff_4 inr m i X e0.h e0.l e0.r e0.o e0.s e1.h e1.l e1.r e1.o e1.s e2.h e2.l e2.r e2.o e2.s e3.h e3.l e3.r e3.o e3.s) ⟨decide_eq_true (by omega), ⟨by omega, by omega⟩, two, ef e0 c0, ef e1 c1, ef e2 c2, ef e3 c3, nn, rgn (by omega), trivial⟩) rfl (by omega) (by omega) (fun n => n) ?_ ?_ rfl nx
              · exact ⟨rfl, rfl, rfl, rb_slc rfl (by unfold capBig; omega), rfl, rb_ptr rfl, rfl, rfl, rfl, rfl, trivial⟩
              · exact ⟨sh_row rfl rfl hXf, tb_row rfl rfl, trivial⟩
end Go.Proofs.Ytdcakhahagbedaa
