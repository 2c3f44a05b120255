/-
  Chapter 22: the statement SessionFull: its last registration (written by wip/tools/gen_fule.py).
-/
import Derived.Test.YtdcakhahagbedaaFulE
import Derived.Test.YtdcakhahagbedaaFulBa
namespace Go.Proofs.Ytdcakhahagbedaa
set_option linter.unusedSimpArgs false
set_option linter.unusedVariables false
set_option linter.unusedSectionVars false
open Go Go.RowKit
theorem t4_lll0 {X : List Value} {Y : Nat → Int} {n m : Nat} {e0 e1 e2 e3 : En} (T : Tl X Y n m [e0, e1, e2, e3]) (c1 : e1.o < e0.o) (c2 : e2.o < e1.o) (c3 : e3.o < e2.o) (i0 : cl X 4 < e0.nm) (i1 : cl X 4 < e1.nm) (i2 : cl X 4 < e2.nm) : TailF Try.prog X m [e0, e1, e2, e3] := by
  have hm := T.hm
  have hw := T.hX.u.w (k := 4) (by omega)
  have hwm := T.hX.u.w (k := m) (by omega)
  have two := T.hX.u.two (k := m) (by omega)
  have nz : (intAt X 8 == 0 && (intAt X 9 == 0 && true)) = false := eqf (by have := T.hX.nz 4 (by omega); exact this)
  have nw := T.hI.new T.hX (by omega)
  have wd : ∀ e ∈ [e0, e1, e2, e3], w6 e.h ∧ w6 e.l := fun e he => ⟨(T.hI.wid e he).1, (T.hI.wid e he).2.1⟩
  have w0 := wd e0 (by simp)
  have w1 := wd e1 (by simp)
  have w2 := wd e2 (by simp)
  have w3 := wd e3 (by simp)
  obtain ⟨s01, s02, s03, s12, s13, s23⟩ := srt4 T.hI.srt
  have hq : e3.nm = cl X m := T.least (by simp) (fun f hf => by
    simp only [List.mem_cons, List.not_mem_nil, or_false] at hf
    rcases hf with rfl | rfl | rfl | rfl <;> omega)
  have F5 : Fin5 X m [newF X, e0, e1, e2] := fin5_of T.hX T.hI hm (eq := e3) (R := [e0, e1, e2]) (fun e => by simp [or_comm, or_left_comm, or_assoc]) (fun e he => by
    simp only [List.mem_cons, List.not_mem_nil, or_false] at he
    rcases he with rfl | rfl | rfl <;> omega) hq (fun e => by simp [or_comm, or_left_comm, or_assoc]) rfl
  refine tail_ofE (fun inr => code_runsT (fuV_X _ _) (L_okV rfl (fuF_one X _)) (runZ_ok (fuV_X _ _) (fuV_T 0 _) (L_okV rfl (fuF_one X _)) mixed 14) mixed (fe_lll0 inr m X (intAt X 8) (intAt X 9) e0.h e0.l e0.r e0.o e0.s e1.h e1.l e1.r e1.o e1.s e2.h e2.l e2.r e2.o e2.s e3.h e3.l e3.r e3.o e3.s) ⟨nz, rfl, rfl, eqf (nw e0 (by simp)), eqf (nw e1 (by simp)), eqf (nw e2 (by simp)), eqf (nw e3 (by simp)), bne_self_eq_false _, bne_self_eq_false _, decide_eq_false (Int.lt_irrefl _), decide_eq_false (Int.lt_irrefl _), ⟨⟨w0.1, w0.2, w0.1, w0.2⟩, rfl⟩, bne_self_eq_false _, bne_self_eq_false _, decide_eq_true c1, ⟨⟨w1.1, w1.2, w0.1, w0.2⟩, s01⟩, bne_self_eq_false _, bne_self_eq_false _, decide_eq_true c2, ⟨⟨w2.1, w2.2, w1.1, w1.2⟩, s12⟩, bne_self_eq_false _, bne_self_eq_false _, decide_eq_true c3, ⟨⟨w3.1, w3.2, w2.1, w2.2⟩, s23⟩, CmN.gt w0 hw i0, CmN.gt w1 hw i1, CmN.gt w2 hw i2, ⟨by omega, by omega⟩, two, (by rw [eqt w3.1 w3.2 hwm.1 hwm.2 hq]; rfl), rfl, ⟨rfl, rfl⟩, rfl, rfl, F5, trivial⟩) rfl (by omega) (fun σ => rfl)
theorem t4_lll1 {X : List Value} {Y : Nat → Int} {n m : Nat} {e0 e1 e2 e3 : En} (T : Tl X Y n m [e0, e1, e2, e3]) (c1 : e1.o < e0.o) (c2 : e2.o < e1.o) (c3 : e3.o < e2.o) (i0 : e0.nm < cl X 4) (i1 : cl X 4 < e1.nm) (i2 : cl X 4 < e2.nm) : TailF Try.prog X m [e0, e1, e2, e3] := by
  have hm := T.hm
  have hw := T.hX.u.w (k := 4) (by omega)
  have hwm := T.hX.u.w (k := m) (by omega)
  have two := T.hX.u.two (k := m) (by omega)
  have nz : (intAt X 8 == 0 && (intAt X 9 == 0 && true)) = false := eqf (by have := T.hX.nz 4 (by omega); exact this)
  have nw := T.hI.new T.hX (by omega)
  have wd : ∀ e ∈ [e0, e1, e2, e3], w6 e.h ∧ w6 e.l := fun e he => ⟨(T.hI.wid e he).1, (T.hI.wid e he).2.1⟩
  have w0 := wd e0 (by simp)
  have w1 := wd e1 (by simp)
  have w2 := wd e2 (by simp)
  have w3 := wd e3 (by simp)
  obtain ⟨s01, s02, s03, s12, s13, s23⟩ := srt4 T.hI.srt
  have hq : e3.nm = cl X m := T.least (by simp) (fun f hf => by
    simp only [List.mem_cons, List.not_mem_nil, or_false] at hf
    rcases hf with rfl | rfl | rfl | rfl <;> omega)
  have F5 : Fin5 X m [e0, newF X, e1, e2] := fin5_of T.hX T.hI hm (eq := e3) (R := [e0, e1, e2]) (fun e => by simp [or_comm, or_left_comm, or_assoc]) (fun e he => by
    simp only [List.mem_cons, List.not_mem_nil, or_false] at he
    rcases he with rfl | rfl | rfl <;> omega) hq (fun e => by simp [or_comm, or_left_comm, or_assoc]) rfl
  refine tail_ofE (fun inr => code_runsT (fuV_X _ _) (L_okV rfl (fuF_one X _)) (runZ_ok (fuV_X _ _) (fuV_T 0 _) (L_okV rfl (fuF_one X _)) mixed 14) mixed (fe_lll1 inr m X (intAt X 8) (intAt X 9) e0.h e0.l e0.r e0.o e0.s e1.h e1.l e1.r e1.o e1.s e2.h e2.l e2.r e2.o e2.s e3.h e3.l e3.r e3.o e3.s) ⟨nz, rfl, rfl, eqf (nw e0 (by simp)), eqf (nw e1 (by simp)), eqf (nw e2 (by simp)), eqf (nw e3 (by simp)), bne_self_eq_false _, bne_self_eq_false _, decide_eq_false (Int.lt_irrefl _), decide_eq_false (Int.lt_irrefl _), ⟨⟨w0.1, w0.2, w0.1, w0.2⟩, rfl⟩, bne_self_eq_false _, bne_self_eq_false _, decide_eq_true c1, ⟨⟨w1.1, w1.2, w0.1, w0.2⟩, s01⟩, bne_self_eq_false _, bne_self_eq_false _, decide_eq_true c2, ⟨⟨w2.1, w2.2, w1.1, w1.2⟩, s12⟩, bne_self_eq_false _, bne_self_eq_false _, decide_eq_true c3, ⟨⟨w3.1, w3.2, w2.1, w2.2⟩, s23⟩, CmN.lt w0 hw i0, CmN.gt w1 hw i1, CmN.gt w2 hw i2, ⟨by omega, by omega⟩, two, (by rw [eqt w3.1 w3.2 hwm.1 hwm.2 hq]; rfl), rfl, ⟨rfl, rfl⟩, rfl, rfl, F5, trivial⟩) rfl (by omega) (fun σ => rfl)
theorem t4_lll2 {X : List Value} {Y : Nat → Int} {n m : Nat} {e0 e1 e2 e3 : En} (T : Tl X Y n m [e0, e1, e2, e3]) (c1 : e1.o < e0.o) (c2 : e2.o < e1.o) (c3 : e3.o < e2.o) (i0 : e0.nm < cl X 4) (i1 : e1.nm < cl X 4) (i2 : cl X 4 < e2.nm) : TailF Try.prog X m [e0, e1, e2, e3] := by
  have hm := T.hm
  have hw := T.hX.u.w (k := 4) (by omega)
  have hwm := T.hX.u.w (k := m) (by omega)
  have two := T.hX.u.two (k := m) (by omega)
  have nz : (intAt X 8 == 0 && (intAt X 9 == 0 && true)) = false := eqf (by have := T.hX.nz 4 (by omega); exact this)
  have nw := T.hI.new T.hX (by omega)
  have wd : ∀ e ∈ [e0, e1, e2, e3], w6 e.h ∧ w6 e.l := fun e he => ⟨(T.hI.wid e he).1, (T.hI.wid e he).2.1⟩
  have w0 := wd e0 (by simp)
  have w1 := wd e1 (by simp)
  have w2 := wd e2 (by simp)
  have w3 := wd e3 (by simp)
  obtain ⟨s01, s02, s03, s12, s13, s23⟩ := srt4 T.hI.srt
  have hq : e3.nm = cl X m := T.least (by simp) (fun f hf => by
    simp only [List.mem_cons, List.not_mem_nil, or_false] at hf
    rcases hf with rfl | rfl | rfl | rfl <;> omega)
  have F5 : Fin5 X m [e0, e1, newF X, e2] := fin5_of T.hX T.hI hm (eq := e3) (R := [e0, e1, e2]) (fun e => by simp [or_comm, or_left_comm, or_assoc]) (fun e he => by
    simp only [List.mem_cons, List.not_mem_nil, or_false] at he
    rcases he with rfl | rfl | rfl <;> omega) hq (fun e => by simp [or_comm, or_left_comm, or_assoc]) rfl
  refine tail_ofE (fun inr => code_runsT (fuV_X _ _) (L_okV rfl (fuF_one X _)) (runZ_ok (fuV_X _ _) (fuV_T 0 _) (L_okV rfl (fuF_one X _)) mixed 14) mixed (fe_lll2 inr m X (intAt X 8) (intAt X 9) e0.h e0.l e0.r e0.o e0.s e1.h e1.l e1.r e1.o e1.s e2.h e2.l e2.r e2.o e2.s e3.h e3.l e3.r e3.o e3.s) ⟨nz, rfl, rfl, eqf (nw e0 (by simp)), eqf (nw e1 (by simp)), eqf (nw e2 (by simp)), eqf (nw e3 (by simp)), bne_self_eq_false _, bne_self_eq_false _, decide_eq_false (Int.lt_irrefl _), decide_eq_false (Int.lt_irrefl _), ⟨⟨w0.1, w0.2, w0.1, w0.2⟩, rfl⟩, bne_self_eq_false _, bne_self_eq_false _, decide_eq_true c1, ⟨⟨w1.1, w1.2, w0.1, w0.2⟩, s01⟩, bne_self_eq_false _, bne_self_eq_false _, decide_eq_true c2, ⟨⟨w2.1, w2.2, w1.1, w1.2⟩, s12⟩, bne_self_eq_false _, bne_self_eq_false _, decide_eq_true c3, ⟨⟨w3.1, w3.2, w2.1, w2.2⟩, s23⟩, CmN.lt w0 hw i0, CmN.lt w1 hw i1, CmN.gt w2 hw i2, ⟨by omega, by omega⟩, two, (by rw [eqt w3.1 w3.2 hwm.1 hwm.2 hq]; rfl), rfl, ⟨rfl, rfl⟩, rfl, rfl, F5, trivial⟩) rfl (by omega) (fun σ => rfl)
theorem t4_lll3 {X : List Value} {Y : Nat → Int} {n m : Nat} {e0 e1 e2 e3 : En} (T : Tl X Y n m [e0, e1, e2, e3]) (c1 : e1.o < e0.o) (c2 : e2.o < e1.o) (c3 : e3.o < e2.o) (i0 : e0.nm < cl X 4) (i1 : e1.nm < cl X 4) (i2 : e2.nm < cl X 4) : TailF Try.prog X m [e0, e1, e2, e3] := by
  have hm := T.hm
  have hw := T.hX.u.w (k := 4) (by omega)
  have hwm := T.hX.u.w (k := m) (by omega)
  have two := T.hX.u.two (k := m) (by omega)
  have nz : (intAt X 8 == 0 && (intAt X 9 == 0 && true)) = false := eqf (by have := T.hX.nz 4 (by omega); exact this)
  have nw := T.hI.new T.hX (by omega)
  have wd : ∀ e ∈ [e0, e1, e2, e3], w6 e.h ∧ w6 e.l := fun e he => ⟨(T.hI.wid e he).1, (T.hI.wid e he).2.1⟩
  have w0 := wd e0 (by simp)
  have w1 := wd e1 (by simp)
  have w2 := wd e2 (by simp)
  have w3 := wd e3 (by simp)
  obtain ⟨s01, s02, s03, s12, s13, s23⟩ := srt4 T.hI.srt
  have hq : e3.nm = cl X m := T.least (by simp) (fun f hf => by
    simp only [List.mem_cons, List.not_mem_nil, or_false] at hf
    rcases hf with rfl | rfl | rfl | rfl <;> omega)
  have F5 : Fin5 X m [e0, e1, e2, newF X] := fin5_of T.hX T.hI hm (eq := e3) (R := [e0, e1, e2]) (fun e => by simp [or_comm, or_left_comm, or_assoc]) (fun e he => by
    simp only [List.mem_cons, List.not_mem_nil, or_false] at he
    rcases he with rfl | rfl | rfl <;> omega) hq (fun e => by simp [or_comm, or_left_comm, or_assoc]) rfl
  refine tail_ofE (fun inr => code_runsT (fuV_X _ _) (L_okV rfl (fuF_one X _)) (runZ_ok (fuV_X _ _) (fuV_T 0 _) (L_okV rfl (fuF_one X _)) mixed 14) mixed (fe_lll3 inr m X (intAt X 8) (intAt X 9) e0.h e0.l e0.r e0.o e0.s e1.h e1.l e1.r e1.o e1.s e2.h e2.l e2.r e2.o e2.s e3.h e3.l e3.r e3.o e3.s) ⟨nz, rfl, rfl, eqf (nw e0 (by simp)), eqf (nw e1 (by simp)), eqf (nw e2 (by simp)), eqf (nw e3 (by simp)), bne_self_eq_false _, bne_self_eq_false _, decide_eq_false (Int.lt_irrefl _), decide_eq_false (Int.lt_irrefl _), ⟨⟨w0.1, w0.2, w0.1, w0.2⟩, rfl⟩, bne_self_eq_false _, bne_self_eq_false _, decide_eq_true c1, ⟨⟨w1.1, w1.2, w0.1, w0.2⟩, s01⟩, bne_self_eq_false _, bne_self_eq_false _, decide_eq_true c2, ⟨⟨w2.1, w2.2, w1.1, w1.2⟩, s12⟩, bne_self_eq_false _, bne_self_eq_false _, decide_eq_true c3, ⟨⟨w3.1, w3.2, w2.1, w2.2⟩, s23⟩, CmN.lt w0 hw i0, CmN.lt w1 hw i1, CmN.lt w2 hw i2, ⟨by omega, by omega⟩, two, (by rw [eqt w3.1 w3.2 hwm.1 hwm.2 hq]; rfl), rfl, ⟨rfl, rfl⟩, rfl, rfl, F5, trivial⟩) rfl (by omega) (fun σ => rfl)
theorem t4_llg0 {X : List Value} {Y : Nat → Int} {n m : Nat} {e0 e1 e2 e3 : En} (T : Tl X Y n m [e0, e1, e2, e3]) (c1 : e1.o < e0.o) (c2 : e2.o < e1.o) (c3 : e2.o < e3.o) (i0 : cl X 4 < e0.nm) (i1 : cl X 4 < e1.nm) (i3 : cl X 4 < e3.nm) : TailF Try.prog X m [e0, e1, e2, e3] := by
  have hm := T.hm
  have hw := T.hX.u.w (k := 4) (by omega)
  have hwm := T.hX.u.w (k := m) (by omega)
  have two := T.hX.u.two (k := m) (by omega)
  have nz : (intAt X 8 == 0 && (intAt X 9 == 0 && true)) = false := eqf (by have := T.hX.nz 4 (by omega); exact this)
  have nw := T.hI.new T.hX (by omega)
  have wd : ∀ e ∈ [e0, e1, e2, e3], w6 e.h ∧ w6 e.l := fun e he => ⟨(T.hI.wid e he).1, (T.hI.wid e he).2.1⟩
  have w0 := wd e0 (by simp)
  have w1 := wd e1 (by simp)
  have w2 := wd e2 (by simp)
  have w3 := wd e3 (by simp)
  obtain ⟨s01, s02, s03, s12, s13, s23⟩ := srt4 T.hI.srt
  have hq : e2.nm = cl X m := T.least (by simp) (fun f hf => by
    simp only [List.mem_cons, List.not_mem_nil, or_false] at hf
    rcases hf with rfl | rfl | rfl | rfl <;> omega)
  have F5 : Fin5 X m [newF X, e0, e1, e3] := fin5_of T.hX T.hI hm (eq := e2) (R := [e0, e1, e3]) (fun e => by simp [or_comm, or_left_comm, or_assoc]) (fun e he => by
    simp only [List.mem_cons, List.not_mem_nil, or_false] at he
    rcases he with rfl | rfl | rfl <;> omega) hq (fun e => by simp [or_comm, or_left_comm, or_assoc]) rfl
  refine tail_ofE (fun inr => code_runsT (fuV_X _ _) (L_okV rfl (fuF_one X _)) (runZ_ok (fuV_X _ _) (fuV_T 0 _) (L_okV rfl (fuF_one X _)) mixed 14) mixed (fe_llg0 inr m X (intAt X 8) (intAt X 9) e0.h e0.l e0.r e0.o e0.s e1.h e1.l e1.r e1.o e1.s e2.h e2.l e2.r e2.o e2.s e3.h e3.l e3.r e3.o e3.s) ⟨nz, rfl, rfl, eqf (nw e0 (by simp)), eqf (nw e1 (by simp)), eqf (nw e2 (by simp)), eqf (nw e3 (by simp)), bne_self_eq_false _, bne_self_eq_false _, decide_eq_false (Int.lt_irrefl _), decide_eq_false (Int.lt_irrefl _), ⟨⟨w0.1, w0.2, w0.1, w0.2⟩, rfl⟩, bne_self_eq_false _, bne_self_eq_false _, decide_eq_true c1, ⟨⟨w1.1, w1.2, w0.1, w0.2⟩, s01⟩, bne_self_eq_false _, bne_self_eq_false _, decide_eq_true c2, ⟨⟨w2.1, w2.2, w1.1, w1.2⟩, s12⟩, bne_self_eq_false _, bne_self_eq_false _, decide_eq_false (by omega), decide_eq_true c3, ⟨⟨w3.1, w3.2, w2.1, w2.2⟩, s23⟩, CmN.gt w0 hw i0, CmN.gt w1 hw i1, CmN.gt w3 hw i3, ⟨by omega, by omega⟩, two, (by rw [eqt w2.1 w2.2 hwm.1 hwm.2 hq]; rfl), rfl, ⟨rfl, rfl⟩, rfl, rfl, F5, trivial⟩) rfl (by omega) (fun σ => rfl)
theorem t4_llg1 {X : List Value} {Y : Nat → Int} {n m : Nat} {e0 e1 e2 e3 : En} (T : Tl X Y n m [e0, e1, e2, e3]) (c1 : e1.o < e0.o) (c2 : e2.o < e1.o) (c3 : e2.o < e3.o) (i0 : e0.nm < cl X 4) (i1 : cl X 4 < e1.nm) (i3 : cl X 4 < e3.nm) : TailF Try.prog X m [e0, e1, e2, e3] := by
  have hm := T.hm
  have hw := T.hX.u.w (k := 4) (by omega)
  have hwm := T.hX.u.w (k := m) (by omega)
  have two := T.hX.u.two (k := m) (by omega)
  have nz : (intAt X 8 == 0 && (intAt X 9 == 0 && true)) = false := eqf (by have := T.hX.nz 4 (by omega); exact this)
  have nw := T.hI.new T.hX (by omega)
  have wd : ∀ e ∈ [e0, e1, e2, e3], w6 e.h ∧ w6 e.l := fun e he => ⟨(T.hI.wid e he).1, (T.hI.wid e he).2.1⟩
  have w0 := wd e0 (by simp)
  have w1 := wd e1 (by simp)
  have w2 := wd e2 (by simp)
  have w3 := wd e3 (by simp)
  obtain ⟨s01, s02, s03, s12, s13, s23⟩ := srt4 T.hI.srt
  have hq : e2.nm = cl X m := T.least (by simp) (fun f hf => by
    simp only [List.mem_cons, List.not_mem_nil, or_false] at hf
    rcases hf with rfl | rfl | rfl | rfl <;> omega)
  have F5 : Fin5 X m [e0, newF X, e1, e3] := fin5_of T.hX T.hI hm (eq := e2) (R := [e0, e1, e3]) (fun e => by simp [or_comm, or_left_comm, or_assoc]) (fun e he => by
    simp only [List.mem_cons, List.not_mem_nil, or_false] at he
    rcases he with rfl | rfl | rfl <;> omega) hq (fun e => by simp [or_comm, or_left_comm, or_assoc]) rfl
  refine tail_ofE (fun inr => code_runsT (fuV_X _ _) (L_okV rfl (fuF_one X _)) (runZ_ok (fuV_X _ _) (fuV_T 0 _) (L_okV rfl (fuF_one X _)) mixed 14) mixed (fe_llg1 inr m X (intAt X 8) (intAt X 9) e0.h e0.l e0.r e0.o e0.s e1.h e1.l e1.r e1.o e1.s e2.h e2.l e2.r e2.o e2.s e3.h e3.l e3.r e3.o e3.s) ⟨nz, rfl, rfl, eqf (nw e0 (by simp)), eqf (nw e1 (by simp)), eqf (nw e2 (by simp)), eqf (nw e3 (by simp)), bne_self_eq_false _, bne_self_eq_false _, decide_eq_false (Int.lt_irrefl _), decide_eq_false (Int.lt_irrefl _), ⟨⟨w0.1, w0.2, w0.1, w0.2⟩, rfl⟩, bne_self_eq_false _, bne_self_eq_false _, decide_eq_true c1, ⟨⟨w1.1, w1.2, w0.1, w0.2⟩, s01⟩, bne_self_eq_false _, bne_self_eq_false _, decide_eq_true c2, ⟨⟨w2.1, w2.2, w1.1, w1.2⟩, s12⟩, bne_self_eq_false _, bne_self_eq_false _, decide_eq_false (by omega), decide_eq_true c3, ⟨⟨w3.1, w3.2, w2.1, w2.2⟩, s23⟩, CmN.lt w0 hw i0, CmN.gt w1 hw i1, CmN.gt w3 hw i3, ⟨by omega, by omega⟩, two, (by rw [eqt w2.1 w2.2 hwm.1 hwm.2 hq]; rfl), rfl, ⟨rfl, rfl⟩, rfl, rfl, F5, trivial⟩) rfl (by omega) (fun σ => rfl)
theorem t4_llg2 {X : List Value} {Y : Nat → Int} {n m : Nat} {e0 e1 e2 e3 : En} (T : Tl X Y n m [e0, e1, e2, e3]) (c1 : e1.o < e0.o) (c2 : e2.o < e1.o) (c3 : e2.o < e3.o) (i0 : e0.nm < cl X 4) (i1 : e1.nm < cl X 4) (i3 : cl X 4 < e3.nm) : TailF Try.prog X m [e0, e1, e2, e3] := by
  have hm := T.hm
  have hw := T.hX.u.w (k := 4) (by omega)
  have hwm := T.hX.u.w (k := m) (by omega)
  have two := T.hX.u.two (k := m) (by omega)
  have nz : (intAt X 8 == 0 && (intAt X 9 == 0 && true)) = false := eqf (by have := T.hX.nz 4 (by omega); exact this)
  have nw := T.hI.new T.hX (by omega)
  have wd : ∀ e ∈ [e0, e1, e2, e3], w6 e.h ∧ w6 e.l := fun e he => ⟨(T.hI.wid e he).1, (T.hI.wid e he).2.1⟩
  have w0 := wd e0 (by simp)
  have w1 := wd e1 (by simp)
  have w2 := wd e2 (by simp)
  have w3 := wd e3 (by simp)
  obtain ⟨s01, s02, s03, s12, s13, s23⟩ := srt4 T.hI.srt
  have hq : e2.nm = cl X m := T.least (by simp) (fun f hf => by
    simp only [List.mem_cons, List.not_mem_nil, or_false] at hf
    rcases hf with rfl | rfl | rfl | rfl <;> omega)
  have F5 : Fin5 X m [e0, e1, newF X, e3] := fin5_of T.hX T.hI hm (eq := e2) (R := [e0, e1, e3]) (fun e => by simp [or_comm, or_left_comm, or_assoc]) (fun e he => by
    simp only [List.mem_cons, List.not_mem_nil, or_false] at he
    rcases he with rfl | rfl | rfl <;> omega) hq (fun e => by simp [or_comm, or_left_comm, or_assoc]) rfl
  refine tail_ofE (fun inr => code_runsT (fuV_X _ _) (L_okV rfl (fuF_one X _)) (runZ_ok (fuV_X _ _) (fuV_T 0 _) (L_okV rfl (fuF_one X _)) mixed 14) mixed (fe_llg2 inr m X (intAt X 8) (intAt X 9) e0.h e0.l e0.r e0.o e0.s e1.h e1.l e1.r e1.o e1.s e2.h e2.l e2.r e2.o e2.s e3.h e3.l e3.r e3.o e3.s) ⟨nz, rfl, rfl, eqf (nw e0 (by simp)), eqf (nw e1 (by simp)), eqf (nw e2 (by simp)), eqf (nw e3 (by simp)), bne_self_eq_false _, bne_self_eq_false _, decide_eq_false (Int.lt_irrefl _), decide_eq_false (Int.lt_irrefl _), ⟨⟨w0.1, w0.2, w0.1, w0.2⟩, rfl⟩, bne_self_eq_false _, bne_self_eq_false _, decide_eq_true c1, ⟨⟨w1.1, w1.2, w0.1, w0.2⟩, s01⟩, bne_self_eq_false _, bne_self_eq_false _, decide_eq_true c2, ⟨⟨w2.1, w2.2, w1.1, w1.2⟩, s12⟩, bne_self_eq_false _, bne_self_eq_false _, decide_eq_false (by omega), decide_eq_true c3, ⟨⟨w3.1, w3.2, w2.1, w2.2⟩, s23⟩, CmN.lt w0 hw i0, CmN.lt w1 hw i1, CmN.gt w3 hw i3, ⟨by omega, by omega⟩, two, (by rw [eqt w2.1 w2.2 hwm.1 hwm.2 hq]; rfl), rfl, ⟨rfl, rfl⟩, rfl, rfl, F5, trivial⟩) rfl (by omega) (fun σ => rfl)
theorem t4_llg3 {X : List Value} {Y : Nat → Int} {n m : Nat} {e0 e1 e2 e3 : En} (T : Tl X Y n m [e0, e1, e2, e3]) (c1 : e1.o < e0.o) (c2 : e2.o < e1.o) (c3 : e2.o < e3.o) (i0 : e0.nm < cl X 4) (i1 : e1.nm < cl X 4) (i3 : e3.nm < cl X 4) : TailF Try.prog X m [e0, e1, e2, e3] := by
  have hm := T.hm
  have hw := T.hX.u.w (k := 4) (by omega)
  have hwm := T.hX.u.w (k := m) (by omega)
  have two := T.hX.u.two (k := m) (by omega)
  have nz : (intAt X 8 == 0 && (intAt X 9 == 0 && true)) = false := eqf (by have := T.hX.nz 4 (by omega); exact this)
  have nw := T.hI.new T.hX (by omega)
  have wd : ∀ e ∈ [e0, e1, e2, e3], w6 e.h ∧ w6 e.l := fun e he => ⟨(T.hI.wid e he).1, (T.hI.wid e he).2.1⟩
  have w0 := wd e0 (by simp)
  have w1 := wd e1 (by simp)
  have w2 := wd e2 (by simp)
  have w3 := wd e3 (by simp)
  obtain ⟨s01, s02, s03, s12, s13, s23⟩ := srt4 T.hI.srt
  have hq : e2.nm = cl X m := T.least (by simp) (fun f hf => by
    simp only [List.mem_cons, List.not_mem_nil, or_false] at hf
    rcases hf with rfl | rfl | rfl | rfl <;> omega)
  have F5 : Fin5 X m [e0, e1, e3, newF X] := fin5_of T.hX T.hI hm (eq := e2) (R := [e0, e1, e3]) (fun e => by simp [or_comm, or_left_comm, or_assoc]) (fun e he => by
    simp only [List.mem_cons, List.not_mem_nil, or_false] at he
    rcases he with rfl | rfl | rfl <;> omega) hq (fun e => by simp [or_comm, or_left_comm, or_assoc]) rfl
  refine tail_ofE (fun inr => code_runsT (fuV_X _ _) (L_okV rfl (fuF_one X _)) (runZ_ok (fuV_X _ _) (fuV_T 0 _) (L_okV rfl (fuF_one X _)) mixed 14) mixed (fe_llg3 inr m X (intAt X 8) (intAt X 9) e0.h e0.l e0.r e0.o e0.s e1.h e1.l e1.r e1.o e1.s e2.h e2.l e2.r e2.o e2.s e3.h e3.l e3.r e3.o e3.s) ⟨nz, rfl, rfl, eqf (nw e0 (by simp)), eqf (nw e1 (by simp)), eqf (nw e2 (by simp)), eqf (nw e3 (by simp)), bne_self_eq_false _, bne_self_eq_false _, decide_eq_false (Int.lt_irrefl _), decide_eq_false (Int.lt_irrefl _), ⟨⟨w0.1, w0.2, w0.1, w0.2⟩, rfl⟩, bne_self_eq_false _, bne_self_eq_false _, decide_eq_true c1, ⟨⟨w1.1, w1.2, w0.1, w0.2⟩, s01⟩, bne_self_eq_false _, bne_self_eq_false _, decide_eq_true c2, ⟨⟨w2.1, w2.2, w1.1, w1.2⟩, s12⟩, bne_self_eq_false _, bne_self_eq_false _, decide_eq_false (by omega), decide_eq_true c3, ⟨⟨w3.1, w3.2, w2.1, w2.2⟩, s23⟩, CmN.lt w0 hw i0, CmN.lt w1 hw i1, CmN.lt w3 hw i3, ⟨by omega, by omega⟩, two, (by rw [eqt w2.1 w2.2 hwm.1 hwm.2 hq]; rfl), rfl, ⟨rfl, rfl⟩, rfl, rfl, F5, trivial⟩) rfl (by omega) (fun σ => rfl)
end Go.Proofs.Ytdcakhahagbedaa
