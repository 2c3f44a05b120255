/-
  Chapter 26: the statement PipelineOrder: Push and Pop as contracts (written by wip/tools/gen_pog.py).
-/
import Derived.Test.YthbcemcgbgoplaaPoF
namespace Go.Proofs.Ythbcemcgbgoplaa
set_option linter.unusedSimpArgs false
set_option linter.unusedVariables false
set_option linter.unusedSectionVars false
open Go Go.RowKit
theorem ppV_X (s' : Int) : XOkZ (ppV s') Try.prog := noXz_ok rfl
theorem ppV_T (s' : Int) : TOkZ (ppV s') Try.prog := T_okV rfl (poT0_one s')
theorem ppV_L (s' : Int) : LOkZ (ppV s') Try.prog := noL_okV rfl
section
variable {C : List Value} {a k : Nat} {F : Int} {S : Nat → Nat} {N me : Nat}
def puC (C : List Value) (k : Nat) (F : Int) (s : Nat) : List Value := splice (splice C (k * 18) (pcL (F + (k : Int)) s)) 289 [.int .i64 ((k + 1 : Nat) : Int)]
def poC (C : List Value) (a k : Nat) : List Value := splice (splice (splice C (a * 18) z18) 288 [.int .i64 (((a + 1) % 16 : Nat) : Int)]) 289 [.int .i64 (k : Int)]
theorem PlI.q9 (h : PlI C 0 k F S N me) (hk : k < 16) {s : Nat} (hs : s < 128) : (pq1 C (F + (k : Int)) (s : Int))[289]? = some (.int .i64 (k : Int)) ∧ (pq1 C (F + (k : Int)) (s : Int)).length = 292 := by
  have hl := h.len
  rw [h.eq1 hk hs]
  refine ⟨?_, by rw [splice_length]; exact hl⟩
  rw [spl_out (by rw [pcL_len]; omega) (by rw [pcL_len]; omega)]
  exact h.cnt
theorem PlI.eq2 (h : PlI C 0 k F S N me) (hk : k < 16) {s : Nat} (hs : s < 128) : pq2 C (F + (k : Int)) (s : Int) = puC C k F s := by
  unfold pq2 puC
  rw [int_at (h.q9 hk hs).1, h.eq1 hk hs, adI_eq]
  rfl
theorem PlI.p1 (h : PlI C a (k + 1) F S N me) : Int.toNat (intAt C 288) = a := by
  have := h.ak
  rw [h.f0]
  omega
theorem PlI.ez1 (h : PlI C a (k + 1) F S N me) : pz1 C = splice C (a * 18) z18 := by
  unfold pz1
  rw [h.p1]
  rfl
theorem PlI.z1 (h : PlI C a (k + 1) F S N me) : (splice C (a * 18) z18)[288]? = some (.int .i64 (a : Int)) ∧ (splice C (a * 18) z18)[289]? = some (.int .i64 ((k + 1 : Nat) : Int)) ∧ (splice C (a * 18) z18).length = 292 := by
  have hl := h.len
  have hk := h.ak
  have z : z18.length = 18 := rfl
  have hm : a % 16 = a := Nat.mod_eq_of_lt (by omega)
  refine ⟨?_, ?_, by rw [splice_length]; exact hl⟩
  · rw [spl_out (by rw [z]; omega) (by rw [z]; omega), h.fst, hm]
  · rw [spl_out (by rw [z]; omega) (by rw [z]; omega)]
    exact h.cnt
theorem PlI.ez2 (h : PlI C a (k + 1) F S N me) : pz2 C = splice (splice C (a * 18) z18) 288 [.int .i64 (((a + 1) % 16 : Nat) : Int)] := by
  unfold pz2
  rw [h.ez1, int_at h.z1.1, adI_eq, mdI_eq]
  congr 3
theorem PlI.z2 (h : PlI C a (k + 1) F S N me) : (splice (splice C (a * 18) z18) 288 [.int .i64 (((a + 1) % 16 : Nat) : Int)])[289]? = some (.int .i64 ((k + 1 : Nat) : Int)) ∧ (splice (splice C (a * 18) z18) 288 [.int .i64 (((a + 1) % 16 : Nat) : Int)]).length = 292 := by
  obtain ⟨z1, z2, z3⟩ := h.z1
  refine ⟨?_, by rw [splice_length]; exact z3⟩
  rw [spl_out (by rw [len1]; omega) (by rw [len1]; omega)]
  exact z2
theorem PlI.ez3 (h : PlI C a (k + 1) F S N me) : pz3 C = poC C a k := by
  unfold pz3 poC
  rw [h.ez2, int_at h.z2.1]
  congr 3
  omega
theorem PlI.pm (h : PlI C a (k + 1) F S N me) : pmL C = msgL (F + (a : Int)) := by
  have x0 : C[a * 18 + 0]? = some (.int .i64 2) := h.it a (Nat.le_refl a) (by omega) 0 (by omega)
  have x1 : C[a * 18 + 1]? = some (.int .i64 0) := h.it a (Nat.le_refl a) (by omega) 1 (by omega)
  have x2 : C[a * 18 + 2]? = some (.int .i64 0) := h.it a (Nat.le_refl a) (by omega) 2 (by omega)
  have x3 : C[a * 18 + 3]? = some (.int .i64 2) := h.it a (Nat.le_refl a) (by omega) 3 (by omega)
  have x4 : C[a * 18 + 4]? = some (.int .i64 0) := h.it a (Nat.le_refl a) (by omega) 4 (by omega)
  have x5 : C[a * 18 + 5]? = some (.int .i64 (F + (a : Int))) := h.it a (Nat.le_refl a) (by omega) 5 (by omega)
  have x6 : C[a * 18 + 6]? = some (.int .i64 0) := h.it a (Nat.le_refl a) (by omega) 6 (by omega)
  have x7 : C[a * 18 + 7]? = some (.int .i64 0) := h.it a (Nat.le_refl a) (by omega) 7 (by omega)
  have x8 : C[a * 18 + 8]? = some (.int .i64 0) := h.it a (Nat.le_refl a) (by omega) 8 (by omega)
  have x9 : C[a * 18 + 9]? = some (.int .u64 0) := h.it a (Nat.le_refl a) (by omega) 9 (by omega)
  have x10 : C[a * 18 + 10]? = some (.int .u64 (F + (a : Int))) := h.it a (Nat.le_refl a) (by omega) 10 (by omega)
  have x11 : C[a * 18 + 11]? = some (.int .i64 0) := h.it a (Nat.le_refl a) (by omega) 11 (by omega)
  have x12 : C[a * 18 + 12]? = some (.int .i64 0) := h.it a (Nat.le_refl a) (by omega) 12 (by omega)
  have x13 : C[a * 18 + 13]? = some (.int .u64 0) := h.it a (Nat.le_refl a) (by omega) 13 (by omega)
  have x14 : C[a * 18 + 14]? = some (.int .i64 0) := h.it a (Nat.le_refl a) (by omega) 14 (by omega)
  have x15 : C[a * 18 + 15]? = some (.int .i64 0) := h.it a (Nat.le_refl a) (by omega) 15 (by omega)
  unfold pmL msgL
  rw [h.p1]
  show [Value.int .i64 (intAt C (a * 18 + 0)), Value.int .i64 (intAt C (a * 18 + 1)), Value.int .i64 (intAt C (a * 18 + 2)), Value.int .i64 (intAt C (a * 18 + 3)), Value.int .i64 (intAt C (a * 18 + 4)), Value.int .i64 (intAt C (a * 18 + 5)), Value.int .i64 (intAt C (a * 18 + 6)), Value.int .i64 (intAt C (a * 18 + 7)), Value.int .i64 (intAt C (a * 18 + 8)), Value.int .u64 (intAt C (a * 18 + 9)), Value.int .u64 (intAt C (a * 18 + 10)), Value.int .i64 (intAt C (a * 18 + 11)), Value.int .i64 (intAt C (a * 18 + 12)), Value.int .u64 (intAt C (a * 18 + 13)), Value.int .i64 (intAt C (a * 18 + 14)), Value.int .i64 (intAt C (a * 18 + 15)), Value.slice none 0 0] = _
  rw [int_at x0, int_at x1, int_at x2, int_at x3, int_at x4, int_at x5, int_at x6, int_at x7, int_at x8, int_at x9, int_at x10, int_at x11, int_at x12, int_at x13, int_at x14, int_at x15]
end
def PuF (C cs C' : List Value) : Prop := ∃ k F S N me, PlI C 0 k F S N me ∧ k < 16 ∧ cs = msgL (F + (k : Int)) ∧ C' = puC C k F (withN 0 me)
def puT (C' : List Value) : TFun := fun f args h nx tp => bif Nat.beq f 9 then some (match args with
  | [.pointer (some ⟨m, 0, none⟩), .agg ⟨cs⟩] => (match lk h m with
    | some ⟨.shut, C⟩ => .ok ((.int .i64 0, (m, ⟨.shut, C'⟩) :: delH h m, nx + 1, [m]), tp, [PuF C cs C'])
    | _ => .no)
  | _ => .no) else none
theorem puT_one (C' : List Value) : TOneZ Try.prog (puT C') := by
  intro f args h nx tp out tp' ob e ho
  unfold puT at e
  rcases bif_or e with ⟨hf, e1⟩ | ⟨_, e1⟩
  case inr => cases e1
  clear e
  obtain rfl := Nat.eq_of_beq_eq_true hf
  have e := Option.some.inj e1
  clear e1
  split at e
  case h_2 => cases e
  rename_i m cs
  split at e
  case h_2 => cases e
  rename_i C hl
  simp only [Res.ok.injEq, Prod.mk.injEq] at e
  obtain ⟨rfl, rfl, rfl⟩ := e
  obtain ⟨⟨k, F, S, N, me, hI, hk, rfl, rfl⟩, _⟩ := ho
  have hnn := hI.nn
  have hmm := hI.mm
  have hs := wi_lt (a := 0) (q := me) (by omega) (by omega)
  have fl0 : ∀ σ, renL σ [Value.agg ⟨msgL (F + (k : Int))⟩] = some [Value.agg ⟨msgL (F + (k : Int))⟩] := fun σ => rfl
  have hp := hI.push hk hs
  obtain ⟨q9, ql⟩ := hI.q9 hk hs
  have hfr := hI.fr
  have e1 : adI (intAt C 288) (intAt C 289) = ((k : Nat) : Int) := by rw [hI.f0, hI.f1, adI_eq]; omega
  have e2 : Int.toNat (mdI (adI (intAt C 288) (intAt C 289)) 16) = k := by rw [e1, mdI_eq]; omega
  have n0 : (intAt C 290 == 0) = false := by rw [hI.f2]; exact beq_eq_false_iff_ne.2 (by omega)
  have wr : WithIs 0 (intAt C 291) ((withN 0 me : Nat) : Int) := ⟨0, me, rfl, hI.f3, by omega, by omega, rfl⟩
  have a1 : rg .i64 (adI (intAt C 288) (intAt C 289)) := by rw [e1]; exact rgn (by omega)
  have a2 : IntKind.wrap .i64 ((BitVec.toNat (BitVec.ofInt 64 (adI (intAt C 288) (intAt C 289)) &&& BitVec.ofInt 64 15) : Nat) : Int) = mdI (adI (intAt C 288) (intAt C 289)) 16 := by rw [e1]; exact and15 _ (by omega)
  have a3 : 0 ≤ mdI (adI (intAt C 288) (intAt C 289)) 16 ∧ mdI (adI (intAt C 288) (intAt C 289)) 16 < 16 := by rw [e1, mdI_eq]; omega
  have a4 : Int.toNat (mdI (adI (intAt C 288) (intAt C 289)) 16) * 18 + 18 ≤ List.length C := by rw [e2, hI.len]; omega
  have a5 : (pq1 C (F + (k : Int)) ((withN 0 me : Nat) : Int))[289]? = some (.int .i64 (intAt (pq1 C (F + (k : Int)) ((withN 0 me : Nat) : Int)) 289)) := by rw [int_at q9]; exact q9
  have a6 : rg .i64 (adI (intAt (pq1 C (F + (k : Int)) ((withN 0 me : Nat) : Int)) 289) 1) := by rw [int_at q9, adI_eq]; simp only [rg]; omega
  have a7 : 290 ≤ List.length (pq1 C (F + (k : Int)) ((withN 0 me : Nat) : Int)) := by rw [ql]; omega
  have b0 : decide (F + (k : Int) < 1) = false := decide_eq_false (by omega)
  have c16 : (intAt C 289 == 16) = false := by rw [hI.f1]; exact beq_eq_false_iff_ne.2 (by omega)
  by_cases h0 : k = 0
  · have t1 : decide (intAt C 289 > 0) = false := by rw [hI.f1]; exact decide_eq_false (by omega)
    obtain ⟨h1, nx1, d1, T, hl1⟩ := run_row (ppV_X _) (ppV_T _) (ppV_L _) (pu_0 ((withN 0 me : Nat) : Int) (F + (k : Int)) C) ⟨hI.g2, n0, b0, hI.g1, t1, hI.g1, c16, hI.g3, wr, hI.g0, hI.g1, a1, a2, a3, a4, a5, a6, a7, trivial⟩ rfl
    rw [hI.eq2 hk hs] at hl1
    exact row_tri T hl1 fl0 hI.fl hp.fl (fun σ => rfl) hl
  · have t1 : decide (intAt C 289 > 0) = true := by rw [hI.f1]; exact decide_eq_true (by omega)
    have e3 : adI (intAt C 288) (intAt C 289) - 1 = ((k - 1 : Nat) : Int) := by rw [e1]; omega
    have e4 : Int.toNat (mdI (adI (intAt C 288) (intAt C 289) - 1) 16) = 0 + (k - 1) := by rw [e3, mdI_eq]; omega
    have op := hI.op (i := k - 1) (by omega)
    obtain ⟨h1, nx1, d1, T, hl1⟩ := run_row (ppV_X _) (ppV_T _) (ppV_L _) (pu_1 ((withN 0 me : Nat) : Int) (F + (k : Int)) C) ⟨hI.g2, n0, b0, hI.g1, t1, by simp only [rg]; omega, hI.g0, hI.g1, a1, by rw [e3]; exact rgn (by omega), by rw [e3]; exact and15 _ (by omega), by rw [e3, mdI_eq]; omega, by rw [e4, int_at op]; exact op, by rw [e4, int_at op]; simp only [bne_eq_false_iff_eq]; omega, hI.g1, c16, hI.g3, wr, hI.g0, hI.g1, a1, a2, a3, a4, a5, a6, a7, trivial⟩ rfl
    rw [hI.eq2 hk hs] at hl1
    exact row_tri T hl1 fl0 hI.fl hp.fl (fun σ => rfl) hl
/-! ### Pop -/
def PoY (C C' : List Value) (o : Int) : Prop := ∃ a k F S N me, PlI C a (k + 1) F S N me ∧ fullN (S a) N = true ∧ o = F + (a : Int) ∧ C' = poC C a k
def PoQ (C : List Value) : Prop := ∃ a k F S N me, PlI C a (k + 1) F S N me ∧ fullN (S a) N = false
def PoE (C : List Value) : Prop := ∃ a F S N me, PlI C a 0 F S N me
def popT (C' : List Value) (o : Int) : TFun := fun f args h nx tp => bif Nat.beq f 13 then some (match args, tp with
  | [.pointer (some ⟨m, 0, none⟩)], true :: tp' => (match lk h m with
    | some ⟨.shut, C⟩ => .ok ((.tuple ⟨[.agg ⟨msgL o⟩, .int .i64 0]⟩, (m, ⟨.shut, C'⟩) :: delH h m, nx + 1, [m]), tp', [PoY C C' o])
    | _ => .no)
  | [.pointer (some ⟨m, 0, none⟩)], false :: true :: tp' => (match lk h m with
    | some ⟨.shut, C⟩ => .ok ((.tuple ⟨[.agg ⟨[.int .i64 0, .int .i64 0, .int .i64 0, .int .i64 0, .int .i64 0, .int .i64 0, .int .i64 0, .int .i64 0, .int .i64 0, .int .u64 0, .int .u64 0, .int .i64 0, .int .i64 0, .int .u64 0, .int .i64 0, .int .i64 0, .slice none 0 0]⟩, .int .i64 6]⟩, (m, ⟨.shut, C⟩) :: delH h m, nx + 1, [m]), tp', [PoE C])
    | _ => .no)
  | [.pointer (some ⟨m, 0, none⟩)], false :: false :: tp' => (match lk h m with
    | some ⟨.shut, C⟩ => .ok ((.tuple ⟨[.agg ⟨[.int .i64 0, .int .i64 0, .int .i64 0, .int .i64 0, .int .i64 0, .int .i64 0, .int .i64 0, .int .i64 0, .int .i64 0, .int .u64 0, .int .u64 0, .int .i64 0, .int .i64 0, .int .u64 0, .int .i64 0, .int .i64 0, .slice none 0 0]⟩, .int .i64 10]⟩, (m, ⟨.shut, C⟩) :: delH h m, nx + 1, [m]), tp', [PoQ C])
    | _ => .no)
  | _, _ => .no) else none
theorem popT_one (C' : List Value) (o : Int) : TOneZ Try.prog (popT C' o) := by
  intro f args h nx tp out tp' ob e ho
  unfold popT at e
  rcases bif_or e with ⟨hf, e1⟩ | ⟨_, e1⟩
  case inr => cases e1
  clear e
  obtain rfl := Nat.eq_of_beq_eq_true hf
  have e := Option.some.inj e1
  clear e1
  split at e
  case h_4 => cases e
  · rename_i m tp0
    split at e
    case h_2 => cases e
    rename_i C hl
    simp only [Res.ok.injEq, Prod.mk.injEq] at e
    obtain ⟨rfl, rfl, rfl⟩ := e
    have ho1 := ho.1
    unfold PoY at ho1
    obtain ⟨a, k, F, S, N, me, hI, hf, ho2, hc⟩ := ho1
    rw [ho2, hc]
    clear ho hc
    have hnn := hI.nn
    have hk := hI.ak
    have hs := hI.st a (Nat.le_refl a) (by omega)
    have n0 : (intAt C 290 == 0) = false := by rw [hI.f2]; exact beq_eq_false_iff_ne.2 (by omega)
    have se : C[a * 18 + 17]? = some (.int .u8 ((S a : Nat) : Int)) := hI.it a (Nat.le_refl a) (by omega) 17 (by omega)
    obtain ⟨z1, z2, z3⟩ := hI.z1
    obtain ⟨z4, z5⟩ := hI.z2
    have ea : adI (intAt (splice C (a * 18) z18) 288) 1 = ((a + 1 : Nat) : Int) := by rw [int_at z1, adI_eq]; omega
    have c0 : 0 ≤ intAt C 288 ∧ intAt C 288 < 16 := by rw [hI.f0]; omega
    have ms : (C.drop (a * 18)).take 17 = msgL (F + (a : Int)) := hI.msg (i := 0) (by omega)
    obtain ⟨h1, nx1, d1, T, hl1⟩ := run_row (ppV_X 0) (ppV_T 0) (ppV_L 0) (po_ye C) ⟨hI.g2, n0, hI.g1, by rw [hI.f1]; exact beq_eq_false_iff_ne.2 (by omega), hI.g1, by rw [hI.f1]; exact decide_eq_true (by omega), hI.g0, c0, by rw [hI.p1, int_at se]; exact se, by rw [hI.p1, int_at se]; exact rgn (by omega), hI.g2, ⟨S a, N, by rw [hI.p1]; exact int_at se, hI.f2, hs, hnn, hf.symm⟩, hI.g0, c0, by rw [hI.p1, hI.pm, Nat.add_zero]; exact ms, hI.g0, c0, by rw [hI.p1, hI.len]; omega, by rw [hI.ez1, int_at z1]; exact z1, by rw [hI.ez1, int_at z1, adI_eq]; simp only [rg]; omega, by rw [hI.ez1, ea]; exact and15 (a + 1) (by omega), by rw [hI.ez1, z3]; omega, by rw [hI.ez2, int_at z4]; exact z4, by rw [hI.ez2, int_at z4]; simp only [rg]; omega, by rw [hI.ez2, z5]; omega, trivial⟩ rfl
    rw [hI.ez3] at hl1
    rw [hI.pm] at T
    exact row_tri T hl1 (fun σ => rfl) hI.fl hI.pop.fl (fun σ => rfl) hl
  · rename_i m tp0
    split at e
    case h_2 => cases e
    rename_i C hl
    simp only [Res.ok.injEq, Prod.mk.injEq] at e
    obtain ⟨rfl, rfl, rfl⟩ := e
    obtain ⟨⟨a, F, S, N, me, hI⟩, _⟩ := ho
    have hnn := hI.nn
    have n0 : (intAt C 290 == 0) = false := by rw [hI.f2]; exact beq_eq_false_iff_ne.2 (by omega)
    obtain ⟨h1, nx1, d1, T, hl1⟩ := run_row (ppV_X 0) (ppV_T 0) (ppV_L 0) (po_no C) ⟨hI.g2, n0, hI.g1, by rw [hI.f1]; rfl, trivial⟩ rfl
    exact row_tri T hl1 (fun σ => rfl) hI.fl hI.fl (fun σ => rfl) hl
  · rename_i m tp0
    split at e
    case h_2 => cases e
    rename_i C hl
    simp only [Res.ok.injEq, Prod.mk.injEq] at e
    obtain ⟨rfl, rfl, rfl⟩ := e
    obtain ⟨⟨a, k, F, S, N, me, hI, hf⟩, _⟩ := ho
    have hnn := hI.nn
    have hk := hI.ak
    have hs := hI.st a (Nat.le_refl a) (by omega)
    have n0 : (intAt C 290 == 0) = false := by rw [hI.f2]; exact beq_eq_false_iff_ne.2 (by omega)
    have se : C[a * 18 + 17]? = some (.int .u8 ((S a : Nat) : Int)) := hI.it a (Nat.le_refl a) (by omega) 17 (by omega)
    have c0 : 0 ≤ intAt C 288 ∧ intAt C 288 < 16 := by rw [hI.f0]; omega
    obtain ⟨h1, nx1, d1, T, hl1⟩ := run_row (ppV_X 0) (ppV_T 0) (ppV_L 0) (po_qu C) ⟨hI.g2, n0, hI.g1, by rw [hI.f1]; exact beq_eq_false_iff_ne.2 (by omega), hI.g1, by rw [hI.f1]; exact decide_eq_true (by omega), hI.g0, c0, by rw [hI.p1, int_at se]; exact se, by rw [hI.p1, int_at se]; exact rgn (by omega), hI.g2, ⟨S a, N, by rw [hI.p1]; exact int_at se, hI.f2, hs, hnn, hf.symm⟩, trivial⟩ rfl
    exact row_tri T hl1 (fun σ => rfl) hI.fl hI.fl (fun σ => rfl) hl
end Go.Proofs.Ythbcemcgbgoplaa
