/-
  Chapter 02: batches that bytes say: contracts of the program's functions and the document's; what is read is a list of records.
-/
import Derived.Test.YtgpgdkpfeoaidaaRecH
import Derived.Test.YtgpgdkpfeoaidaaRecD
namespace Go.Proofs.Ytgpgdkpfeoaidaa
set_option linter.unusedSimpArgs false
set_option linter.unusedVariables false
set_option linter.unusedSectionVars false
open Go Go.RowKit

theorem rcC_fl (F : RF) (xs : List Value) : Fl (rcC F xs) := fun σ => rfl
theorem rhL_fl (F : RF) (xs : List Value) : ∀ k o, Fl (rhL F xs o k)
  | 0, o => Fl.of rfl
  | k + 1, o => (rcC_fl F _).app (rhL_fl F xs k _)
theorem at_byt {xs : List Value} (hb : Byts xs) (i : Nat) : 0 ≤ intAt xs i ∧ intAt xs i < 256 := by
  by_cases h : i < xs.length
  · exact (hb.get h).2
  · have : intAt xs i = 0 := by unfold intAt; rw [List.getElem?_eq_none (by omega)]
    omega
theorem r4_wf {xs : List Value} (hb : Byts xs) : wfK (r4 xs) 4294967296 := by
  have h0 := at_byt hb 0
  have h1 := at_byt hb 1
  have h2 := at_byt hb 2
  have h3 := at_byt hb 3
  unfold wfK r4
  omega
theorem r2_wf {xs : List Value} (hb : Byts xs) : wfK (r2 xs) 65536 := by
  have h0 := at_byt hb 0
  have h1 := at_byt hb 1
  unfold wfK r2
  omega
def rdE (n : Nat) : Int := if n % 128 = 0 then (if n ≤ 1024 then 0 else 3) else 4
def rdNo (n : Nat) : Prop := n % 128 = 0 → n ≤ 1024 → n = 0
def sRdx (e : Int) (k : Nat) (O : List Value) : Spec1 := fun xs n tp => match tp with
  | true :: tp => some (⟨fun _ => tupE e, []⟩, tp, [e = rdE n, rdNo n])
  | false :: tp => some (⟨fun nx => tup0 (.slice (some ⟨nx, 0, none⟩) k (capBig + nx)), [⟨.room 19 z19, O⟩]⟩, tp, [O = rhL rcF xs 0 k, n = k * 128, 0 < k, k ≤ 8, Byts xs])
  | [] => none
theorem run_rowQ {V : Tv} (hX : XOkZ V Try.prog) (hT : TOkZ V Try.prog) (hL : LOkZ V Try.prog) {k m n cp : Nat} {f : FuncId} {args : List Value} {h : Hp} {nx : Nat} {tp tp' : Tape} {r : Rw} {ob : List Prop} (e : prjQ (runZ V Try.prog k f args h nx tp) = .ok ((tup0 (.slice (some ⟨m, 0, none⟩) n cp), r), tp', ob)) (ho : Alls ob) (hf : Nat.blt f yBig = true) : ∃ h' nx' d, Tri Try.prog f args h nx (tup0 (.slice (some ⟨m, 0, none⟩) n cp), h', nx', d) ∧ lk h' m = some r := by
  unfold prjQ at e
  split at e
  · rename_i v0 h0 nx0 d0 tp0 ob0 hr
    split at e
    · split at e
      · rename_i m0 n0 c0 e0 r0 hl
        simp only [Res.ok.injEq, Prod.mk.injEq, tup0, Value.tuple.injEq, Array.mk.injEq, List.cons.injEq, Value.slice.injEq, Option.some.injEq, Addr.mk.injEq] at e
        obtain ⟨⟨⟨⟨⟨rfl, _⟩, rfl, rfl⟩, rfl, _⟩, rfl⟩, rfl, rfl⟩ := e
        exact ⟨_, _, _, run_tri hX hT hL hr ho hf, hl⟩
      · cases e
    · cases e
  · cases e
  · cases e
theorem md0 {n : Nat} (h : n % 128 = 0) : (((n % 128 : Nat) : Int) != 0) = false := by rw [h]; rfl
theorem md1 {n : Nat} (h : ¬ n % 128 = 0) : (((n % 128 : Nat) : Int) != 0) = true := by simp only [bne_iff_ne, ne_eq]; omega
set_option maxHeartbeats 4000000 in
theorem rda_gok (e : Int) (k : Nat) (O : List Value) : GOk Try.prog 21 [.s 1] (gS (sRdx e k O)) := by
  have hX : ∀ V : Tv, V.X = noXz → XOkZ V Try.prog := fun V e => noXz_ok e
  have hT : ∀ V : Tv, V.T = rhT rcF → TOkZ V Try.prog := fun V e => T_okV e (rhT_one rcF)
  have hL : ∀ V : Tv, V.L = noL → LOkZ V Try.prog := fun V e => noL_okV e
  refine gS_ok (fun tp gr tp' ob hG ho => ?_) (fun xs n c tp gr tp' ob hG ho hfl hl0 hc => ?_)
  · unfold sRdx at hG
    split at hG
    · simp only [Option.some.injEq, Prod.mk.injEq] at hG
      obtain ⟨rfl, rfl, rfl⟩ := hG
      obtain ⟨he, _⟩ := ho
      obtain rfl : e = 0 := he
      exact ran_tupE (run_val (hX _ rfl) (hT _ rfl) (hL _ rfl) (rda_n rcF) (by simp [Alls]) rfl)
    · simp only [Option.some.injEq, Prod.mk.injEq] at hG
      obtain ⟨rfl, rfl, rfl⟩ := hG
      obtain ⟨_, h1, h2, _⟩ := ho
      omega
    · cases hG
  · unfold sRdx at hG
    split at hG
    case h_3 => cases hG
    · simp only [Option.some.injEq, Prod.mk.injEq] at hG
      obtain ⟨rfl, rfl, rfl⟩ := hG
      obtain ⟨he, hno, _⟩ := ho
      by_cases h1 : n % 128 = 0
      case neg =>
        obtain rfl : e = 4 := by rw [he]; unfold rdE; rw [if_neg h1]
        refine ran_tupE (run_val (hX _ rfl) (hT _ rfl) (hL _ rfl) (rda_bad rcF xs n c) ?_ rfl)
        refine alls_cons (by omega) (alls_cons (md1 h1) alls_nil)
      by_cases h2 : n ≤ 1024
      case neg =>
        obtain rfl : e = 3 := by rw [he]; unfold rdE; rw [if_pos h1, if_neg h2]
        refine ran_tupE (run_val (hX _ rfl) (hT _ rfl) (hL _ rfl) (rda_long rcF xs n c) ?_ rfl)
        refine alls_cons (by omega) (alls_cons (md0 h1) (alls_cons (by simp only [decide_eq_true_eq]; omega) alls_nil))
      obtain rfl : n = 0 := hno h1 h2
      obtain rfl : e = 0 := he
      exact ran_tupE (run_val (hX _ rfl) (hT _ rfl) (hL _ rfl) (rda_0 rcF xs c) (by simp [Alls]) rfl)
    · simp only [Option.some.injEq, Prod.mk.injEq] at hG
      obtain ⟨rfl, rfl, rfl⟩ := hG
      obtain ⟨rfl, rfl, hk0, hk8, hb, _⟩ := ho
      have hB0 : Byts (xs.take 128) := hb.take 128
      have hF0 := fl_byts hB0
      have hB : ∀ o, Byts ((xs.drop o).take 128) := fun o => (hb.drop o).take 128
      have hF : ∀ o, Fl ((xs.drop o).take 128) := fun o => fl_byts (hB o)
      have a0 : 0 < c → ∀ v, loO (some v) 0 0 c 1 = 0 + 0 := fun h v => lo_at h
      have a1 : 128 < c → ∀ v, loO (some v) 0 128 c 1 = 0 + 128 := fun h v => lo_at h
      have a2 : 256 < c → ∀ v, loO (some v) 0 256 c 1 = 0 + 256 := fun h v => lo_at h
      have a3 : 384 < c → ∀ v, loO (some v) 0 384 c 1 = 0 + 384 := fun h v => lo_at h
      have a4 : 512 < c → ∀ v, loO (some v) 0 512 c 1 = 0 + 512 := fun h v => lo_at h
      have a5 : 640 < c → ∀ v, loO (some v) 0 640 c 1 = 0 + 640 := fun h v => lo_at h
      have a6 : 768 < c → ∀ v, loO (some v) 0 768 c 1 = 0 + 768 := fun h v => lo_at h
      have a7 : 896 < c → ∀ v, loO (some v) 0 896 c 1 = 0 + 896 := fun h v => lo_at h
      have : k = 1 ∨ k = 2 ∨ k = 3 ∨ k = 4 ∨ k = 5 ∨ k = 6 ∨ k = 7 ∨ k = 8 := by omega
      rcases this with rfl | rfl | rfl | rfl | rfl | rfl | rfl | rfl
      ·
        refine ran_tupB (run_rowQ (hX _ rfl) (hT _ rfl) (hL _ rfl) (rda_1 rcF xs c) ?_ rfl) rfl (rhL_fl _ _ _ _)
        repeat' (first | exact alls_nil | refine alls_cons ?_ ?_)
        all_goals (try simp (disch := omega) only [tkD_eq, adN_eq, a0, a1, a2, a3, a4, a5, a6, a7])
        all_goals first | with_reducible rfl | omega | exact hF _ | exact hB _ | exact hF0 | exact hB0
      ·
        refine ran_tupB (run_rowQ (hX _ rfl) (hT _ rfl) (hL _ rfl) (rda_2 rcF xs c) ?_ rfl) rfl (rhL_fl _ _ _ _)
        repeat' (first | exact alls_nil | refine alls_cons ?_ ?_)
        all_goals (try simp (disch := omega) only [tkD_eq, adN_eq, a0, a1, a2, a3, a4, a5, a6, a7])
        all_goals first | with_reducible rfl | omega | exact hF _ | exact hB _ | exact hF0 | exact hB0
      ·
        refine ran_tupB (run_rowQ (hX _ rfl) (hT _ rfl) (hL _ rfl) (rda_3 rcF xs c) ?_ rfl) rfl (rhL_fl _ _ _ _)
        repeat' (first | exact alls_nil | refine alls_cons ?_ ?_)
        all_goals (try simp (disch := omega) only [tkD_eq, adN_eq, a0, a1, a2, a3, a4, a5, a6, a7])
        all_goals first | with_reducible rfl | omega | exact hF _ | exact hB _ | exact hF0 | exact hB0
      ·
        refine ran_tupB (run_rowQ (hX _ rfl) (hT _ rfl) (hL _ rfl) (rda_4 rcF xs c) ?_ rfl) rfl (rhL_fl _ _ _ _)
        repeat' (first | exact alls_nil | refine alls_cons ?_ ?_)
        all_goals (try simp (disch := omega) only [tkD_eq, adN_eq, a0, a1, a2, a3, a4, a5, a6, a7])
        all_goals first | with_reducible rfl | omega | exact hF _ | exact hB _ | exact hF0 | exact hB0
      ·
        refine ran_tupB (run_rowQ (hX _ rfl) (hT _ rfl) (hL _ rfl) (rda_5 rcF xs c) ?_ rfl) rfl (rhL_fl _ _ _ _)
        repeat' (first | exact alls_nil | refine alls_cons ?_ ?_)
        all_goals (try simp (disch := omega) only [tkD_eq, adN_eq, a0, a1, a2, a3, a4, a5, a6, a7])
        all_goals first | with_reducible rfl | omega | exact hF _ | exact hB _ | exact hF0 | exact hB0
      ·
        refine ran_tupB (run_rowQ (hX _ rfl) (hT _ rfl) (hL _ rfl) (rda_6 rcF xs c) ?_ rfl) rfl (rhL_fl _ _ _ _)
        repeat' (first | exact alls_nil | refine alls_cons ?_ ?_)
        all_goals (try simp (disch := omega) only [tkD_eq, adN_eq, a0, a1, a2, a3, a4, a5, a6, a7])
        all_goals first | with_reducible rfl | omega | exact hF _ | exact hB _ | exact hF0 | exact hB0
      ·
        refine ran_tupB (run_rowQ (hX _ rfl) (hT _ rfl) (hL _ rfl) (rda_7 rcF xs c) ?_ rfl) rfl (rhL_fl _ _ _ _)
        repeat' (first | exact alls_nil | refine alls_cons ?_ ?_)
        all_goals (try simp (disch := omega) only [tkD_eq, adN_eq, a0, a1, a2, a3, a4, a5, a6, a7])
        all_goals first | with_reducible rfl | omega | exact hF _ | exact hB _ | exact hF0 | exact hB0
      ·
        refine ran_tupB (run_rowQ (hX _ rfl) (hT _ rfl) (hL _ rfl) (rda_8 rcF xs c) ?_ rfl) rfl (rhL_fl _ _ _ _)
        repeat' (first | exact alls_nil | refine alls_cons ?_ ?_)
        all_goals (try simp (disch := omega) only [tkD_eq, adN_eq, a0, a1, a2, a3, a4, a5, a6, a7])
        all_goals first | with_reducible rfl | omega | exact hF _ | exact hB _ | exact hF0 | exact hB0
set_option maxHeartbeats 4000000 in
theorem rdt_gok (e : Int) (k : Nat) (O : List Value) : GOk Try.prog 22 [.s 1] (gS (sRdx e k O)) := by
  have hX : ∀ V : Tv, V.X = noXz → XOkZ V Try.prog := fun V e => noXz_ok e
  have hT : ∀ V : Tv, V.T = rhT rcF → TOkZ V Try.prog := fun V e => T_okV e (rhT_one rcF)
  have hL : ∀ V : Tv, V.L = noL → LOkZ V Try.prog := fun V e => noL_okV e
  refine gS_ok (fun tp gr tp' ob hG ho => ?_) (fun xs n c tp gr tp' ob hG ho hfl hl0 hc => ?_)
  · unfold sRdx at hG
    split at hG
    · simp only [Option.some.injEq, Prod.mk.injEq] at hG
      obtain ⟨rfl, rfl, rfl⟩ := hG
      obtain ⟨he, _⟩ := ho
      obtain rfl : e = 0 := he
      exact ran_tupE (run_val (hX _ rfl) (hT _ rfl) (hL _ rfl) (rdt_n rcF) (by simp [Alls]) rfl)
    · simp only [Option.some.injEq, Prod.mk.injEq] at hG
      obtain ⟨rfl, rfl, rfl⟩ := hG
      obtain ⟨_, h1, h2, _⟩ := ho
      omega
    · cases hG
  · unfold sRdx at hG
    split at hG
    case h_3 => cases hG
    · simp only [Option.some.injEq, Prod.mk.injEq] at hG
      obtain ⟨rfl, rfl, rfl⟩ := hG
      obtain ⟨he, hno, _⟩ := ho
      by_cases h1 : n % 128 = 0
      case neg =>
        obtain rfl : e = 4 := by rw [he]; unfold rdE; rw [if_neg h1]
        refine ran_tupE (run_val (hX _ rfl) (hT _ rfl) (hL _ rfl) (rdt_bad rcF xs n c) ?_ rfl)
        refine alls_cons (by omega) (alls_cons (md1 h1) alls_nil)
      by_cases h2 : n ≤ 1024
      case neg =>
        obtain rfl : e = 3 := by rw [he]; unfold rdE; rw [if_pos h1, if_neg h2]
        refine ran_tupE (run_val (hX _ rfl) (hT _ rfl) (hL _ rfl) (rdt_long rcF xs n c) ?_ rfl)
        refine alls_cons (by omega) (alls_cons (md0 h1) (alls_cons (by simp only [decide_eq_true_eq]; omega) alls_nil))
      obtain rfl : n = 0 := hno h1 h2
      obtain rfl : e = 0 := he
      exact ran_tupE (run_val (hX _ rfl) (hT _ rfl) (hL _ rfl) (rdt_0 rcF xs c) (by simp [Alls]) rfl)
    · simp only [Option.some.injEq, Prod.mk.injEq] at hG
      obtain ⟨rfl, rfl, rfl⟩ := hG
      obtain ⟨rfl, rfl, hk0, hk8, hb, _⟩ := ho
      have hB0 : Byts (xs.take 128) := hb.take 128
      have hF0 := fl_byts hB0
      have hB : ∀ o, Byts ((xs.drop o).take 128) := fun o => (hb.drop o).take 128
      have hF : ∀ o, Fl ((xs.drop o).take 128) := fun o => fl_byts (hB o)
      have a0 : 0 < c → ∀ v, loO (some v) 0 0 c 1 = 0 + 0 := fun h v => lo_at h
      have a1 : 128 < c → ∀ v, loO (some v) 0 128 c 1 = 0 + 128 := fun h v => lo_at h
      have a2 : 256 < c → ∀ v, loO (some v) 0 256 c 1 = 0 + 256 := fun h v => lo_at h
      have a3 : 384 < c → ∀ v, loO (some v) 0 384 c 1 = 0 + 384 := fun h v => lo_at h
      have a4 : 512 < c → ∀ v, loO (some v) 0 512 c 1 = 0 + 512 := fun h v => lo_at h
      have a5 : 640 < c → ∀ v, loO (some v) 0 640 c 1 = 0 + 640 := fun h v => lo_at h
      have a6 : 768 < c → ∀ v, loO (some v) 0 768 c 1 = 0 + 768 := fun h v => lo_at h
      have a7 : 896 < c → ∀ v, loO (some v) 0 896 c 1 = 0 + 896 := fun h v => lo_at h
      have : k = 1 ∨ k = 2 ∨ k = 3 ∨ k = 4 ∨ k = 5 ∨ k = 6 ∨ k = 7 ∨ k = 8 := by omega
      rcases this with rfl | rfl | rfl | rfl | rfl | rfl | rfl | rfl
      ·
        refine ran_tupB (run_rowQ (hX _ rfl) (hT _ rfl) (hL _ rfl) (rdt_1 rcF xs c) ?_ rfl) rfl (rhL_fl _ _ _ _)
        repeat' (first | exact alls_nil | refine alls_cons ?_ ?_)
        all_goals (try simp (disch := omega) only [tkD_eq, adN_eq, a0, a1, a2, a3, a4, a5, a6, a7])
        all_goals first | with_reducible rfl | omega | exact hF _ | exact hB _ | exact hF0 | exact hB0
      ·
        refine ran_tupB (run_rowQ (hX _ rfl) (hT _ rfl) (hL _ rfl) (rdt_2 rcF xs c) ?_ rfl) rfl (rhL_fl _ _ _ _)
        repeat' (first | exact alls_nil | refine alls_cons ?_ ?_)
        all_goals (try simp (disch := omega) only [tkD_eq, adN_eq, a0, a1, a2, a3, a4, a5, a6, a7])
        all_goals first | with_reducible rfl | omega | exact hF _ | exact hB _ | exact hF0 | exact hB0
      ·
        refine ran_tupB (run_rowQ (hX _ rfl) (hT _ rfl) (hL _ rfl) (rdt_3 rcF xs c) ?_ rfl) rfl (rhL_fl _ _ _ _)
        repeat' (first | exact alls_nil | refine alls_cons ?_ ?_)
        all_goals (try simp (disch := omega) only [tkD_eq, adN_eq, a0, a1, a2, a3, a4, a5, a6, a7])
        all_goals first | with_reducible rfl | omega | exact hF _ | exact hB _ | exact hF0 | exact hB0
      ·
        refine ran_tupB (run_rowQ (hX _ rfl) (hT _ rfl) (hL _ rfl) (rdt_4 rcF xs c) ?_ rfl) rfl (rhL_fl _ _ _ _)
        repeat' (first | exact alls_nil | refine alls_cons ?_ ?_)
        all_goals (try simp (disch := omega) only [tkD_eq, adN_eq, a0, a1, a2, a3, a4, a5, a6, a7])
        all_goals first | with_reducible rfl | omega | exact hF _ | exact hB _ | exact hF0 | exact hB0
      ·
        refine ran_tupB (run_rowQ (hX _ rfl) (hT _ rfl) (hL _ rfl) (rdt_5 rcF xs c) ?_ rfl) rfl (rhL_fl _ _ _ _)
        repeat' (first | exact alls_nil | refine alls_cons ?_ ?_)
        all_goals (try simp (disch := omega) only [tkD_eq, adN_eq, a0, a1, a2, a3, a4, a5, a6, a7])
        all_goals first | with_reducible rfl | omega | exact hF _ | exact hB _ | exact hF0 | exact hB0
      ·
        refine ran_tupB (run_rowQ (hX _ rfl) (hT _ rfl) (hL _ rfl) (rdt_6 rcF xs c) ?_ rfl) rfl (rhL_fl _ _ _ _)
        repeat' (first | exact alls_nil | refine alls_cons ?_ ?_)
        all_goals (try simp (disch := omega) only [tkD_eq, adN_eq, a0, a1, a2, a3, a4, a5, a6, a7])
        all_goals first | with_reducible rfl | omega | exact hF _ | exact hB _ | exact hF0 | exact hB0
      ·
        refine ran_tupB (run_rowQ (hX _ rfl) (hT _ rfl) (hL _ rfl) (rdt_7 rcF xs c) ?_ rfl) rfl (rhL_fl _ _ _ _)
        repeat' (first | exact alls_nil | refine alls_cons ?_ ?_)
        all_goals (try simp (disch := omega) only [tkD_eq, adN_eq, a0, a1, a2, a3, a4, a5, a6, a7])
        all_goals first | with_reducible rfl | omega | exact hF _ | exact hB _ | exact hF0 | exact hB0
      ·
        refine ran_tupB (run_rowQ (hX _ rfl) (hT _ rfl) (hL _ rfl) (rdt_8 rcF xs c) ?_ rfl) rfl (rhL_fl _ _ _ _)
        repeat' (first | exact alls_nil | refine alls_cons ?_ ?_)
        all_goals (try simp (disch := omega) only [tkD_eq, adN_eq, a0, a1, a2, a3, a4, a5, a6, a7])
        all_goals first | with_reducible rfl | omega | exact hF _ | exact hB _ | exact hF0 | exact hB0
end Go.Proofs.Ytgpgdkpfeoaidaa
