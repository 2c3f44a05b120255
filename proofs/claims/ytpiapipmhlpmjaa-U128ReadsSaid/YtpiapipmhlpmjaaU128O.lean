/-
  Chapter 01: texts and numbers lead back to each other.
-/
import Derived.Test.YtpiapipmhlpmjaaU128TI
import Derived.Test.YtpiapipmhlpmjaaU128N
namespace Go.Proofs.Ytpiapipmhlpmjaa
set_option linter.unusedSimpArgs false
set_option linter.unusedVariables false
set_option linter.unusedSectionVars false
open Go Go.RowKit

theorem tdg_dgs : ∀ (k : Nat) (h l : Int) (acc : List Int), wf64 h → wf64 l → tdg k h l acc = dgs k (nm h l) acc
  | 0, h, l, acc, w1, w2 => rfl
  | k + 1, h, l, acc, w1, w2 => by
      have x1 := w1.1
      have x3 := w2.1
      have x4 := w2.2
      obtain ⟨n1, n2⟩ := nxt_wf w1 w2
      have e1 : nm h l / 10 = nm (h / 10) (dgL h l) := by unfold nm dgL; omega
      have e2 : 48 + nm h l % 10 = dgC h l := by unfold nm dgC; omega
      have y1 := n1.1
      have y2 := n2.1
      have e3 : (h / 10 = 0 ∧ dgL h l = 0) ↔ nm h l / 10 = 0 := by
        rw [e1]
        unfold nm
        omega
      simp only [tdg, dgs]
      by_cases hz : nm h l / 10 = 0
      · rw [if_pos hz, if_pos (e3.2 hz), e2]
      · rw [if_neg hz, if_neg (fun e => hz (e3.1 e)), e2, e1]
        exact tdg_dgs k _ _ _ n1 n2
def csOf (s : ByteArray) : List Int := s.data.toList.map fun b => ((b.toNat : Nat) : Int)
theorem csOf_len (s : ByteArray) : (csOf s).length = leN s := by unfold csOf leN; rw [List.length_map]
theorem csOf_drop {s : ByteArray} {i : Nat} (h : i < leN s) : (csOf s).drop i = (chAt s i : Int) :: (csOf s).drop (i + 1) := by
  have hi : i < (csOf s).length := by rw [csOf_len]; exact h
  have h2 : i < s.data.toList.length := h
  have e : (csOf s)[i]? = some (chAt s i : Int) := by
    unfold csOf chAt
    rw [List.getElem?_map, List.getElem?_eq_getElem h2]
    rfl
  rw [List.getElem?_eq_getElem hi] at e
  rw [List.drop_eq_getElem_cons hi, Option.some.inj e]
theorem csOf_strI {cs : List Int} (h : AllD cs) : csOf (strI cs) = cs := by
  unfold csOf strI
  show (cs.map fun n => UInt8.ofNat n.toNat).map (fun b => ((b.toNat : Nat) : Int)) = cs
  rw [List.map_map]
  refine (List.map_congr_left fun c hc => ?_).trans (List.map_id cs)
  obtain ⟨h1, h2⟩ := h c hc
  show (((UInt8.ofNat c.toNat).toNat : Nat) : Int) = c
  rw [UInt8.toNat_ofNat']
  omega
theorem strI_csOf (s : ByteArray) : strI (csOf s) = s := by
  rcases s with ⟨⟨l⟩⟩
  unfold strI csOf
  rw [List.map_map]
  have : l.map ((fun n : Int => UInt8.ofNat n.toNat) ∘ fun b : UInt8 => ((b.toNat : Nat) : Int)) = l := by
    refine (List.map_congr_left fun b hb => ?_).trans (List.map_id l)
    show UInt8.ofNat (Int.toNat ((b.toNat : Nat) : Int)) = b
    rw [Int.toNat_natCast]
    exact UInt8.ofNat_toNat
  exact congrArg (fun x => ByteArray.mk (Array.mk x)) this
theorem tn_nm {h l d : Int} (w1 : wf64 h) (w2 : wf64 l) (hd : 0 ≤ d ∧ d < 10) (ho : tO h l d = false) : nm (tH h l d) (tL h l d) = 10 * nm h l + d ∧ 10 * nm h l + d < 340282366920938463463374607431768211456 := by
  have x1 := w1.1
  have x2 := w2.1
  unfold tO tnN at ho
  have h2 := of_decide_eq_false ho
  unfold tH tL tnN nm
  omega
theorem tn_O {h l d : Int} (hn : 10 * nm h l + d < 340282366920938463463374607431768211456) : tO h l d = false := by
  unfold tO tnN
  unfold nm at hn
  exact decide_eq_false (by omega)
theorem prs_to (s : ByteArray) : ∀ (k i : Nat) (h l : Int), i + k = leN s → wf64 h → wf64 l → AllD ((csOf s).drop i) → vf (nm h l) ((csOf s).drop i) < 340282366920938463463374607431768211456 →
    ∃ H L, prsI s k i h l false = some (H, L, false) ∧ nm H L = vf (nm h l) ((csOf s).drop i) ∧ wf64 H ∧ wf64 L
  | 0, i, h, l, hk, w1, w2, hd, hv => by
      have e : (csOf s).drop i = [] := List.drop_eq_nil_of_le (by rw [csOf_len]; omega)
      exact ⟨h, l, rfl, by rw [e]; rfl, w1, w2⟩
  | k + 1, i, h, l, hk, w1, w2, hd, hv => by
      have e := csOf_drop (s := s) (i := i) (by omega)
      rw [e] at hd hv ⊢
      obtain ⟨d1, d2⟩ := hd.cons
      simp only [vf] at hv ⊢
      have x1 := w1.1
      have x2 := w2.1
      have hn0 : 0 ≤ 10 * nm h l + ((chAt s i : Int) - 48) := by unfold nm; omega
      have hge := vf_ge ((csOf s).drop (i + 1)) _ hn0 d2
      have ho : tO h l ((chAt s i : Int) - 48) = false := tn_O (by omega)
      obtain ⟨e2, e3⟩ := tn_nm w1 w2 (d := (chAt s i : Int) - 48) (by omega) ho
      obtain ⟨v1, v2⟩ := wf_t h l ((chAt s i : Int) - 48)
      rw [← e2] at hv
      obtain ⟨H, L, q1, q2, q3, q4⟩ := prs_to s k (i + 1) _ _ (by omega) v1 v2 d2 hv
      refine ⟨H, L, ?_, ?_, q3, q4⟩
      · rw [prsI, if_neg (by omega), ho]; exact q1
      · rw [q2, e2]
theorem prs_of (s : ByteArray) : ∀ (k i : Nat) (h l : Int) (o : Bool) (H L : Int), i + k = leN s → wf64 h → wf64 l → prsI s k i h l o = some (H, L, false) →
    o = false ∧ AllD ((csOf s).drop i) ∧ nm H L = vf (nm h l) ((csOf s).drop i) ∧ wf64 H ∧ wf64 L
  | 0, i, h, l, o, H, L, hk, w1, w2, hp => by
      simp only [prsI, Option.some.injEq, Prod.mk.injEq] at hp
      obtain ⟨rfl, rfl, rfl⟩ := hp
      have e : (csOf s).drop i = [] := List.drop_eq_nil_of_le (by rw [csOf_len]; omega)
      rw [e]
      exact ⟨rfl, (fun c hc => by cases hc), rfl, w1, w2⟩
  | k + 1, i, h, l, o, H, L, hk, w1, w2, hp => by
      have e := csOf_drop (s := s) (i := i) (by omega)
      by_cases hd : (chAt s i : Int) < 48 ∨ 57 < (chAt s i : Int)
      · rw [prsI, if_pos hd] at hp; cases hp
      rw [prsI, if_neg hd] at hp
      obtain ⟨v1, v2⟩ := wf_t h l ((chAt s i : Int) - 48)
      obtain ⟨q1, q2, q3, q4, q5⟩ := prs_of s k (i + 1) _ _ _ H L (by omega) v1 v2 hp
      simp only [Bool.or_eq_false_iff] at q1
      obtain ⟨e2, e3⟩ := tn_nm w1 w2 (d := (chAt s i : Int) - 48) (by omega) q1.2
      refine ⟨q1.1, ?_, ?_, q4, q5⟩
      · rw [e]
        intro c hc
        rcases List.mem_cons.1 hc with rfl | hc
        · omega
        · exact q2 c hc
      · rw [q3, e, e2]
        rfl
theorem nm_inj {h l H L : Int} (w1 : wf64 h) (w2 : wf64 l) (w3 : wf64 H) (w4 : wf64 L) (e : nm H L = nm h l) : H = h ∧ L = l := by
  have a1 := w1.1
  have a2 := w2.1
  have a3 := w2.2
  have a4 := w3.1
  have a5 := w4.1
  have a6 := w4.2
  unfold nm at e
  omega
theorem chAt0 {s : ByteArray} {c : Int} {r : List Int} (h : csOf s = c :: r) : (chAt s 0 : Int) = c := by
  have hl : 0 < leN s := by rw [← csOf_len, h]; simp
  have := csOf_drop (s := s) (i := 0) hl
  rw [List.drop_zero, h] at this
  exact (List.cons.inj this).1.symm
/-- A number's text says it. -/
theorem text_back {h l : Int} (w1 : wf64 h) (w2 : wf64 l) : pvC (strI (txtI h l)) = 0 ∧ pvH (strI (txtI h l)) = h ∧ pvL (strI (txtI h l)) = l := by
  have a1 := w1.1
  have a2 := w1.2
  have a3 := w2.1
  have a4 := w2.2
  have et : txtI h l = dgs 40 (nm h l) [] := tdg_dgs 40 h l [] w1 w2
  have hv0 : 0 ≤ nm h l := by unfold nm; omega
  have hvT : nm h l < 340282366920938463463374607431768211456 := by unfold nm; omega
  have p39 : (10 : Int) ^ 39 = 1000000000000000000000000000000000000000 := by decide
  have p40 : (10 : Int) ^ (39 + 1) = 10000000000000000000000000000000000000000 := by decide
  obtain ⟨e1, e2⟩ := dgs_val 39 40 (nm h l) hv0 (by omega) (by omega) (by omega)
  have hd := dgs_all 40 (nm h l)
  have hne := dgs_ne 39 (nm h l)
  have hld := dgs_lead 39 (nm h l) hv0 (by omega)
  rw [← et] at e1 e2 hd hne hld
  have ec := csOf_strI hd
  have el : leN (strI (txtI h l)) = (txtI h l).length := by rw [← csOf_len, ec]
  have hn39 : ¬ 39 < leN (strI (txtI h l)) := by omega
  have hpos : 0 < (txtI h l).length := List.length_pos_iff.2 hne
  have hnp : ¬ preB (strI (txtI h l)) := by
    intro hb
    rcases hb with hb | ⟨hb1, hb2⟩
    · omega
    · cases hx : txtI h l with
      | nil => exact hne hx
      | cons c r =>
        rw [hx] at ec
        rw [← hx] at ec
        have := chAt0 (ec.trans hx)
        refine hld c r hx (fun e => ?_) (by omega)
        have hx2 := congrArg List.length hx
        rw [e] at hx2
        simp only [List.length_cons, List.length_nil] at hx2
        omega
  have hz : nm 0 0 = 0 := rfl
  obtain ⟨H, L, q1, q2, q3, q4⟩ := prs_to (strI (txtI h l)) (leN (strI (txtI h l))) 0 0 0 (by omega) w00 w00 (by rw [List.drop_zero, ec]; exact hd) (by rw [List.drop_zero, ec, hz, e1]; exact hvT)
  rw [List.drop_zero, ec, hz, e1] at q2
  obtain ⟨rfl, rfl⟩ := nm_inj w1 w2 q3 q4 q2
  have q0 : prs0 (strI (txtI H L)) = some (H, L, false) := q1
  refine ⟨?_, ?_, ?_⟩
  · unfold pvC; rw [if_neg hn39, if_neg hnp, q0]; rfl
  · unfold pvH; rw [if_neg hn39, if_neg hnp, q0]; rfl
  · unfold pvL; rw [if_neg hn39, if_neg hnp, q0]; rfl
/-- A text that says a number is that number's text. -/
theorem back_text {s : ByteArray} (h : pvC s = 0) : strI (txtI (pvH s) (pvL s)) = s ∧ wf64 (pvH s) ∧ wf64 (pvL s) := by
  unfold pvC at h
  by_cases hn39 : 39 < leN s
  · rw [if_pos hn39] at h; cases h
  rw [if_neg hn39] at h
  by_cases hnp : preB s
  · rw [if_pos hnp] at h; cases h
  rw [if_neg hnp] at h
  rcases hr : prs0 s with _ | ⟨H, L, O⟩
  · rw [hr] at h; cases h
  cases O with
  | true => rw [hr] at h; cases h
  | false =>
    have eH : pvH s = H := by unfold pvH; rw [if_neg hn39, if_neg hnp, hr]; rfl
    have eL : pvL s = L := by unfold pvL; rw [if_neg hn39, if_neg hnp, hr]; rfl
    obtain ⟨_, q2, q3, q4, q5⟩ := prs_of s (leN s) 0 0 0 false H L (by omega) w00 w00 hr
    rw [List.drop_zero] at q2 q3
    have hz : nm 0 0 = 0 := rfl
    rw [hz] at q3
    have hl := csOf_len s
    have hne : csOf s ≠ [] := fun e => hnp (.inl (by rw [← hl, e]; rfl))
    have hld : NoLead (csOf s) := by
      intro c r e hr0 hc
      have h1 : 1 < leN s := by
        rw [← hl, e]
        have := List.length_pos_iff.2 hr0
        simp only [List.length_cons]
        omega
      exact hnp (.inr ⟨h1, (chAt0 e).trans hc⟩)
    have key := dgs_back (csOf s).length (csOf s) 40 rfl (by omega) hne q2 hld
    rw [← q3] at key
    rw [eH, eL]
    refine ⟨?_, q4, q5⟩
    have et : txtI H L = dgs 40 (nm H L) [] := tdg_dgs 40 H L [] q4 q5
    rw [et, key, strI_csOf]
end Go.Proofs.Ytpiapipmhlpmjaa
