/-
  The told machine, part Zn: own lists of slices: s[:hi] (mode 60), s[lo:] (mode 64: the list is shared from then on), a new list without elements (mode 65).
-/
import Derived.Test.YtojakfnljopjbaaGrAM
import Derived.Test.YtojakfnljopjbaaGrAH
import Derived.Lib.BytesEntry
namespace Go.Proofs.Ytojakfnljopjbaa
set_option linter.unusedSimpArgs false
set_option linter.unusedVariables false
set_option linter.unusedSectionVars false
open Go Go.RowKit

section
variable {P : Program} {W : World} {σ : Sg} {h : Hp} {w : World}
def slP (P : Program) (ev : Operand → Option Value) (h : Hp) (nx : Nat) : Op → Option (Out × List Prop)
 | .slice t x none (some hi) none => match P.underlying t, ev x, ev hi with
  | some (.slice e), some (.slice (some ⟨n, 0, none⟩) len cap), some (.int _ u) => match P.info? e, lk h n with
   | some i, some ⟨.dp sz _ ds, _⟩ => bif Nat.beq sz i.size && Nat.ble 1 sz then some ((.slice (some ⟨n, 0, none⟩) u.toNat cap, h, nx, []), [cap = B0 + n ∧ 0 ≤ u ∧ u ≤ (len : Int), len * sz ≤ ds.length]) else none
   | _, _ => none
  | _, _, _ => none
 | _ => none
def slF (P : Program) (ev : Operand → Option Value) (h : Hp) (nx : Nat) : Op → Option (Out × List Prop)
 | .slice t x (some lo) none none => match P.underlying t, ev x, ev lo with
  | some (.slice e), some (.slice (some ⟨n, 0, none⟩) len cap), some (.int _ l) => match P.info? e, lk h n with
   | some i, some ⟨.dp _ _ ds, _⟩ => some ((.slice (some ⟨nx + 1, 0, none⟩) (sbN len l.toNat) (B0 + (nx + 1)), (nx + 1, ⟨.sd (ds.drop (mlN l.toNat i.size)), []⟩) :: delH h n, nx + 2, [n]), [cap = B0 + n ∧ 0 ≤ l ∧ l ≤ (len : Int), ds.length = len * i.size])
   | _, _ => none
  | _, _, _ => none
 | _ => none
def nlZ (P : Program) (ev : Operand → Option Value) (nx : Nat) (h : Hp) : Op → Option (Out × List Prop)
 | .buildSlice t len parts => match newV P ev (.buildSlice t len parts), P.underlying t with
  | some ([], .sl 0 0, _), some (.slice e) => match P.info? e with
   | some i => match i.zero with
    | some z => some ((.slice (some ⟨nx + 1, 0, none⟩) 0 (B0 + (nx + 1)), (nx + 1, ⟨.dp i.size z.cells.toList [], []⟩) :: h, nx + 2, []), [])
    | none => none
   | none => none
  | _, _ => none
 | _ => none
theorem slP_tidy {ev : Operand → Option Value} {nx : Nat} {op : Op} {v : Value} {h' : Hp} {nx' : Nat} {d : List Nat} {ob : List Prop} (hs : slP P ev h nx op = some ((v, h', nx', d), ob)) : Tidy h nx h' nx' d := by
 unfold slP at hs
 split at hs
 case h_2 => cases hs
 split at hs
 case h_2 => cases hs
 split at hs
 case h_2 => cases hs
 obtain ⟨_, hs⟩ := Ba hs
 simp only [oI, pI] at hs
 obtain ⟨⟨rfl, rfl, rfl, rfl⟩, _⟩ := hs
 exact Tidy.refl _ _
theorem slF_tidy {ev : Operand → Option Value} {nx : Nat} {op : Op} {v : Value} {h' : Hp} {nx' : Nat} {d : List Nat} {ob : List Prop} (hs : slF P ev h nx op = some ((v, h', nx', d), ob)) : Tidy h nx h' nx' d := by
 unfold slF at hs
 split at hs
 case h_2 => cases hs
 split at hs
 case h_2 => cases hs
 split at hs
 case h_2 => cases hs
 simp only [oI, pI] at hs
 obtain ⟨⟨rfl, rfl, rfl, rfl⟩, _⟩ := hs
 refine ⟨by omega, fun m hn hd => ?_, fun hB m hn => ?_⟩
 ·rw [B3, if_neg (by omega), Bf, if_neg (fun e => hd (by simp [e]))]
 ·rw [B3, if_neg (by omega), Bf]
  split
  ·rfl
  ·exact hB m (by omega)
theorem nlZ_tidy {ev : Operand → Option Value} {nx : Nat} {op : Op} {v : Value} {h' : Hp} {nx' : Nat} {d : List Nat} {ob : List Prop} (hs : nlZ P ev nx h op = some ((v, h', nx', d), ob)) : Tidy h nx h' nx' d := by
 unfold nlZ at hs
 split at hs
 case h_2 => cases hs
 split at hs
 case h_2 => cases hs
 split at hs
 case h_2 => cases hs
 split at hs
 case h_2 => cases hs
 simp only [oI, pI] at hs
 obtain ⟨⟨rfl, rfl, rfl, rfl⟩, _⟩ := hs
 exact ⟨by omega, fun n hn _ => by rw [B3, if_neg (by omega)], fun hB n hn => by rw [B3, if_neg (by omega)]; exact hB n (by omega)⟩
theorem cut_run {t e : TypeId} {i : TypeInfo} (hu : P.underlying t = some (.slice e)) (hi0 : P.info? e = some i) {a : Act} {o : Oper} {x : Operand} {lo hi mx : Option Operand} (hop : o.op = .slice t x lo hi mx) {ev : Operand → Option Value} (H : Evs σ ev a) {l0 u0 m0 : Option Value} (hl0 : evO ev lo = some l0) (hu0 : evO ev hi = some u0) (hm0 : evO ev mx = some m0) {A : Addr} {len c' l u m : Nat} (hxe : a.eval x = .slice (some A) len c') (hb2 : bdsV len c' l0 u0 m0 = some (l, u, m)) :
  (execOp a.eval o).run P w = .ok (.value (.slice (if m = l then some A else some (A.add (l * i.size))) (u - l) (m - l))) w := by
 have ol := Il H hl0
 have oz := Il H hu0
 have om := Il H hm0
 have hel : P.elem t = e := by simp [Program.elem, hu]
 obtain ⟨q1, q2, q3⟩ := I8 (σ := σ) hb2 ol.1 ol.2 oz.1 oz.2 om.1 om.2
 have h1 : (Instr.sliceAt t (.slice (some A) len c') l0 u0 m0).run P w = .ok (.slice (if m = l then some A else some (A.add (l * i.size))) (u - l) (m - l)) w := by
  rw [run_sliceAt_slice w t _ l0 u0 m0 (by rw [hel]; exact hu)]
  simp [Instr.slice, run_underlying hu, Hb true hb2, sizeOf, typeInfo, hi0]
 unfold execOp
 rw [hop]
 simp only [q1, q2, q3, hxe, h1, Sem.run_bind, Result.andThen_ok, Sem.run_pure]
theorem slP_ok {a : Act} (hR : Rl W σ h w) {ev : Operand → Option Value} {nx nx' : Nat} (hf : Fresh σ nx nx') (H : Evs σ ev a) {o : Oper} {v : Value} {h' : Hp} {d : List Nat} {ob : List Prop} (hs : slP P ev h nx o.op = some ((v, h', nx', d), ob)) (ho : Alls ob) :
  ∃ σ' w' v', Stp W nx nx' σ h w σ' h' w' ∧ renV σ' v = some v' ∧ Ends P a o w v' w' := by
 unfold slP at hs
 split at hs
 case h_2 => cases hs
 rename_i t x hi hop
 split at hs
 case h_2 => cases hs
 rename_i e n len cap ku u hu hx hhi
 split at hs
 case h_2 => cases hs
 rename_i i sz z ds cs0 hi0 hl
 obtain ⟨hg, hs⟩ := Ba hs
 simp only [oI, pI] at hs
 obtain ⟨⟨rfl, rfl, rfl, rfl⟩, rfl⟩ := hs
 simp only [Bool.and_eq_true] at hg
 obtain ⟨g1, g2⟩ := hg
 obtain rfl := Nat.eq_of_beq_eq_true g1
 have hpos : 0 < i.size := Nat.le_of_ble_eq_true g2
 obtain ⟨⟨k0, k1, k2⟩, k3, _⟩ := ho
 have hx' := H x _ hx
 obtain ⟨b, s, vs, hb, hv, q0, q1, q2, us, tt, rest, c, hcm, hblk, hrl, hcl, hrz, hds⟩ := hR.row n _ hl
 have hown : (⟨.dp i.size z ds, cs0⟩ : Rw).own := fun e => by cases e
 rcases B7 hx' with ⟨p, c', hb', hcp, hse, hnn⟩ | ⟨hnn, _, _, _⟩
 case inr => exact (hR.shr.1 n _ hl hown hnn).elim
 rw [hb] at hb'
 cases hb'
 have hcp0 := hcp
 rw [k0, Bq, hcm] at hcp
 cases hcp
 have hul := hds.len2
 have hlc : len ≤ c := by
  rw [List.length_append, hul] at hrl
  exact Nat.le_of_mul_le_mul_right (by omega) hpos
 have hb2 : bdsV len c none (some (.int ku u)) none = some (0, u.toNat, c) := by
  have hk2 : 0 ≤ u ∧ u ≤ (c : Int) := ⟨k1, by omega⟩
  simp [bdsV, bdV, hk2]
 have hrun := cut_run (w := w) hu hi0 hop H (l0 := none) (u0 := some (.int ku u)) (m0 := none) rfl (by simp [evO, hhi]) rfl hse hb2
 have hA : (if c = 0 then some (⟨b, s + 0, none⟩ : Addr) else some ((⟨b, s + 0, none⟩ : Addr).add (0 * i.size))) = some ⟨b, s + 0, none⟩ := by
  split
  ·rfl
  ·rw [C3, Nat.zero_mul]
 rw [hA] at hrun
 refine ⟨σ, w, _, Stp.refl hR nx, ?_, .inl hrun⟩
 rw [B5 (o := 0) (p := (b, s)) hb hcp0 hnn (.inr (by omega))]
 simp
theorem slF_ok {a : Act} (hR : Rl W σ h w) {ev : Operand → Option Value} {nx nx' : Nat} (hf : Fresh σ nx nx') (H : Evs σ ev a) {o : Oper} {v : Value} {h' : Hp} {d : List Nat} {ob : List Prop} (hs : slF P ev h nx o.op = some ((v, h', nx', d), ob)) (ho : Alls ob) :
  ∃ σ' w' v', Stp W nx nx' σ h w σ' h' w' ∧ renV σ' v = some v' ∧ Ends P a o w v' w' := by
 unfold slF at hs
 split at hs
 case h_2 => cases hs
 rename_i t x lo hop
 split at hs
 case h_2 => cases hs
 rename_i e n len cap kl l hu hx hlo
 split at hs
 case h_2 => cases hs
 rename_i i sz z ds cs0 hi0 hl
 simp only [oI, pI] at hs
 obtain ⟨⟨rfl, rfl, rfl, rfl⟩, rfl⟩ := hs
 obtain ⟨⟨k0, k1, k2⟩, k3, _⟩ := ho
 have hx' := H x _ hx
 obtain ⟨b, s, vs, hb, hv, q0, q1, q2, us, tt, rest, c, hcm, hblk, hrl, hcl, hrz, hds⟩ := hR.row n _ hl
 subst q0
 have hown : (⟨.dp sz z ds, cs0⟩ : Rw).own := fun e => by cases e
 rcases B7 hx' with ⟨p, c', hb', hcp, hse, hnn⟩ | ⟨hnn, _, _, _⟩
 case inr => exact (hR.shr.1 n _ hl hown hnn).elim
 rw [hb] at hb'
 cases hb'
 rw [k0, Bq, hcm] at hcp
 cases hcp
 have hlc : len ≤ c := by rw [hse] at hx'; exact Bx hR.wf hx'
 have hb2 : bdsV len c (some (.int kl l)) none none = some (l.toNat, len, c) := by
  have e : bdV (some (Value.int kl l)) 0 len = some l.toNat := by
   have : (0 ≤ l ∧ l ≤ (len : Int)) := ⟨k1, k2⟩
   simp only [bdV, decide_eq_true this, cond_true]
  exact M8 (m := 0) rfl rfl e fun _ => rfl
 have hrun := cut_run (w := w) hu hi0 hop H (l0 := some (.int kl l)) (u0 := none) (m0 := none) (by simp [evO, hlo]) rfl rfl hse hb2
 have S := Stp.freezeD (c := c) hR (hf.low (by omega)) hl hb
 have hl1 : lk ((nx, (⟨.sd ds, []⟩ : Rw)) :: delH h n) nx = some ⟨.sd ds, []⟩ := by rw [B3, if_pos rfl]
 obtain ⟨b1, s1, vs1, hb1, _, _, hd1⟩ := S.rl.row nx _ hl1
 have hbN : (σ.vwc nx (b, 0) c (some (b :: Bs σ h)) none).b nx = some (b, 0) := by simp [Sg.vwc]
 rw [hbN] at hb1
 cases hb1
 obtain ⟨q, hq, hqd⟩ : ∃ q : Nat × Nat, (if c = l.toNat then some (⟨b, 0 + 0, none⟩ : Addr) else some ((⟨b, 0 + 0, none⟩ : Addr).add (l.toNat * i.size))) = some ⟨q.1, q.2, none⟩ ∧ (ds.drop (mlN l.toNat i.size) = [] ∨ DRs W w (sh (σ.vwc nx (b, 0) c (some (b :: Bs σ h)) none) nx) q.1 q.2 (ds.drop (mlN l.toNat i.size))) := by
  split
  ·rename_i e
   refine ⟨(b, 0), rfl, .inl ?_⟩
   rw [E6, List.drop_eq_nil_iff, k3]
   exact Nat.mul_le_mul_right _ (by omega)
  ·rw [C3]
   refine ⟨(b, 0 + l.toNat * i.size), by simp, ?_⟩
   rw [E6]
   rcases hd1 with e | e
   ·exact .inl (by rw [e]; simp)
   ·exact e.dropW _
 rw [hq] at hrun
 have hf2 : Fresh (σ.vwc nx (b, 0) c (some (b :: Bs σ h)) none) (nx + 1) (nx + 2) := hf.next S (by omega)
 have T := Stp.viewc S.rl hf2 (r := ⟨.sd (ds.drop (mlN l.toNat i.size)), []⟩) q (c - l.toNat) (some (sh (σ.vwc nx (b, 0) c (some (b :: Bs σ h)) none) nx)) none (fun k hk => ⟨nx, _, hl1, hk⟩) (.sd _) ⟨q.1, q.2, [], by simp [Sg.vwc], rfl, rfl, by rw [vwc_sh]; exact hqd⟩
 refine ⟨_, w, _, (S.trans T (by omega) (by omega)).less fun k r hk => ?_, ?_, .inl hrun⟩
 ·rw [B3] at hk ⊢
  split
  ·rename_i e; rw [if_pos e] at hk; exact hk
  ·rename_i e
   rw [if_neg e] at hk
   rw [B3]
   split
   ·rename_i e2
    subst e2
    exfalso
    rw [Bf] at hk
    split at hk
    ·cases hk
    ·obtain ⟨b9, s9, v9, hb9, _⟩ := hR.row _ _ hk
     rw [(hf nx (Nat.le_refl _) (by omega)).1] at hb9
     cases hb9
   ·exact hk
 ·rw [B5 (σ := Sg.vwc _ (nx + 1) q (c - l.toNat) _ none) (n := nx + 1) (o := 0) (l := sbN len l.toNat) (c := B0 + (nx + 1)) (c' := c - l.toNat) (p := q) (by simp [Sg.vwc]) (by rw [Bq]; simp [Sg.vwc]) (by simp [Sg.vwc]) (.inr (by rw [Dh]; omega)), Dh]
  rfl
theorem nlZ_ok {a : Act} (hR : Rl W σ h w) {ev : Operand → Option Value} {nx nx' : Nat} (hf : Fresh σ nx nx') (H : Evs σ ev a) {o : Oper} {v : Value} {h' : Hp} {d : List Nat} {ob : List Prop} (hs : nlZ P ev nx h o.op = some ((v, h', nx', d), ob)) (ho : Alls ob) :
  ∃ σ' w' v', Stp W nx nx' σ h w σ' h' w' ∧ renV σ' v = some v' ∧ Ends P a o w v' w' := by
 unfold nlZ at hs
 split at hs
 case h_2 => cases hs
 rename_i t len parts hop
 split at hs
 case h_2 => cases hs
 rename_i e1 e hn hu
 split at hs
 case h_2 => cases hs
 rename_i i hi
 split at hs
 case h_2 => cases hs
 rename_i z hz
 simp only [oI, pI] at hs
 obtain ⟨⟨rfl, rfl, rfl, rfl⟩, rfl⟩ := hs
 rw [← hop] at hn
 obtain ⟨⟨vs, hv, hrun⟩, _⟩ := newV_ok (P := P) (w := w) H hn
 simp only [renL, oI] at hv
 subst hv
 have S := Stp.alloc hR (hf.low (by omega)) (cs := []) (vs := []) rfl e1
 have hl1 : lk ((nx, (⟨.shut, []⟩ : Rw)) :: h) nx = some ⟨.shut, []⟩ := by rw [B3, if_pos rfl]
 have T := S.toDp (NX := nx + 1) (c := 0) (F := []) (r' := ⟨.dp i.size z.cells.toList [], []⟩) (by omega) (by omega) hf hl1 (fun e => by cases e) (b := w.heap.size) (by simp [Sg.bind]) (fun e => by cases e) (fun q hq => by cases hq) ⟨w.heap.size, 0, [], by simp [Sg.vwc], rfl, rfl, hR.ext.size, rfl, [], e1, [], 0, by simp [Sg.vwc], heap_alloc_new w _, by simp, by unfold maxLen; omega, fun x hx => (by cases hx), rfl⟩
 refine ⟨_, _, _, T.less fun k r hk => ?_, ?_, .inl hrun⟩
 ·rw [B3] at hk ⊢
  split
  ·rename_i e; rw [if_pos e] at hk; exact hk
  ·rename_i e
   rw [if_neg e] at hk
   rw [Bf, B3]
   have hne : nx ≠ k := fun e2 => by
    subst e2
    obtain ⟨b9, s9, v9, hb9, _⟩ := hR.row _ _ hk
    rw [(hf nx (Nat.le_refl _) (by omega)).1] at hb9
    cases hb9
   rw [if_neg hne, if_neg hne]
   exact hk
 ·have := B5 (σ := Sg.vwc (σ.bind nx (w.heap.size, 0)) (nx + 1) (w.heap.size, 0) 0 (some []) none) (n := nx + 1) (o := 0) (l := 0) (c := B0 + (nx + 1)) (c' := 0) (p := (w.heap.size, 0)) (by simp [Sg.vwc]) (by rw [Bq]; simp [Sg.vwc]) (by simp [Sg.vwc]) (.inr (Nat.le_refl _))
  rw [this]
  rfl
def odN (P : Program) (md : Nat) (ev : Operand → Option Value) (h : Hp) (nx : Nat) (op : Op) : Option (Out × List Prop) := bif Nat.beq md 60 then slP P ev h nx op else bif Nat.beq md 64 then slF P ev h nx op else bif Nat.beq md 65 then nlZ P ev nx h op else odEx P md ev h nx op
theorem odN_tidy {md : Nat} {ev : Operand → Option Value} {nx : Nat} {op : Op} {v : Value} {h' : Hp} {nx' : Nat} {d : List Nat} {ob : List Prop} (hs : odN P md ev h nx op = some ((v, h', nx', d), ob)) : Tidy h nx h' nx' d := by
 unfold odN at hs
 rcases Be hs with ⟨_, hs⟩ | ⟨_, hs⟩
 ·exact slP_tidy hs
 rcases Be hs with ⟨_, hs⟩ | ⟨_, hs⟩
 ·exact slF_tidy hs
 rcases Be hs with ⟨_, hs⟩ | ⟨_, hs⟩
 ·exact nlZ_tidy hs
 ·exact odEx_tidy hs
theorem odN_ok {a : Act} (hR : Rl W σ h w) {md : Nat} {ev : Operand → Option Value} {nx nx' : Nat} (hf : Fresh σ nx nx') (H : Evs σ ev a) {o : Oper} {v : Value} {h' : Hp} {d : List Nat} {ob : List Prop} (hs : odN P md ev h nx o.op = some ((v, h', nx', d), ob)) (ho : Alls ob) :
  ∃ σ' w' v', Stp W nx nx' σ h w σ' h' w' ∧ renV σ' v = some v' ∧ Ends P a o w v' w' := by
 unfold odN at hs
 rcases Be hs with ⟨_, hs⟩ | ⟨_, hs⟩
 ·exact slP_ok hR hf H hs ho
 rcases Be hs with ⟨_, hs⟩ | ⟨_, hs⟩
 ·exact slF_ok hR hf H hs ho
 rcases Be hs with ⟨_, hs⟩ | ⟨_, hs⟩
 ·exact nlZ_ok hR hf H hs ho
 ·exact odEx_ok hR hf H hs ho
end
def Lu : Nat → List Value → Option (List Int)
 | 0, _ => some []
 | n + 1, .int .u8 x :: vs => bif decide (0 ≤ x ∧ x < 256) then (match Lu n vs with | some l => some (x :: l) | none => none) else none
 | _, _ => none
def Ll (h : Hp) : Value → Option (List Int)
 | .slice none _ _ => some []
 | .slice (some ⟨n, o, none⟩) len _ => match lk h n with
  | some r => Lu len (r.cs.drop o)
  | none => none
 | _ => none
theorem intsV_ok {σ : Sg} : ∀ {n : Nat} {vs vs' : List Value} {l : List Int}, Lu n vs = some l → renL σ vs = some vs' → l.length = n ∧ (∀ (j : Nat) (x : Int), l[j]? = some x → vs'[j]? = some (Value.int .u8 x)) ∧ ∀ x ∈ l, 0 ≤ x ∧ x < 256
 | 0, vs, vs', l, h, hr => by simp only [Lu, oI] at h; subst h; exact ⟨rfl, fun j x e => by simp at e, fun x hx => by cases hx⟩
 | n + 1, [], vs', l, h, hr => by simp [Lu] at h
 | n + 1, v :: vs, vs', l, h, hr => by
   obtain ⟨a, b, h1, h2, rfl⟩ := B9 hr
   unfold Lu at h
   split at h
   ·rename_i e; cases e
   ·rename_i n' x us e1 e2
    cases e1
    cases e2
    obtain ⟨hb, h⟩ := Ba h
    have hb := of_decide_eq_true hb
    split at h
    ·rename_i l' hl
     cases h
     obtain ⟨i1, i2, i3⟩ := intsV_ok hl h2
     simp only [renV, oI] at h1
     subst h1
     refine ⟨by simp [i1], fun j y e => ?_, fun y hy => ?_⟩
     ·cases j with
      | zero => simp at e; subst e; rfl
      | succ j => simp at e ⊢; exact i2 j y e
     ·rcases List.mem_cons.1 hy with rfl | hy
      ·exact hb
      ·exact i3 y hy
    ·cases h
   ·cases h
theorem bytesV_ok {P : Program} {W : World} {σ : Sg} {h : Hp} {w : World} (hR : Rl W σ h w) {v v' : Value} {l : List Int} (hv : Ll h v = some l) (hr : renV σ v = some v') : (Extern.Bytes.bytesOf v').run P w = .ok ⟨(Lib.bytesOf l).toArray⟩ w ∧ ∀ x ∈ l, 0 ≤ x ∧ x < 256 := by
 unfold Ll at hv
 split at hv
 ·simp only [renV, oI] at hr
  cases hv
  subst hr
  exact ⟨rfl, fun x hx => by cases hx⟩
 ·rename_i n o len c
  split at hv
  ·rename_i r hl
   obtain ⟨q, vs, hb', hvs, hc⟩ := hR.cell hl
   obtain ⟨i1, i2, i3⟩ := intsV_ok hv (Cr o hvs)
   rcases B7 hr with ⟨p, c', hb, _, rfl, _⟩ | ⟨_, rfl, _, rfl⟩
   case inr =>
    obtain rfl := List.eq_nil_of_length_eq_zero i1
    refine ⟨?_, fun x hx => by cases hx⟩
    cases σ.e n <;> rfl
   have e0 : q = p := by rw [hb] at hb'; exact (Option.some.inj hb').symm
   subst e0
   refine ⟨?_, i3⟩
   have := Lib.run_loadBytesX (P := P) w l ⟨q.1, q.2 + o, none⟩ .empty (fun j x hj => by
    have e : (⟨q.1, q.2 + o, none⟩ : Addr).add j = ⟨q.1, q.2 + (o + j), none⟩ := by unfold Addr.add; split <;> simp_all [Nat.add_assoc]
    rw [e]
    refine hc (o + j) _ ?_
    have := i2 j x hj
    rw [List.getElem?_drop] at this
    exact this)
   rw [i1] at this
   show (Extern.Bytes.loadBytes ⟨q.1, q.2 + o, none⟩ len .empty).run P w = _
   rw [this]
   simp
  ·cases hv
 ·cases hv
def cmpI : List Int → List Int → Int
 | [], [] => 0
 | [], _ :: _ => -1
 | _ :: _, [] => 1
 | a :: as, b :: bs => bif decide (a < b) then -1 else bif decide (b < a) then 1 else cmpI as bs
theorem u8_lt {a b : Int} (ha : 0 ≤ a ∧ a < 256) (hb : 0 ≤ b ∧ b < 256) : (a.toNat.toUInt8 < b.toNat.toUInt8) = (a < b) := by
 rw [eq_iff_iff, UInt8.lt_iff_toNat_lt]
 have e1 : (a.toNat.toUInt8).toNat = a.toNat % 256 := by simp
 have e2 : (b.toNat.toUInt8).toNat = b.toNat % 256 := by simp
 rw [e1, e2]
 omega
theorem cmpI_eq : ∀ (xs ys : List Int), (∀ x ∈ xs, 0 ≤ x ∧ x < 256) → (∀ x ∈ ys, 0 ≤ x ∧ x < 256) → cmpI xs ys = Lib.compareBytes (Lib.bytesOf xs) (Lib.bytesOf ys)
 | [], [], _, _ => by simp [cmpI, Lib.compareBytes, Lib.bytesOf]
 | [], _ :: _, _, _ => by simp [cmpI, Lib.compareBytes, Lib.bytesOf]
 | _ :: _, [], _, _ => by simp [cmpI, Lib.compareBytes, Lib.bytesOf]
 | a :: as, b :: bs, hx, hy => by
   have ih := cmpI_eq as bs (fun x h => hx x (by simp [h])) (fun x h => hy x (by simp [h]))
   have h1 := u8_lt (hx a (by simp)) (hy b (by simp))
   have h2 := u8_lt (hy b (by simp)) (hx a (by simp))
   simp only [cmpI, Lib.bytesOf, List.map_cons, Lib.compareBytes, h1, h2] at ih ⊢
   rw [← ih]
   by_cases e1 : a < b <;> by_cases e2 : b < a <;> simp [e1, e2]
theorem cmp_def (a b : Value) : Extern.BytealgCompare.compare #[a, b] = (do pure (goInt (Extern.BytealgCompare.cmp (← Extern.Bytes.bytesOf a) (← Extern.Bytes.bytesOf b)))) := rfl
def cmpX (f0 : FuncId) (f : FuncId) (args : List Value) (h : Hp) : Option Value :=
 bif Nat.beq f f0 then (match args with
 | [a, b] => match Ll h a, Ll h b with
  | some xs, some ys => some (.int .i64 (cmpI xs ys))
  | _, _ => none
 | _ => none) else none
theorem cmp_one {P : Program} {f0 : FuncId} (hrun : ∀ args w, (callFunc f0 args).run P w = ((Extern.BytealgCompare.compare args).run P w).andThen fun v w' => .ok (.value v) w') : XOne P (cmpX f0) := by
 intro f args h v hv W σ w args' hR ha
 simp only [cmpX] at hv
 obtain ⟨hf, h1⟩ := Ba hv
 clear hv
 obtain rfl := Nat.eq_of_beq_eq_true hf
 split at h1
 ·rename_i a b
  split at h1
  ·rename_i xs ys hx hy
   cases h1
   obtain ⟨a', l, ea, el, rfl⟩ := B9 ha
   obtain ⟨b', l', eb, el', rfl⟩ := B9 el
   simp only [renL, oI] at el'
   subst el'
   obtain ⟨r1, k1⟩ := bytesV_ok (P := P) hR hx ea
   obtain ⟨r2, k2⟩ := bytesV_ok (P := P) hR hy eb
   refine ⟨rfl, ?_⟩
   rw [hrun]
   have ea' : [a', b'].toArray = #[a', b'] := rfl
   rw [ea', cmp_def]
   simp only [Sem.run_bind, r1, r2, Result.andThen_ok, Sem.run_pure]
   rw [Lib.cmp_eq, cmpI_eq xs ys k1 k2]
   rfl
  ·cases h1
 ·cases h1
abbrev Ob := List (Bool × Bool)
structure Ov where
 T : FuncId → List Value → Hp → Nat → Option (Out × Bool)
 X : FuncId → List Value → Hp → Option (Value × Bool)
abbrev CallO := FuncId → List Value → Hp → Nat → List Bool → Option (Out × List Bool × Ob)
section
variable {V : Ov} {P : Program} {call : FuncId → List Value → Hp → Nat → Option Out} {callO : CallO}
end
end Go.Proofs.Ytojakfnljopjbaa
