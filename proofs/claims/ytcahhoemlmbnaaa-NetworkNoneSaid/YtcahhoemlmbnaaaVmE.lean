/-
  The machine that runs in the kernel, part E: addresses, slices, conversions; the value of an operation that only reads.
-/
import Derived.Test.YtcahhoemlmbnaaaVmD
namespace Go.Proofs.Ytcahhoemlmbnaaa
set_option linter.unusedSimpArgs false
set_option linter.unusedVariables false
set_option linter.unusedSectionVars false
open Go Go.RowKit

def byOf : Value → Option Int
  | .int .u8 n => some n
  | _ => none
def bytesOf : List Value → Option (List Int)
  | [] => some []
  | v :: vs => match byOf v, bytesOf vs with | some n, some ns => some (n :: ns) | _, _ => none
theorem bytesOf_ok : ∀ {l : List Value} {ns : List Int}, bytesOf l = some ns → l = ns.map (Value.int .u8)
  | [], ns, h => by simp [bytesOf] at h; subst h; rfl
  | v :: vs, ns, h => by
      simp only [bytesOf] at h
      split at h
      · rename_i n ms h1 h2
        cases h
        have hv : v = .int .u8 n := by
          unfold byOf at h1
          split at h1
          · cases h1; rfl
          · cases h1
        rw [hv, bytesOf_ok h2]; rfl
      · cases h
def strOfI (ns : List Int) : ByteArray := ⟨(ns.map fun n => UInt8.ofNat n.toNat).toArray⟩
theorem foldl_push_I : ∀ (ns : List Int) (r : ByteArray), ns.foldl (fun r n => r.push (UInt8.ofNat n.toNat)) r = ⟨r.data ++ (ns.map fun n => UInt8.ofNat n.toNat).toArray⟩
  | [], r => by simp
  | n :: ns, r => by
      simp only [List.foldl_cons]
      rw [foldl_push_I ns]
      simp [ByteArray.push]

/-- Bytes of a slice: so many cells from a place on. -/
def cellsAt (h : Hp) (n o len : Nat) : Option (List Value) :=
  match lk h n with
  | some r => bif Nat.ble (o + len) r.cs.length then some ((r.cs.drop o).take len) else none
  | none => none
def cvV (P : Program) (h : Hp) (src dst : TypeId) (x : Value) : Option Value :=
  match P.underlying src, P.underlying dst, x with
  | some _, some (.int k), .int _ n => some (.int k (k.wrap n))
  | some .string, some .string, .string s => some (.string s)
  | some (.slice e), some .string, .slice none _ _ => match P.underlying e with
    | some (.int .u8) => some (.string ByteArray.empty)
    | _ => none
  | some (.slice e), some .string, .slice (some ⟨n, o, none⟩) len _ => match P.underlying e with
    | some (.int .u8) => match cellsAt h n o len with
      | some cs => match bytesOf cs with
        | some ns => some (.string (strOfI ns))
        | none => none
      | none => none
    | _ => none
  | _, _, _ => none

section
variable {P : Program} {W : World} {σ : Sg} {h : Hp} {w : World}
theorem addr_add (b o n : Nat) : (⟨b, o, none⟩ : Addr).add n = ⟨b, o + n, none⟩ := by unfold Addr.add; split <;> simp_all
theorem cellsAt_ok (hR : Rl W σ h w) {n o len : Nat} {cs : List Value} (hc : cellsAt h n o len = some cs) : ∃ p vs, σ.b n = some p ∧ renL σ cs = some vs ∧ vs.length = len ∧ cs.length = len ∧ ∀ j v, vs[j]? = some v → w.cell? ⟨p.1, p.2 + o + j, none⟩ = some v := by
  unfold cellsAt at hc
  split at hc
  · rename_i r hr
    cases hb : Nat.ble (o + len) r.cs.length with
    | false => rw [hb] at hc; cases hc
    | true =>
      rw [hb] at hc
      simp only [cond_true, Option.some.injEq] at hc
      subst hc
      have hle := Nat.le_of_ble_eq_true hb
      obtain ⟨p, vs, h1, h2, h3⟩ := hR.cell hr
      have h4 := renL_take len (renL_drop o h2)
      have hl := renL_len h2
      refine ⟨p, (vs.drop o).take len, h1, h4, by simp; omega, by simp; omega, fun j v hj => ?_⟩
      have hj2 : vs[o + j]? = some v := by
        rw [List.getElem?_take] at hj
        split at hj
        · rwa [List.getElem?_drop] at hj
        · cases hj
      rw [Nat.add_assoc]
      exact h3 _ v hj2
  · cases hc
theorem cvV_ok (hR : Rl W σ h w) {src dst : TypeId} {x x' v : Value} (hv : cvV P h src dst x = some v) (hx : renV σ x = some x') : ∃ v', renV σ v = some v' ∧ (convert src dst x').run P w = .ok v' w := by
  unfold cvV at hv
  split at hv
  · rename_i d k k1 n hs hd
    simp only [renV, Option.some.injEq] at hx hv
    subst hx; subst hv
    exact ⟨_, rfl, by simp [convert, run_underlying hs, run_underlying hd, Conv.intToInt]⟩
  · rename_i s hs hd
    simp only [renV, Option.some.injEq] at hx hv
    subst hx; subst hv
    exact ⟨_, rfl, by simp [convert, run_underlying hs, run_underlying hd]⟩
  · rename_i e l c hs hd
    simp only [renV, Option.some.injEq] at hx
    subst hx
    split at hv
    · rename_i he
      cases hv
      refine ⟨_, rfl, ?_⟩
      rw [run_convert_bytes_string w src dst e _ l c hs he hd]
      simp [Conv.bytesToString]
    · cases hv
  · rename_i e n o l c hs hd
    split at hv
    · rename_i he
      split at hv
      · rename_i cs hc
        split at hv
        · rename_i ns hn
          cases hv
          obtain ⟨p, c', hb, hcp, rfl⟩ := renV_slice hx
          obtain ⟨p', vs, h1, h2, h3, h5, h4⟩ := cellsAt_ok hR hc
          rw [hb] at h1
          cases h1
          have hcs := bytesOf_ok hn
          have hvs : vs = ns.map (Value.int .u8) := by
            rw [hcs, renL_id _ (fun _ => rfl)] at h2
            exact (Option.some.inj h2).symm
          refine ⟨_, rfl, ?_⟩
          rw [run_convert_bytes_string w src dst e _ l c' hs he hd]
          have hlc := run_loadCells_list (P := P) w ⟨p.1, p.2 + o, none⟩ vs (fun j v hj => by rw [addr_add]; exact h4 j v hj)
          rw [h3, hvs] at hlc
          rw [run_bytesToString w _ l c' ns hlc, foldl_push_I]
          unfold strOfI
          have he0 : ByteArray.empty.data = #[] := rfl
          rw [he0]
          simp
        · cases hv
      · cases hv
    · cases hv
  · cases hv
end

/-- An index below a bound. -/
def ixV (i : Int) (n : Nat) : Option Nat := bif decide (0 ≤ i ∧ i < (n : Int)) then some i.toNat else none
theorem ixV_ok {i : Int} {n m : Nat} (h : ixV i n = some m) : 0 ≤ i ∧ i < (n : Int) ∧ i.toNat = m := by
  unfold ixV at h
  by_cases hi : 0 ≤ i ∧ i < (n : Int)
  · simp only [hi, and_self, decide_true, cond_true, Option.some.injEq] at h
    exact ⟨hi.1, hi.2, h⟩
  · simp only [hi, decide_false, cond_false] at h; cases h
def bdV (v : Option Value) (d : Nat) (top : Nat) : Option Nat :=
  match v with
  | none => some d
  | some (.int _ i) => bif decide (0 ≤ i ∧ i ≤ (top : Int)) then some i.toNat else none
  | _ => none
/-- low, high, max. -/
def bdsV (len cap : Nat) (lo hi mx : Option Value) : Option (Nat × Nat × Nat) :=
  match bdV mx cap cap with
  | none => none
  | some m => match hi, mx with
    | none, some _ => none
    | _, _ => match bdV hi len m with
      | none => none
      | some h => match bdV lo 0 h with
        | none => none
        | some l => some (l, h, m)
def evO (ev : Operand → Option Value) : Option Operand → Option (Option Value)
  | none => some none
  | some x => match ev x with | some v => some (some v) | none => none
def adAdd (n o l m s : Nat) : Addr := bif Nat.beq m l then ⟨n, o, none⟩ else ⟨n, o + l * s, none⟩
def slV (P : Program) (t : TypeId) (x : Value) (lo hi mx : Option Value) : Option Value :=
  match P.underlying t, x with
  | some (.slice e), .slice a len cap => match P.info? e with
    | none => none
    | some i => bif Nat.blt cap capBig then (match bdsV len cap lo hi mx with
      | none => none
      | some (l, h, m) => match a with
        | none => some (.slice none (h - l) (m - l))
        | some ⟨n, o, none⟩ => some (.slice (some (adAdd n o l m i.size)) (h - l) (m - l))
        | _ => none) else none
  | some .string, .string s => match mx with
    | some _ => none
    | none => match bdsV s.data.toList.length s.data.toList.length lo hi none with
      | none => none
      | some (l, h, _) => some (.string ⟨((s.data.toList.drop l).take (h - l)).toArray⟩)
  | some (.array n e), .pointer (some ⟨b, o, none⟩) => match P.info? e with
    | none => none
    | some i => match bdsV n n lo hi mx with
      | none => none
      | some (l, h, m) => bif Nat.blt n capBig then some (.slice (some (adAdd b o l m i.size)) (h - l) (m - l)) else none
  | _, _ => none
section
variable {P : Program} {W : World} {σ : Sg} {h : Hp} {w : World}
theorem bdV_run {x : Value} {d top r : Nat} (code : BoundsCode) (h : bdV (some x) d top = some r) : (Instr.sliceBound x top code).run P w = .ok r w := by
  unfold bdV at h
  split at h
  · rename_i e; cases e
  · rename_i k i e
    cases e
    by_cases hi : 0 ≤ i ∧ i ≤ (top : Int)
    · simp only [hi, and_self, decide_true, cond_true, Option.some.injEq] at h
      subst h
      exact run_sliceBound w k i top code hi.1 hi.2
    · simp only [hi, decide_false, cond_false] at h; cases h
  · cases h
theorem bdV_none {d top r : Nat} (h : bdV none d top = some r) : r = d := by
  simp only [bdV, Option.some.injEq] at h; exact h.symm
theorem bdsV_run (isSlice : Bool) {len cap l h m : Nat} {lo hi mx : Option Value} (hb : bdsV len cap lo hi mx = some (l, h, m)) : (Instr.sliceBounds isSlice len cap lo hi mx).run P w = .ok (l, h, m) w := by
  unfold bdsV at hb
  split at hb
  · cases hb
  · rename_i m' hm
    split at hb
    · cases hb
    · rename_i hno
      split at hb
      · cases hb
      · rename_i h' hh
        split at hb
        · cases hb
        · rename_i l' hl
          cases hb
          unfold Instr.sliceBounds
          cases mx with
          | none =>
            obtain rfl := bdV_none hm
            cases hi with
            | none =>
              obtain rfl := bdV_none hh
              cases lo with
              | none => obtain rfl := bdV_none hl; simp
              | some x => simp [bdV_run _ hl]
            | some y =>
              cases lo with
              | none => obtain rfl := bdV_none hl; simp [bdV_run _ hh]
              | some x => simp [bdV_run _ hh, bdV_run _ hl]
          | some z =>
            cases hi with
            | none => exact (hno z rfl rfl).elim
            | some y =>
              cases lo with
              | none => obtain rfl := bdV_none hl; simp [bdV_run _ hm, bdV_run _ hh]
              | some x => simp [bdV_run _ hm, bdV_run _ hh, bdV_run _ hl]
theorem int_ren {v v' : Value} {k : IntKind} {i : Int} (h : renV σ v = some v') (e : v = .int k i) : v' = v := by subst e; simp only [renV, Option.some.injEq] at h; exact h.symm
theorem bdV_same {v : Value} {v' : Value} {d top r : Nat} (h : bdV (some v) d top = some r) (hr : renV σ v = some v') : v' = v := by
  unfold bdV at h
  split at h
  · rename_i e; cases e
  · rename_i k i e; cases e; simp only [renV, Option.some.injEq] at hr; exact hr.symm
  · cases h
theorem bdsV_same {len cap : Nat} {lo hi mx lo' hi' mx' : Option Value} {q : Nat × Nat × Nat} (hb : bdsV len cap lo hi mx = some q)
    (h1 : ∀ v, lo = some v → ∃ v', lo' = some v' ∧ renV σ v = some v') (h1n : lo = none → lo' = none) (h2 : ∀ v, hi = some v → ∃ v', hi' = some v' ∧ renV σ v = some v') (h2n : hi = none → hi' = none)
    (h3 : ∀ v, mx = some v → ∃ v', mx' = some v' ∧ renV σ v = some v') (h3n : mx = none → mx' = none) : lo' = lo ∧ hi' = hi ∧ mx' = mx := by
  unfold bdsV at hb
  split at hb
  · cases hb
  · rename_i m' hm
    split at hb
    · cases hb
    · split at hb
      · cases hb
      · rename_i h' hh
        split at hb
        · cases hb
        · rename_i l' hl
          refine ⟨?_, ?_, ?_⟩
          · cases lo with
            | none => exact h1n rfl
            | some v => obtain ⟨v', e, hr⟩ := h1 v rfl; rw [e, bdV_same hl hr]
          · cases hi with
            | none => exact h2n rfl
            | some v => obtain ⟨v', e, hr⟩ := h2 v rfl; rw [e, bdV_same hh hr]
          · cases mx with
            | none => exact h3n rfl
            | some v => obtain ⟨v', e, hr⟩ := h3 v rfl; rw [e, bdV_same hm hr]
theorem adAdd_ok {n o l m s : Nat} {p : Nat × Nat} (hb : σ.b n = some p) : adR σ (adAdd n o l m s) = some (if m = l then ⟨p.1, p.2 + o, none⟩ else (⟨p.1, p.2 + o, none⟩ : Addr).add (l * s)) := by
  unfold adAdd
  by_cases e : m = l
  · subst e; simp [adR, hb]
  · rw [nbeq_ne e]; simp [adR, hb, e, addr_add, Nat.add_assoc]
theorem cpR_low {c : Nat} (h : Nat.blt c capBig = true) : c < capBig := by
  have := Nat.le_of_ble_eq_true h
  exact this
theorem cpR_of {c d : Nat} (h : c < capBig) (hd : d ≤ c) : cpR σ d = some d := by
  unfold cpR; rw [if_pos (by omega)]
theorem bdsV_le {len cap l h m : Nat} {lo hi mx : Option Value} (hb : bdsV len cap lo hi mx = some (l, h, m)) : m ≤ cap := by
  unfold bdsV at hb
  split at hb
  · cases hb
  · rename_i m' hm
    split at hb
    · cases hb
    · split at hb
      · cases hb
      · split at hb
        · cases hb
        · cases hb
          unfold bdV at hm
          split at hm
          · cases hm; exact Nat.le_refl _
          · rename_i ii _
            by_cases hi : 0 ≤ ii ∧ ii ≤ (cap : Int)
            · simp only [hi, and_self, decide_true, cond_true, Option.some.injEq] at hm; omega
            · simp only [hi, decide_false, cond_false] at hm; cases hm
          · cases hm
theorem slV_ok {t : TypeId} {x x' v : Value} {lo hi mx lo' hi' mx' : Option Value} (hs : slV P t x lo hi mx = some v) (hx : renV σ x = some x')
    (h1 : ∀ v, lo = some v → ∃ v', lo' = some v' ∧ renV σ v = some v') (h1n : lo = none → lo' = none) (h2 : ∀ v, hi = some v → ∃ v', hi' = some v' ∧ renV σ v = some v') (h2n : hi = none → hi' = none)
    (h3 : ∀ v, mx = some v → ∃ v', mx' = some v' ∧ renV σ v = some v') (h3n : mx = none → mx' = none) : ∃ v', renV σ v = some v' ∧ (Instr.sliceAt t x' lo' hi' mx').run P w = .ok v' w := by
  unfold slV at hs
  split at hs
  · rename_i e a len cap hu
    cases hi0 : P.info? e with
    | none => rw [hi0] at hs; cases hs
    | some i =>
      rw [hi0] at hs
      simp only at hs
      cases hcb : Nat.blt cap capBig with
      | false => rw [hcb] at hs; cases hs
      | true =>
      rw [hcb] at hs
      simp only [cond_true] at hs
      split at hs
      · cases hs
      · rename_i l h' m hb
        obtain ⟨rfl, rfl, rfl⟩ := bdsV_same (σ := σ) hb h1 h1n h2 h2n h3 h3n
        have hrun : ∀ (a' : Option Addr), (Instr.sliceAt t (.slice a' len cap) lo' hi' mx').run P w = .ok (.slice (if m = l then a' else a'.map (·.add (l * i.size))) (h' - l) (m - l)) w := by
          intro a'
          have hel : P.elem t = e := by simp [Program.elem, hu]
          rw [run_sliceAt_slice w t _ lo' hi' mx' (by rw [hel]; exact hu)]
          simp [Instr.slice, run_underlying hu, bdsV_run true hb, sizeOf, typeInfo, hi0]
        split at hs
        · cases hs
          simp only [renV, Option.some.injEq] at hx
          subst hx
          refine ⟨_, rfl, ?_⟩
          rw [hrun none]
          simp
        · rename_i n o
          cases hs
          obtain ⟨p, c', hb1, hcp, rfl⟩ := renV_slice hx
          have hcc : c' = cap := by
            rw [cpR_of (cpR_low hcb) (Nat.le_refl _)] at hcp
            exact (Option.some.inj hcp).symm
          subst hcc
          refine ⟨_, ?_, hrun _⟩
          simp only [renV, adAdd_ok hb1]
          have hml := bdsV_le hb
          rw [cpR_of (cpR_low hcb) (by omega)]
          simp only []
          congr 2
          split <;> rfl
        · cases hs
  · rename_i s hu
    split at hs
    · cases hs
    · split at hs
      · cases hs
      · rename_i l h' m hb
        cases hs
        obtain ⟨rfl, rfl, rfl⟩ := bdsV_same (σ := σ) hb h1 h1n h2 h2n h3 h3n
        simp only [renV, Option.some.injEq] at hx
        subst hx
        refine ⟨_, rfl, ?_⟩
        have hsz : s.data.toList.length = s.size := by simp
        rw [hsz] at hb
        rw [run_sliceAt_string w t _ lo' hi' none hu]
        simp only [Instr.slice, Sem.run_bind, run_underlying hu, Result.andThen_ok, Option.isSome_none, Bool.false_eq_true, if_false, Sem.run_pure, bdsV_run false hb]
        congr 2
        apply ByteArray.ext
        apply Array.toList_inj.1
        simp [List.extract_eq_take_drop]
  · rename_i n e b o hu
    cases hi0 : P.info? e with
    | none => rw [hi0] at hs; cases hs
    | some i =>
      rw [hi0] at hs
      simp only at hs
      split at hs
      · cases hs
      · rename_i l h' m hb
        cases hcb : Nat.blt n capBig with
        | false => rw [hcb] at hs; cases hs
        | true =>
          rw [hcb] at hs
          cases hs
          obtain ⟨rfl, rfl, rfl⟩ := bdsV_same (σ := σ) hb h1 h1n h2 h2n h3 h3n
          obtain ⟨p, hb1, rfl⟩ := renV_ptr hx
          refine ⟨.slice (some (if m = l then ⟨p.1, p.2 + o, none⟩ else (⟨p.1, p.2 + o, none⟩ : Addr).add (l * i.size))) (h' - l) (m - l), ?_, ?_⟩
          · simp only [renV, adAdd_ok hb1]
            have hml := bdsV_le hb
            rw [cpR_of (cpR_low hcb) (by omega)]
          · simp only [Instr.sliceAt, Sem.run_bind, run_underlying hu, Result.andThen_ok, Instr.sureAddr, Sem.run_pure, bdsV_run false hb, sizeOf, typeInfo, run_program, hi0]
  · cases hs
end

/-- A slice whose capacity is that of a row that has grown, cut to so many elements. -/
def slRV (P : Program) (h : Hp) (t : TypeId) (x : Value) (lo hi mx : Option Value) : Option Value :=
  match P.underlying t, x, lo, hi, mx with
  | some (.slice e), .slice (some ⟨n, o, none⟩) len cap, none, some (.int _ k), none => match P.info? e, lk h (cap - capBig) with
    | some i, some ⟨.room sz _, cs⟩ => bif Nat.ble capBig cap && Nat.beq sz i.size && Nat.blt 0 sz && decide (0 ≤ k) && Nat.ble (k.toNat * sz) cs.length then some (.slice (some ⟨n, o, none⟩) k.toNat cap) else none
    | _, _ => none
  | _, _, _, _, _ => none
theorem bif_then {α : Type} {c : Bool} {x : Option α} {y : α} (h : (bif c then x else none) = some y) : c = true ∧ x = some y := by
  cases c with
  | false => cases h
  | true => exact ⟨rfl, h⟩
theorem slRV_ok {P : Program} {W : World} {σ : Sg} {h : Hp} {w : World} (hR : Rl W σ h w) {t : TypeId} {x x' v : Value} {lo hi mx lo' hi' mx' : Option Value} (hs : slRV P h t x lo hi mx = some v) (hx : renV σ x = some x')
    (h1n : lo = none → lo' = none) (h2 : ∀ v, hi = some v → ∃ v', hi' = some v' ∧ renV σ v = some v') (h3n : mx = none → mx' = none) : ∃ v', renV σ v = some v' ∧ (Instr.sliceAt t x' lo' hi' mx').run P w = .ok v' w := by
  unfold slRV at hs
  split at hs
  case h_2 => cases hs
  rename_i e n o len cap kk k hu
  split at hs
  case h_2 => cases hs
  rename_i i sz zz cs hi0 hl
  obtain ⟨hg, hs1⟩ := bif_then hs
  clear hs
  cases hs1
  simp only [Bool.and_eq_true, Nat.ble_eq, Nat.blt_eq, decide_eq_true_eq] at hg
  obtain ⟨⟨⟨⟨g1, g2⟩, g3⟩, g4⟩, g5⟩ := hg
  obtain rfl := Nat.eq_of_beq_eq_true g2
  obtain rfl := h1n rfl
  obtain rfl := h3n rfl
  obtain ⟨u', rfl, hu'⟩ := h2 _ rfl
  simp only [renV, Option.some.injEq] at hu'
  subst hu'
  obtain ⟨p, c', hb, hcp, rfl⟩ := renV_slice hx
  have hcp0 := hcp
  unfold cpR at hcp0
  rw [if_neg (Nat.not_lt_of_le g1)] at hcp0
  obtain ⟨b, s, vs, hb', hv, hk⟩ := hR.row _ _ hl
  obtain ⟨_, _, tt, rest, c, hc, _, hlen, _⟩ := hk
  rw [hcp0] at hc
  cases hc
  have hle : k.toNat ≤ c' := by
    have e1 := renL_len hv
    simp only at e1
    rw [List.length_append] at hlen
    have : k.toNat * i.size ≤ c' * i.size := by omega
    exact Nat.le_of_mul_le_mul_right this g3
  have hbd : bdsV len c' none (some (.int kk k)) none = some (0, k.toNat, c') := by
    have hk2 : 0 ≤ k ∧ k ≤ (c' : Int) := ⟨g4, by omega⟩
    simp [bdsV, bdV, hk2]
  have hel : P.elem t = e := by simp [Program.elem, hu]
  refine ⟨_, renV_slice_mk hb hcp, ?_⟩
  rw [run_sliceAt_slice w t _ none (some (.int kk k)) none (by rw [hel]; exact hu)]
  simp [Instr.slice, run_underlying hu, bdsV_run true hbd, sizeOf, typeInfo, hi0]
  intro _
  exact addr_add _ _ _
end Go.Proofs.Ytcahhoemlmbnaaa
