/-
  The machine that runs in the kernel, part E: addresses, slices, conversions; the value of an operation that only reads.
-/
import Derived.Test.YtojakfnljopjbaaGrAC
import Derived.Test.YtojakfnljopjbaaGrAA
import Derived.Laws.MakeOwn
import Derived.Laws.IdiomCopy
namespace Go.Proofs.Ytojakfnljopjbaa
set_option linter.unusedSimpArgs false
set_option linter.unusedVariables false
set_option linter.unusedSectionVars false
open Go Go.RowKit

def byOf : Value → Option Int
 | .int .u8 n => some n
 | _ => none
def bytesOf : List Value → Option (List Int)
 | [] => some []
 | v :: vs => match byOf v, bytesOf vs with | some n, some ns => some (n :: ns) | _, _ => none
theorem bytesOf_ok : ∀ {l : List Value} {ns : List Int}, bytesOf l = some ns → l = ns.map (Value.int .u8)
 | [], ns, h => by simp [bytesOf] at h; subst h; rfl
 | v :: vs, ns, h => by
   simp only [bytesOf] at h
   split at h
   ·rename_i n ms h1 h2
    cases h
    have hv : v = .int .u8 n := by
     unfold byOf at h1
     split at h1
     ·cases h1; rfl
     ·cases h1
    rw [hv, bytesOf_ok h2]; rfl
   ·cases h
def C5 (ns : List Int) : ByteArray := ⟨(ns.map fun n => UInt8.ofNat n.toNat).toArray⟩
theorem Kn : ∀ (ns : List Int) (r : ByteArray), ns.foldl (fun r n => r.push (UInt8.ofNat n.toNat)) r = ⟨r.data ++ (ns.map fun n => UInt8.ofNat n.toNat).toArray⟩
 | [], r => by simp
 | n :: ns, r => by
   simp only [List.foldl_cons]
   rw [Kn ns]
   simp [ByteArray.push]

def Ej (h : Hp) (n o len : Nat) : Option (List Value) :=
 match lk h n with
 | some r => bif Nat.ble (o + len) r.cs.length then some ((r.cs.drop o).take len) else none
 | none => none
def cvV (P : Program) (h : Hp) (src dst : TypeId) (x : Value) : Option Value :=
 match P.underlying src, P.underlying dst, x with
 | some _, some (.int k), .int _ n => some (.int k (k.wrap n))
 | some .string, some .string, .string s => some (.string s)
 | some (.slice e), some .string, .slice none _ _ => match P.underlying e with
  | some (.int .u8) => some (.string ByteArray.empty)
  | _ => none
 | some (.slice e), some .string, .slice (some ⟨n, o, none⟩) len _ => match P.underlying e with
  | some (.int .u8) => match Ej h n o len with
   | some cs => match bytesOf cs with
    | some ns => some (.string (C5 ns))
    | none => none
   | none => none
  | _ => none
 | _, _, _ => none

section
variable {P : Program} {W : World} {σ : Sg} {h : Hp} {w : World}
theorem C3 (b o n : Nat) : (⟨b, o, none⟩ : Addr).add n = ⟨b, o + n, none⟩ := by unfold Addr.add; split <;> simp_all
theorem D0 (hR : Rl W σ h w) {n o len : Nat} {cs : List Value} (hc : Ej h n o len = some cs) : ∃ p vs, σ.b n = some p ∧ renL σ cs = some vs ∧ vs.length = len ∧ cs.length = len ∧ ∀ j v, vs[j]? = some v → w.cell? ⟨p.1, p.2 + o + j, none⟩ = some v := by
 unfold Ej at hc
 split at hc
 ·rename_i r hr
  cases hb : Nat.ble (o + len) r.cs.length with
  | false => rw [hb] at hc; cases hc
  | true =>
   rw [hb] at hc
   simp only [cond_true, oI] at hc
   subst hc
   have hle := Nat.le_of_ble_eq_true hb
   obtain ⟨p, vs, h1, h2, h3⟩ := hR.cell hr
   have h4 := Dw len (Cr o h2)
   have hl := Bn h2
   refine ⟨p, (vs.drop o).take len, h1, h4, by simp; omega, by simp; omega, fun j v hj => ?_⟩
   have hj2 : vs[o + j]? = some v := by
    rw [List.getElem?_take] at hj
    split at hj
    ·rwa [List.getElem?_drop] at hj
    ·cases hj
   rw [Nat.add_assoc]
   exact h3 _ v hj2
 ·cases hc
theorem cvV_ok (hR : Rl W σ h w) {src dst : TypeId} {x x' v : Value} (hv : cvV P h src dst x = some v) (hx : renV σ x = some x') : ∃ v', renV σ v = some v' ∧ (convert src dst x').run P w = .ok v' w := by
 unfold cvV at hv
 split at hv
 ·rename_i d k k1 n hs hd
  simp only [renV, oI] at hx hv
  subst hx; subst hv
  exact ⟨_, rfl, by simp [convert, run_underlying hs, run_underlying hd, Conv.intToInt]⟩
 ·rename_i s hs hd
  simp only [renV, oI] at hx hv
  subst hx; subst hv
  exact ⟨_, rfl, by simp [convert, run_underlying hs, run_underlying hd]⟩
 ·rename_i e l c hs hd
  simp only [renV, oI] at hx
  subst hx
  split at hv
  ·rename_i he
   cases hv
   refine ⟨_, rfl, ?_⟩
   rw [run_convert_bytes_string w src dst e _ l c hs he hd]
   simp [Conv.bytesToString]
  ·cases hv
 ·rename_i e n o l c hs hd
  split at hv
  ·rename_i he
   split at hv
   ·rename_i cs hc
    split at hv
    ·rename_i ns hn
     cases hv
     rcases B7 hx with ⟨p, c', hb, hcp, rfl, _⟩ | ⟨_, rfl, _, rfl⟩
     case inr =>
      obtain ⟨p', vs, h1, h2, h3, h5, h4⟩ := D0 hR hc
      obtain rfl := List.eq_nil_of_length_eq_zero h5
      simp only [bytesOf, oI] at hn
      subst hn
      refine ⟨_, rfl, ?_⟩
      rw [run_convert_bytes_string w src dst e _ 0 0 hs he hd]
      cases σ.e n with
      | none => simp [Conv.bytesToString, C5]; rfl
      | some a =>
       have hlc := run_loadCells_list (P := P) w a [] (fun j v hj => by simp at hj)
       rw [run_bytesToString w a 0 0 [] hlc]
       rfl
     obtain ⟨p', vs, h1, h2, h3, h5, h4⟩ := D0 hR hc
     rw [hb] at h1
     cases h1
     have hcs := bytesOf_ok hn
     have hvs : vs = ns.map (Value.int .u8) := by
      rw [hcs, Jl _ (fun _ => rfl)] at h2
      exact (Option.some.inj h2).symm
     refine ⟨_, rfl, ?_⟩
     rw [run_convert_bytes_string w src dst e _ l c' hs he hd]
     have hlc := run_loadCells_list (P := P) w ⟨p.1, p.2 + o, none⟩ vs (fun j v hj => by rw [C3]; exact h4 j v hj)
     rw [h3, hvs] at hlc
     rw [run_bytesToString w _ l c' ns hlc, Kn]
     unfold C5
     have he0 : ByteArray.empty.data = #[] := rfl
     rw [he0]
     simp
    ·cases hv
   ·cases hv
  ·cases hv
 ·cases hv
end

def ixV (i : Int) (n : Nat) : Option Nat := bif decide (0 ≤ i ∧ i < (n : Int)) then some i.toNat else none
theorem ixV_ok {i : Int} {n m : Nat} (h : ixV i n = some m) : 0 ≤ i ∧ i < (n : Int) ∧ i.toNat = m := by
 unfold ixV at h
 by_cases hi : 0 ≤ i ∧ i < (n : Int)
 ·simp only [hi, and_self, decide_true, cond_true, oI] at h
  exact ⟨hi.1, hi.2, h⟩
 ·simp only [hi, decide_false, cond_false] at h; cases h
def bdV (v : Option Value) (d : Nat) (top : Nat) : Option Nat :=
 match v with
 | none => some d
 | some (.int _ i) => bif decide (0 ≤ i ∧ i ≤ (top : Int)) then some i.toNat else none
 | _ => none
def bdsV (len cap : Nat) (lo hi mx : Option Value) : Option (Nat × Nat × Nat) :=
 match bdV mx cap cap with
 | none => none
 | some m => match hi, mx with
  | none, some _ => none
  | _, _ => match bdV hi len m with
   | none => none
   | some h => match bdV lo 0 h with
    | none => none
    | some l => some (l, h, m)
def evO (ev : Operand → Option Value) : Option Operand → Option (Option Value)
 | none => some none
 | some x => match ev x with | some v => some (some v) | none => none
def Iw (n o l m s : Nat) : Addr := bif Nat.beq m l then ⟨n, o, none⟩ else ⟨n, o + l * s, none⟩
def slV (P : Program) (t : TypeId) (x : Value) (lo hi mx : Option Value) : Option Value :=
 match P.underlying t, x with
 | some (.slice e), .slice a len cap => match P.info? e with
  | none => none
  | some i => bif Nat.blt cap B0 then (match bdsV len cap lo hi mx with
   | none => none
   | some (l, h, m) => match a with
    | none => some (.slice none (h - l) (m - l))
    | some ⟨n, o, none⟩ => some (.slice (some (Iw n o l m i.size)) (h - l) (m - l))
    | _ => none) else none
 | some .string, .string s => match mx with
  | some _ => none
  | none => match bdsV s.data.toList.length s.data.toList.length lo hi none with
   | none => none
   | some (l, h, _) => some (.string ⟨((s.data.toList.drop l).take (h - l)).toArray⟩)
 | some (.array n e), .pointer (some ⟨b, o, none⟩) => match P.info? e with
  | none => none
  | some i => match bdsV n n lo hi mx with
   | none => none
   | some (l, h, m) => bif Nat.blt n B0 then some (.slice (some (Iw b o l m i.size)) (h - l) (m - l)) else none
 | _, _ => none
section
variable {P : Program} {W : World} {σ : Sg} {h : Hp} {w : World}
theorem H4 {x : Value} {d top r : Nat} (code : BoundsCode) (h : bdV (some x) d top = some r) : (Instr.sliceBound x top code).run P w = .ok r w := by
 unfold bdV at h
 split at h
 ·rename_i e; cases e
 ·rename_i k i e
  cases e
  by_cases hi : 0 ≤ i ∧ i ≤ (top : Int)
  ·simp only [hi, and_self, decide_true, cond_true, oI] at h
   subst h
   exact run_sliceBound w k i top code hi.1 hi.2
  ·simp only [hi, decide_false, cond_false] at h; cases h
 ·cases h
theorem Es {d top r : Nat} (h : bdV none d top = some r) : r = d := by
 simp only [bdV, oI] at h; exact h.symm
theorem Hb (isSlice : Bool) {len cap l h m : Nat} {lo hi mx : Option Value} (hb : bdsV len cap lo hi mx = some (l, h, m)) : (Instr.sliceBounds isSlice len cap lo hi mx).run P w = .ok (l, h, m) w := by
 unfold bdsV at hb
 split at hb
 ·cases hb
 ·rename_i m' hm
  split at hb
  ·cases hb
  ·rename_i hno
   split at hb
   ·cases hb
   ·rename_i h' hh
    split at hb
    ·cases hb
    ·rename_i l' hl
     cases hb
     unfold Instr.sliceBounds
     cases mx with
     | none =>
      obtain rfl := Es hm
      cases hi with
      | none =>
       obtain rfl := Es hh
       cases lo with
       | none => obtain rfl := Es hl; simp
       | some x => simp [H4 _ hl]
      | some y =>
       cases lo with
       | none => obtain rfl := Es hl; simp [H4 _ hh]
       | some x => simp [H4 _ hh, H4 _ hl]
     | some z =>
      cases hi with
      | none => exact (hno z rfl rfl).elim
      | some y =>
       cases lo with
       | none => obtain rfl := Es hl; simp [H4 _ hm, H4 _ hh]
       | some x => simp [H4 _ hm, H4 _ hh, H4 _ hl]
theorem bdV_same {v : Value} {v' : Value} {d top r : Nat} (h : bdV (some v) d top = some r) (hr : renV σ v = some v') : v' = v := by
 unfold bdV at h
 split at h
 ·rename_i e; cases e
 ·rename_i k i e; cases e; simp only [renV, oI] at hr; exact hr.symm
 ·cases h
theorem I8 {len cap : Nat} {lo hi mx lo' hi' mx' : Option Value} {q : Nat × Nat × Nat} (hb : bdsV len cap lo hi mx = some q)
  (h1 : ∀ v, lo = some v → ∃ v', lo' = some v' ∧ renV σ v = some v') (h1n : lo = none → lo' = none) (h2 : ∀ v, hi = some v → ∃ v', hi' = some v' ∧ renV σ v = some v') (h2n : hi = none → hi' = none)
  (h3 : ∀ v, mx = some v → ∃ v', mx' = some v' ∧ renV σ v = some v') (h3n : mx = none → mx' = none) : lo' = lo ∧ hi' = hi ∧ mx' = mx := by
 unfold bdsV at hb
 split at hb
 ·cases hb
 ·rename_i m' hm
  split at hb
  ·cases hb
  ·split at hb
   ·cases hb
   ·rename_i h' hh
    split at hb
    ·cases hb
    ·rename_i l' hl
     refine ⟨?_, ?_, ?_⟩
     ·cases lo with
      | none => exact h1n rfl
      | some v => obtain ⟨v', e, hr⟩ := h1 v rfl; rw [e, bdV_same hl hr]
     ·cases hi with
      | none => exact h2n rfl
      | some v => obtain ⟨v', e, hr⟩ := h2 v rfl; rw [e, bdV_same hh hr]
     ·cases mx with
      | none => exact h3n rfl
      | some v => obtain ⟨v', e, hr⟩ := h3 v rfl; rw [e, bdV_same hm hr]
theorem adAdd_ok {n o l m s : Nat} {p : Nat × Nat} (hb : σ.b n = some p) : adR σ (Iw n o l m s) = some (if m = l then ⟨p.1, p.2 + o, none⟩ else (⟨p.1, p.2 + o, none⟩ : Addr).add (l * s)) := by
 unfold Iw
 by_cases e : m = l
 ·subst e; simp [adR, hb]
 ·rw [Ca e]; simp [adR, hb, e, C3, Nat.add_assoc]
theorem In {c : Nat} (h : Nat.blt c B0 = true) : c < B0 := by
 have := Nat.le_of_ble_eq_true h
 exact this
theorem E8 {c d : Nat} (h : c < B0) (hd : d ≤ c) : cpR σ d = some d := by
 unfold cpR; rw [if_pos (by omega)]
theorem bdV_top {v : Value} {d top r : Nat} (h : bdV (some v) d top = some r) : r ≤ top := by
 unfold bdV at h
 split at h
 ·rename_i e; cases e
 ·rename_i k i e
  by_cases hi : 0 ≤ i ∧ i ≤ (top : Int)
  ·simp only [hi, and_self, decide_true, cond_true, oI] at h
   omega
  ·simp only [hi, decide_false, cond_false] at h; cases h
 ·cases h
theorem bdsV_hi {len cap l h m : Nat} {lo hi mx : Option Value} (hb : bdsV len cap lo hi mx = some (l, h, m)) (hlc : len ≤ cap) : h ≤ m := by
 unfold bdsV at hb
 split at hb
 ·cases hb
 ·rename_i m' hm
  split at hb
  ·cases hb
  ·rename_i hno
   split at hb
   ·cases hb
   ·rename_i h' hh
    split at hb
    ·cases hb
    ·cases hb
     cases hi with
     | some x => exact bdV_top hh
     | none =>
      cases mx with
      | some y => exact (hno y rfl rfl).elim
      | none =>
       have e1 := Es hm
       have e2 := Es hh
       omega
theorem bdsV_le {len cap l h m : Nat} {lo hi mx : Option Value} (hb : bdsV len cap lo hi mx = some (l, h, m)) : m ≤ cap := by
 unfold bdsV at hb
 split at hb
 ·cases hb
 ·rename_i m' hm
  split at hb
  ·cases hb
  ·split at hb
   ·cases hb
   ·split at hb
    ·cases hb
    ·cases hb
     unfold bdV at hm
     split at hm
     ·cases hm; exact Nat.le_refl _
     ·rename_i ii _
      by_cases hi : 0 ≤ ii ∧ ii ≤ (cap : Int)
      ·simp only [hi, and_self, decide_true, cond_true, oI] at hm; omega
      ·simp only [hi, decide_false, cond_false] at hm; cases hm
     ·cases hm
theorem bdV_le {v : Option Value} {d top r : Nat} (h : bdV v d top = some r) (hd : d ≤ top) : r ≤ top := by
 unfold bdV at h
 split at h
 ·cases h; exact hd
 ·rename_i ii
  by_cases hi : 0 ≤ ii ∧ ii ≤ (top : Int)
  ·simp only [hi, and_self, decide_true, cond_true, oI] at h; omega
  ·simp only [hi, decide_false, cond_false] at h; cases h
 ·cases h
theorem bdsV_zero {l h m : Nat} {lo hi mx : Option Value} (hb : bdsV 0 0 lo hi mx = some (l, h, m)) : l = 0 ∧ h = 0 ∧ m = 0 := by
 unfold bdsV at hb
 split at hb
 ·cases hb
 ·rename_i m' hm
  split at hb
  ·cases hb
  ·split at hb
   ·cases hb
   ·rename_i h3 hh
    split at hb
    ·cases hb
    ·rename_i h4 hl
     cases hb
     have a1 := bdV_le hm (Nat.le_refl 0)
     have a2 := bdV_le hh (Nat.zero_le _)
     have a3 := bdV_le hl (Nat.zero_le _)
     omega
theorem slV_ok {t : TypeId} {x x' v : Value} {lo hi mx lo' hi' mx' : Option Value} (hs : slV P t x lo hi mx = some v) (hx : renV σ x = some x')
  (h1 : ∀ v, lo = some v → ∃ v', lo' = some v' ∧ renV σ v = some v') (h1n : lo = none → lo' = none) (h2 : ∀ v, hi = some v → ∃ v', hi' = some v' ∧ renV σ v = some v') (h2n : hi = none → hi' = none)
  (h3 : ∀ v, mx = some v → ∃ v', mx' = some v' ∧ renV σ v = some v') (h3n : mx = none → mx' = none) : ∃ v', renV σ v = some v' ∧ (Instr.sliceAt t x' lo' hi' mx').run P w = .ok v' w := by
 unfold slV at hs
 split at hs
 ·rename_i e a len cap hu
  cases hi0 : P.info? e with
  | none => rw [hi0] at hs; cases hs
  | some i =>
   rw [hi0] at hs
   simp only at hs
   cases hcb : Nat.blt cap B0 with
   | false => rw [hcb] at hs; cases hs
   | true =>
   rw [hcb] at hs
   simp only [cond_true] at hs
   split at hs
   ·cases hs
   ·rename_i l h' m hb
    obtain ⟨rfl, rfl, rfl⟩ := I8 (σ := σ) hb h1 h1n h2 h2n h3 h3n
    have hrun : ∀ (a' : Option Addr), (Instr.sliceAt t (.slice a' len cap) lo' hi' mx').run P w = .ok (.slice (if m = l then a' else a'.map (·.add (l * i.size))) (h' - l) (m - l)) w := by
     intro a'
     have hel : P.elem t = e := by simp [Program.elem, hu]
     rw [run_sliceAt_slice w t _ lo' hi' mx' (by rw [hel]; exact hu)]
     simp [Instr.slice, run_underlying hu, Hb true hb, sizeOf, typeInfo, hi0]
    split at hs
    ·cases hs
     simp only [renV, oI] at hx
     subst hx
     refine ⟨_, rfl, ?_⟩
     rw [hrun none]
     simp
    ·rename_i n o
     cases hs
     rcases B7 hx with ⟨p, c', hb1, hcp, rfl, hnn⟩ | ⟨hnn, rfl, hc0, rfl⟩
     case inr =>
      rw [E8 (In hcb) (Nat.le_refl _)] at hc0
      obtain rfl : cap = 0 := Option.some.inj hc0
      obtain ⟨rfl, rfl, rfl⟩ := bdsV_zero hb
      refine ⟨.slice (σ.e n) 0 0, ?_, ?_⟩
      ·have had : ∃ o', Iw n o 0 0 i.size = ⟨n, o', none⟩ := by unfold Iw; exact ⟨_, rfl⟩
       obtain ⟨o', had⟩ := had
       obtain ⟨q, hq⟩ : ∃ q, σ.b n = some q := by
        simp only [renV, slR, adR] at hx
        cases hb : σ.b n with
        | none => rw [hb] at hx; cases hx
        | some q => exact ⟨q, rfl⟩
       rw [had]
       exact Dl hq hnn rfl (by unfold cpR B0; rfl)
      ·rw [hrun (σ.e n)]
       simp
     have hcc : c' = cap := by
      rw [E8 (In hcb) (Nat.le_refl _)] at hcp
      exact (Option.some.inj hcp).symm
     subst hcc
     refine ⟨_, ?_, hrun _⟩
     have hml := bdsV_le hb
     have had : (Iw n o l m i.size).block = n := by unfold Iw; cases Nat.beq m l <;> rfl
     have hwl : σ.w = false ∨ h' - l ≤ m - l := by
      rcases Bool.eq_false_or_eq_true σ.w with hw | hw
      ·exact .inr (by have := bdsV_hi hb (Bx hw hx); omega)
      ·exact .inl hw
     simp only [renV, slR, had, if_neg hnn, adAdd_ok hb1]
     rw [E8 (In hcb) (by omega)]
     simp only [if_pos hwl]
     congr 2
     split <;> rfl
    ·cases hs
 ·rename_i s hu
  split at hs
  ·cases hs
  ·split at hs
   ·cases hs
   ·rename_i l h' m hb
    cases hs
    obtain ⟨rfl, rfl, rfl⟩ := I8 (σ := σ) hb h1 h1n h2 h2n h3 h3n
    simp only [renV, oI] at hx
    subst hx
    refine ⟨_, rfl, ?_⟩
    have hsz : s.data.toList.length = s.size := by simp
    rw [hsz] at hb
    rw [run_sliceAt_string w t _ lo' hi' none hu]
    simp only [Instr.slice, Sem.run_bind, run_underlying hu, Result.andThen_ok, Option.isSome_none, Bool.false_eq_true, if_false, Sem.run_pure, Hb false hb]
    congr 2
    apply ByteArray.ext
    apply Array.toList_inj.1
    simp [List.extract_eq_take_drop]
 ·rename_i n e b o hu
  cases hi0 : P.info? e with
  | none => rw [hi0] at hs; cases hs
  | some i =>
   rw [hi0] at hs
   simp only at hs
   split at hs
   ·cases hs
   ·rename_i l h' m hb
    cases hcb : Nat.blt n B0 with
    | false => rw [hcb] at hs; cases hs
    | true =>
     rw [hcb] at hs
     cases hs
     obtain ⟨rfl, rfl, rfl⟩ := I8 (σ := σ) hb h1 h1n h2 h2n h3 h3n
     obtain ⟨p, hb1, rfl, hnn⟩ := E4 hx
     refine ⟨.slice (some (if m = l then ⟨p.1, p.2 + o, none⟩ else (⟨p.1, p.2 + o, none⟩ : Addr).add (l * i.size))) (h' - l) (m - l), ?_, ?_⟩
     ·have had : (Iw b o l m i.size).block = b := by unfold Iw; cases Nat.beq m l <;> rfl
      simp only [renV, slR, had, if_neg hnn, adAdd_ok hb1]
      have hml := bdsV_le hb
      rw [E8 (In hcb) (by omega)]
      have hwl : σ.w = false ∨ h' - l ≤ m - l := .inr (by have := bdsV_hi hb (Nat.le_refl _); omega)
      simp only [if_pos hwl]
     ·simp only [Instr.sliceAt, Sem.run_bind, run_underlying hu, Result.andThen_ok, Instr.sureAddr, Sem.run_pure, Hb false hb, sizeOf, typeInfo, run_program, hi0]
 ·cases hs
end

def slRV (P : Program) (h : Hp) (t : TypeId) (x : Value) (lo hi mx : Option Value) : Option Value :=
 match P.underlying t, x, lo, hi, mx with
 | some (.slice e), .slice (some ⟨n, o, none⟩) len cap, none, some (.int _ k), none => match P.info? e, lk h (cap - B0) with
  | some i, some ⟨.room sz _, cs⟩ => bif Nat.ble B0 cap && Nat.beq sz i.size && Nat.blt 0 sz && decide (0 ≤ k) && Nat.ble (k.toNat * sz) cs.length then some (.slice (some ⟨n, o, none⟩) k.toNat cap) else none
  | _, _ => none
 | _, _, _, _, _ => none
theorem bif_then {α : Type} {c : Bool} {x : Option α} {y : α} (h : (bif c then x else none) = some y) : c = true ∧ x = some y := by
 cases c with
 | false => cases h
 | true => exact ⟨rfl, h⟩
theorem slRV_ok {P : Program} {W : World} {σ : Sg} {h : Hp} {w : World} (hR : Rl W σ h w) {t : TypeId} {x x' v : Value} {lo hi mx lo' hi' mx' : Option Value} (hs : slRV P h t x lo hi mx = some v) (hx : renV σ x = some x')
  (h1n : lo = none → lo' = none) (h2 : ∀ v, hi = some v → ∃ v', hi' = some v' ∧ renV σ v = some v') (h3n : mx = none → mx' = none) : ∃ v', renV σ v = some v' ∧ (Instr.sliceAt t x' lo' hi' mx').run P w = .ok v' w := by
 unfold slRV at hs
 split at hs
 case h_2 => cases hs
 rename_i e n o len cap kk k hu
 split at hs
 case h_2 => cases hs
 rename_i i sz zz cs hi0 hl
 obtain ⟨hg, hs1⟩ := bif_then hs
 clear hs
 cases hs1
 simp only [Bool.and_eq_true, Nat.ble_eq, Nat.blt_eq, decide_eq_true_eq] at hg
 obtain ⟨⟨⟨⟨g1, g2⟩, g3⟩, g4⟩, g5⟩ := hg
 obtain rfl := Nat.eq_of_beq_eq_true g2
 obtain rfl := h1n rfl
 obtain rfl := h3n rfl
 obtain ⟨u', rfl, hu'⟩ := h2 _ rfl
 simp only [renV, oI] at hu'
 subst hu'
 rcases B7 hx with ⟨p, c', hb, hcp, rfl, hnn⟩ | ⟨hnn, rfl, hc0, rfl⟩
 case inr =>
  have h5 := hc0
  unfold cpR at h5
  rw [if_neg (Nat.not_lt_of_le g1)] at h5
  obtain ⟨b, s, vs, hb', hv, hk⟩ := hR.row _ _ hl
  obtain ⟨_, _, tt, rest, c, hc, _, hlen, _⟩ := hk
  rw [h5] at hc
  cases hc
  have e1 := Bn hv
  simp only at e1
  rw [List.length_append] at hlen
  have hk0 : k.toNat = 0 := by
   rcases Nat.eq_zero_or_pos k.toNat with h | h
   ·exact h
   ·have := Nat.mul_pos h g3
    omega
  have hkz : k = 0 := by omega
  subst hkz
  obtain ⟨q, hq⟩ : ∃ q, σ.b n = some q := by
   simp only [renV, slR, adR] at hx
   cases hb : σ.b n with
   | none => rw [hb] at hx; cases hx
   | some q => exact ⟨q, rfl⟩
  have hel : P.elem t = e := by simp [Program.elem, hu]
  have hbd : bdsV 0 0 none (some (.int kk 0)) none = some (0, 0, 0) := by simp [bdsV, bdV]
  refine ⟨_, Dl hq hnn rfl hc0, ?_⟩
  rw [run_sliceAt_slice w t _ none (some (.int kk 0)) none (by rw [hel]; exact hu)]
  simp [Instr.slice, run_underlying hu, Hb true hbd, sizeOf, typeInfo, hi0]
 have hcp0 := hcp
 unfold cpR at hcp0
 rw [if_neg (Nat.not_lt_of_le g1)] at hcp0
 obtain ⟨b, s, vs, hb', hv, hk⟩ := hR.row _ _ hl
 obtain ⟨_, _, tt, rest, c, hc, _, hlen, _⟩ := hk
 rw [hcp0] at hc
 cases hc
 have hle : k.toNat ≤ c' := by
  have e1 := Bn hv
  simp only at e1
  rw [List.length_append] at hlen
  have : k.toNat * i.size ≤ c' * i.size := by omega
  exact Nat.le_of_mul_le_mul_right this g3
 have hbd : bdsV len c' none (some (.int kk k)) none = some (0, k.toNat, c') := by
  have hk2 : 0 ≤ k ∧ k ≤ (c' : Int) := ⟨g4, by omega⟩
  simp [bdsV, bdV, hk2]
 have hel : P.elem t = e := by simp [Program.elem, hu]
 refine ⟨_, B5 hb hcp hnn (.inr hle), ?_⟩
 rw [run_sliceAt_slice w t _ none (some (.int kk k)) none (by rw [hel]; exact hu)]
 simp [Instr.slice, run_underlying hu, Hb true hbd, sizeOf, typeInfo, hi0]
 intro _
 exact C3 _ _ _
def pickV (t : Bool) (a b : Value) : Value :=
 match a, b with
 | .bool x, .bool y => .bool (bif t then x else y)
 | .int k x, .int k' y => bif decide (k = k') then .int k (bif t then x else y) else bif t then .int k x else .int k' y
 | a, b => bif t then a else b
theorem pickV_eq (t : Bool) (a b : Value) : pickV t a b = if t then a else b := by
 unfold pickV
 split
 ·cases t <;> rfl
 ·rename_i k x k' y
  by_cases h : k = k'
  ·subst h; cases t <;> simp
  ·cases t <;> simp [h]
 ·cases t <;> rfl
def nilV : Value → Option Value
 | .pointer (some a) => some (.pointer (some a))
 | _ => none
def faV (P : Program) (s : TypeId) (f : Nat) : Value → Option Value
 | .pointer (some ⟨n, o, none⟩) => match P.underlying s with
  | some (.struct fs) => match fs[f]? with
   | some fd => match P.info? fd.type with
    | some i => bif Nat.beq i.size 0 then none else some (.pointer (some ⟨n, o + fd.offset, none⟩))
    | none => none
   | none => none
  | _ => none
 | _ => none
def fieldV (P : Program) (s : TypeId) (f : Nat) : Value → Option Value
 | .agg cs => match P.underlying s with
  | some (.struct fs) => match fs[f]? with
   | some fd => Hy P fd.type cs.toList fd.offset
   | none => none
  | _ => none
 | _ => none
def iaV (P : Program) (t : TypeId) (x ix : Value) : Option Value :=
 match P.underlying t, x, ix with
 | some (.slice e), .slice (some ⟨n, o, none⟩) len _, .int _ i => match ixV i len, P.info? e with
  | some m, some ie => some (.pointer (some ⟨n, o + m * ie.size, none⟩))
  | _, _ => none
 | some (.array k e), .pointer (some ⟨n, o, none⟩), .int _ i => match ixV i k, P.info? e with
  | some m, some ie => some (.pointer (some ⟨n, o + m * ie.size, none⟩))
  | _, _ => none
 | _, _, _ => none
def indexV (P : Program) (t : TypeId) (x ix : Value) : Option Value :=
 match P.underlying t, x, ix with
 | some (.array k e), .agg cs, .int _ i => match ixV i k, P.info? e with
  | some m, some ie => Hy P e cs.toList (m * ie.size)
  | _, _ => none
 | some .string, .string s, .int _ i => bif decide (0 ≤ i) then (match s.data.toList[i.toNat]? with
  | some b => some (.int .u8 b.toNat)
  | none => none) else none
 | _, _, _ => none
def exV (i : Nat) : Value → Option Value
 | .tuple vs => vs.toList[i]?
 | _ => none
def s2aV (P : Program) (t : TypeId) : Value → Option Value
 | .slice (some a) len _ => match P.underlying t with
  | some (.array n _) => bif Nat.ble n len && Nat.blt 0 n then some (.pointer (some a)) else none
  | _ => none
 | _ => none
def lenV (P : Program) (t : TypeId) (x : Value) : Option Value :=
 match P.underlying t, x with
 | some .string, .string s => some (.int .i64 (s.data.toList.length : Int))
 | some (.array n _), _ => some (.int .i64 (n : Int))
 | some (.slice _), .slice _ n _ => some (.int .i64 (n : Int))
 | some (.pointer arr), _ => match P.underlying arr with
  | some (.array n _) => some (.int .i64 (n : Int))
  | _ => none
 | _, _ => none
def capV (P : Program) (t : TypeId) (x : Value) : Option Value :=
 match P.underlying t, x with
 | some (.array n _), _ => some (.int .i64 (n : Int))
 | some (.slice _), .slice none _ n => some (.int .i64 (n : Int))
 | some (.slice _), .slice (some _) _ n => bif Nat.blt n B0 then some (.int .i64 (n : Int)) else none
 | _, _ => none
def biV (P : Program) (b : Builtin) (ts : Array TypeId) (args : List Value) : Option Value :=
 match b, args with
 | .len, [x] => match ts[0]? with | some t => lenV P t x | none => none
 | .cap, [x] => match ts[0]? with | some t => capV P t x | none => none
 | .min, [.int k x, .int _ y] => some (.int k (if y < x then y else x))
 | .max, [.int k x, .int _ y] => some (.int k (if y > x then y else x))
 | _, _ => none
def Df (P : Program) (ev : Operand → Option Value) (h : Hp) : Op → Option Value
 | .move x => ev x
 | .assign x => ev x
 | .pick c a b => match ev c with
  | some (.bool t) => match ev a, ev b with | some va, some vb => some (pickV t va vb) | _, _ => none
  | _ => none
 | .load t x => match ev x with
  | some (.pointer (some ⟨n, o, none⟩)) => match lk h n with | some r => Is P t r.cs o | none => none
  | _ => none
 | .nilCheck x => match ev x with | some v => nilV v | none => none
 | .binOp op t x y _ => match ev x, ev y with | some a, some b => binV P op t a b | _, _ => none
 | .unOp op _ x => match ev x with | some a => unV op a | none => none
 | .convert s d x => match ev x with | some a => cvV P h s d a | none => none
 | .slice t x lo hi mx => match ev x, evO ev lo, evO ev hi, evO ev mx with
  | some v, some l, some u, some m => (match slV P t v l u m with | some r => some r | none => slRV P h t v l u m)
  | _, _, _, _ => none
 | .fieldAddr s x f => match ev x with | some v => faV P s f v | none => none
 | .field s x f => match ev x with | some v => fieldV P s f v | none => none
 | .indexAddr t x i => match ev x, ev i with | some v, some u => iaV P t v u | _, _ => none
 | .index t x i => match ev x, ev i with | some v, some u => indexV P t v u | _, _ => none
 | .extract x i => match ev x with | some v => exV i v | none => none
 | .build t parts => match evP ev parts.toList with
  | some ps => match bld P t ps with | some cs => frc cs fun cs => some (.agg ⟨cs⟩) | none => none
  | none => none
 | .makeFunc fn fs cs => bif fnB fn then (match evL ev fs.toList, evL ev cs.toList with | some a, some b => some (.func fn ⟨a⟩ ⟨b⟩) | _, _ => none) else none
 | .sliceToArrayPointer t x => match ev x with | some v => s2aV P t v | none => none
 | .call c => match c.callee with
  | .builtin b => match evL ev c.args.toList with | some vs => biV P b c.argTypes vs | none => none
  | _ => none
 | _ => none

section
variable {P : Program} {W : World} {σ : Sg} {h : Hp} {w : World} {ev : Operand → Option Value} {a : Act}
theorem Il (H : Evs σ ev a) {x : Option Operand} {r : Option Value} (h : evO ev x = some r) : (∀ v, r = some v → ∃ v', x.map a.eval = some v' ∧ renV σ v = some v') ∧ (r = none → x.map a.eval = none) := by
 cases x with
 | none => simp only [evO, oI] at h; subst h; simp
 | some x =>
  simp only [evO] at h
  split at h
  ·rename_i v hv; cases h; exact ⟨fun u e => ⟨a.eval x, rfl, by cases e; exact H x _ hv⟩, fun e => by cases e⟩
  ·cases h
theorem nilV_ok {x x' v : Value} (h : nilV x = some v) (hx : renV σ x = some x') : renV σ v = some x' ∧ ∃ b, x' = .pointer (some b) := by
 unfold nilV at h
 split at h
 ·cases h; exact ⟨hx, Dk hx⟩
 ·cases h
theorem faV_ok {s : TypeId} {f : Nat} {x x' v : Value} (h : faV P s f x = some v) (hx : renV σ x = some x') : ∃ v', renV σ v = some v' ∧ (Instr.fieldAt s x' f).run P w = .ok v' w := by
 unfold faV at h
 split at h
 ·rename_i n o
  obtain ⟨p, hb, rfl, hnn⟩ := E4 hx
  split at h
  ·rename_i fs hu
   split at h
   ·rename_i fd hf
    split at h
    ·rename_i i hi
     cases hz : Nat.beq i.size 0 with
     | true => rw [hz] at h; cases h
     | false =>
      rw [hz] at h
      cases h
      have hz' : i.size ≠ 0 := fun e => by rw [e] at hz; cases hz
      refine ⟨_, Da hb hnn, ?_⟩
      simp [Instr.fieldAt, run_underlying hu, hf, Instr.sureAddr, fieldPlace, sizeOf, typeInfo, hi, hz', C3, Nat.add_assoc]
    ·cases h
   ·cases h
  ·cases h
 ·cases h
theorem fieldV_ok {s : TypeId} {f : Nat} {x x' v : Value} (h : fieldV P s f x = some v) (hx : renV σ x = some x') : ∃ v', renV σ v = some v' ∧ (Instr.field s x' f).run P w = .ok v' w := by
 unfold fieldV at h
 split at h
 ·obtain ⟨c', rfl, hc⟩ := Cq hx
  split at h
  ·rename_i fs hu
   split at h
   ·rename_i fd hf
    obtain ⟨v', h1, h2⟩ := Hx (P := P) (w := w) hc h
    refine ⟨v', h1, ?_⟩
    simpa [Instr.field, run_underlying hu, hf, asAgg] using h2
   ·cases h
  ·cases h
 ·cases h
theorem iaV_ok {t : TypeId} {x ix x' i' v : Value} (h : iaV P t x ix = some v) (hx : renV σ x = some x') (hi : renV σ ix = some i') : ∃ v', renV σ v = some v' ∧ (Instr.indexAt t x' i').run P w = .ok v' w := by
 unfold iaV at h
 split at h
 ·rename_i e n o len c k i hu
  simp only [renV, oI] at hi
  subst hi
  split at h
  ·rename_i m ie hm hie
   cases h
   obtain ⟨h1, h2, rfl⟩ := ixV_ok hm
   rcases B7 hx with ⟨p, c', hb, _, rfl, hnn⟩ | ⟨hnn, hl0, _, rfl⟩
   case inr => exfalso; omega
   refine ⟨_, Da hb hnn, ?_⟩
   simp [Instr.indexAt, run_underlying hu, asIntOf, h1, h2, sizeOf, typeInfo, hie, C3, Nat.add_assoc]
  ·cases h
 ·rename_i l e n o k i hu
  simp only [renV, oI] at hi
  subst hi
  split at h
  ·rename_i m ie hm hie
   cases h
   obtain ⟨h1, h2, rfl⟩ := ixV_ok hm
   obtain ⟨p, hb, rfl, hnn⟩ := E4 hx
   refine ⟨_, Da hb hnn, ?_⟩
   simp [Instr.indexAt, run_underlying hu, asIntOf, Instr.sureAddr, h1, h2, sizeOf, typeInfo, hie, C3, Nat.add_assoc]
  ·cases h
 ·cases h
theorem indexV_ok {t : TypeId} {x ix x' i' v : Value} (h : indexV P t x ix = some v) (hx : renV σ x = some x') (hi : renV σ ix = some i') : ∃ v', renV σ v = some v' ∧ (Instr.index t x' i').run P w = .ok v' w := by
 unfold indexV at h
 split at h
 ·rename_i l e cs k i hu
  simp only [renV, oI] at hi
  subst hi
  split at h
  ·rename_i m ie hm hie
   obtain ⟨h1, h2, rfl⟩ := ixV_ok hm
   obtain ⟨c', rfl, hc⟩ := Cq hx
   obtain ⟨v', h3, h4⟩ := Hx (P := P) (w := w) hc h
   refine ⟨v', h3, ?_⟩
   simpa [Instr.index, run_underlying hu, asIntOf, h1, h2, sizeOf, typeInfo, hie] using h4
  ·cases h
 ·rename_i s k i hu
  simp only [renV, oI] at hi hx
  subst hi; subst hx
  by_cases h0 : 0 ≤ i
  ·simp only [h0, decide_true, cond_true] at h
   split at h
   ·rename_i b hb
    cases h
    refine ⟨_, rfl, ?_⟩
    have hb2 : s[i.toNat]? = some b := by
     have hlt := (List.getElem?_eq_some_iff.1 hb).1
     have hlt' : i.toNat < s.size := by simpa using hlt
     rw [getElem?_pos s i.toNat hlt']
     have := (List.getElem?_eq_some_iff.1 hb).2
     simp only [Array.getElem_toList] at this
     rw [← this]; rfl
    simp [Instr.index, run_underlying hu, asIntOf, h0, hb2]
   ·cases h
  ·simp only [h0, decide_false, cond_false] at h; cases h
 ·cases h
theorem exV_ok {i : Nat} {x x' v : Value} (h : exV i x = some v) (hx : renV σ x = some x') : ∃ v', renV σ v = some v' ∧ (Instr.extract x' i).run P w = .ok v' w := by
 unfold exV at h
 split at h
 ·obtain ⟨c', rfl, hc⟩ := Ic hx
  obtain ⟨v', h1, h2⟩ := Hw hc i v h
  refine ⟨v', h2, ?_⟩
  simp only [Array.getElem?_toList] at h1
  simp [Instr.extract, h1]
 ·cases h
theorem s2aV_ok {t : TypeId} {x x' v : Value} (h : s2aV P t x = some v) (hx : renV σ x = some x') : ∃ v', renV σ v = some v' ∧ (Instr.arrayAt t x').run P w = .ok v' w := by
 unfold s2aV at h
 split at h
 ·rename_i ad len c
  split at h
  ·rename_i n e hu
   cases hb : (Nat.ble n len && Nat.blt 0 n) with
   | false => rw [hb] at h; cases h
   | true =>
    rw [hb] at h
    cases h
    rw [Bool.and_eq_true] at hb
    have hle := Nat.le_of_ble_eq_true hb.1
    have h0 : 0 < n := Nat.le_of_ble_eq_true hb.2
    simp only [renV, slR, ptR] at hx ⊢
    split at hx
    ·rename_i a' c' ha hc
     split at hx
     ·split at hx
      ·rename_i h1; omega
      ·cases hx
     ·rename_i hn
      rw [if_neg hn]
      split at hx
      case isFalse => cases hx
      cases hx
      refine ⟨_, by rw [ha], ?_⟩
      simp [Instr.arrayAt, run_underlying hu, Nat.not_lt.2 hle]
    ·cases hx
  ·cases h
 ·cases h
theorem lenV_ok {t ty : TypeId} {x x' v : Value} (ts : Array TypeId) (ht : ts[0]? = some t) (h : lenV P t x = some v) (hx : renV σ x = some x') : renV σ v = some v ∧ (Builtin.len_ ts ty #[x']).run P w = .ok v w := by
 unfold lenV at h
 split at h
 ·rename_i s hu
  cases h
  simp only [renV, oI] at hx
  subst hx
  refine ⟨rfl, ?_⟩
  simp [Builtin.len_, ht, run_underlying hu, goInt]
 ·rename_i n e hu
  cases h
  refine ⟨rfl, ?_⟩
  simp [Builtin.len_, ht, run_underlying hu, goInt]
 ·rename_i e ad n c hu
  cases h
  cases ad with
  | none => simp only [renV, oI] at hx; subst hx; exact ⟨rfl, by simp [Builtin.len_, ht, run_underlying hu, goInt]⟩
  | some ad => obtain ⟨b, c', rfl⟩ := Ek hx; exact ⟨rfl, by simp [Builtin.len_, ht, run_underlying hu, goInt]⟩
 ·rename_i arr hu
  split at h
  ·rename_i n e ha
   cases h
   exact ⟨rfl, by simp [Builtin.len_, ht, run_underlying hu, run_underlying ha, goInt]⟩
  ·cases h
 ·cases h
theorem capV_ok {t ty : TypeId} {x x' v : Value} (ts : Array TypeId) (ht : ts[0]? = some t) (h : capV P t x = some v) (hx : renV σ x = some x') : renV σ v = some v ∧ (Builtin.cap_ ts ty #[x']).run P w = .ok v w := by
 unfold capV at h
 split at h
 ·rename_i n e hu
  cases h
  exact ⟨rfl, by simp [Builtin.cap_, ht, run_underlying hu, goInt]⟩
 ·rename_i e l n hu
  cases h
  simp only [renV, oI] at hx
  subst hx
  exact ⟨rfl, by simp [Builtin.cap_, ht, run_underlying hu, goInt]⟩
 ·rename_i e ad l n hu
  cases hb : Nat.blt n B0 with
  | false => rw [hb] at h; cases h
  | true =>
   rw [hb] at h
   cases h
   have hlt := In hb
   simp only [renV, slR] at hx
   rw [E8 hlt (Nat.le_refl _)] at hx
   split at hx
   ·rename_i a' c' ha hc
    cases hc
    split at hx
    ·split at hx
     ·rename_i h0
      rw [h0.2]
      cases hx
      exact ⟨rfl, by simp [Builtin.cap_, ht, run_underlying hu, goInt]⟩
     ·cases hx
    ·split at hx
     ·cases hx
      exact ⟨rfl, by simp [Builtin.cap_, ht, run_underlying hu, goInt]⟩
     ·cases hx
   ·cases hx
 ·cases h
theorem biV_ok {b : Builtin} {ts : Array TypeId} {ty : TypeId} {cb : Array Bool} {args args' : List Value} {v : Value} (h : biV P b ts args = some v) (ha : renL σ args = some args') :
  renV σ v = some v ∧ (builtin b ts ty cb args'.toArray).run P w = .ok (.value v) w := by
 unfold biV at h
 split at h
 ·rename_i x
  obtain ⟨x', t', hx, ht', rfl⟩ := B9 ha
  simp only [renL, oI] at ht'
  subst ht'
  split at h
  ·rename_i t ht
   obtain ⟨h1, h2⟩ := lenV_ok (P := P) (σ := σ) (w := w) (ty := ty) ts ht h hx
   exact ⟨h1, by simp [builtin, h2]⟩
  ·cases h
 ·rename_i x
  obtain ⟨x', t', hx, ht', rfl⟩ := B9 ha
  simp only [renL, oI] at ht'
  subst ht'
  split at h
  ·rename_i t ht
   obtain ⟨h1, h2⟩ := capV_ok (P := P) (σ := σ) (w := w) (ty := ty) ts ht h hx
   exact ⟨h1, by simp [builtin, h2]⟩
  ·cases h
 ·cases h
  simp only [renL, renV, oI] at ha
  subst ha
  exact ⟨rfl, by simp [builtin, Builtin.min_, Builtin.min2]⟩
 ·cases h
  simp only [renL, renV, oI] at ha
  subst ha
  exact ⟨rfl, by simp [builtin, Builtin.max_, Builtin.max2]⟩
 ·cases h
theorem pureV_ok (hR : Rl W σ h w) (H : Evs σ ev a) {o : Oper} {v : Value} (hv : Df P ev h o.op = some v) : ∃ v', renV σ v = some v' ∧ (execOp a.eval o).run P w = .ok (.value v') w := by
 obtain ⟨dst, op, type, pos, after, guard⟩ := o
 have lift : ∀ {s : Sem Value} {v' : Value}, s.run P w = .ok v' w → (do pure (Next.value (← s)) : Sem Next).run P w = .ok (.value v') w := fun e => by simp [e]
 cases op <;> simp only [Df] at hv <;> simp only [execOp] <;> try (cases hv; done)
 case move x => exact ⟨_, H x v hv, rfl⟩
 case assign x => exact ⟨_, H x v hv, rfl⟩
 case pick c x y =>
  split at hv
  ·rename_i t hc
   split at hv
   ·rename_i va vb hx hy
    cases hv
    rw [pickV_eq]
    have hc' := H c _ hc
    simp only [renV, oI] at hc'
    refine ⟨if t then a.eval x else a.eval y, ?_, ?_⟩
    ·cases t
     ·exact H y _ hy
     ·exact H x _ hx
    ·rw [← hc']; simp [asBool]
   ·cases hv
  ·cases hv
 case load t x =>
  split at hv
  ·rename_i n o hx
   split at hv
   ·rename_i r hr
    have hx' := H x _ hx
    obtain ⟨p, hb, hp, hnn⟩ := E4 hx'
    obtain ⟨p', vs, hb', h2, h3⟩ := hR.cell hr
    rw [hb] at hb'
    cases hb'
    obtain ⟨v', h4, h5⟩ := loadV_ok (P := P) h2 h3 hv
    refine ⟨v', h4, ?_⟩
    rw [hp]
    refine lift ?_
    simpa [Instr.loadAt, Instr.sureAddr] using h5
   ·cases hv
  ·cases hv
 case nilCheck x =>
  split at hv
  ·rename_i u hx
   obtain ⟨h1, b, hb⟩ := nilV_ok hv (H x _ hx)
   refine ⟨_, h1, ?_⟩
   rw [hb]; rfl
  ·cases hv
 case binOp op t x y yt =>
  split at hv
  ·rename_i u1 u2 hx hy
   obtain ⟨v', h1, h2⟩ := binV_ok (P := P) (w := w) (ox := x) (oy := y) hv (H x _ hx) (H y _ hy)
   exact ⟨v', h1, lift h2⟩
  ·cases hv
 case unOp op t x =>
  split at hv
  ·rename_i u hx
   obtain ⟨v', h1, h2⟩ := unV_ok (P := P) (w := w) hv (H x _ hx)
   exact ⟨v', h1, lift h2⟩
  ·cases hv
 case convert s d x =>
  split at hv
  ·rename_i u hx
   obtain ⟨v', h1, h2⟩ := cvV_ok hR hv (H x _ hx)
   exact ⟨v', h1, lift h2⟩
  ·cases hv
 case slice t x lo hi mx =>
  split at hv
  ·rename_i u l z m hx hl hz hm
   have ol := Il H hl
   have oz := Il H hz
   have om := Il H hm
   split at hv
   ·rename_i r hr
    cases hv
    obtain ⟨v', h1, h2⟩ := slV_ok (P := P) (w := w) hr (H x _ hx) ol.1 ol.2 oz.1 oz.2 om.1 om.2
    exact ⟨v', h1, lift h2⟩
   ·obtain ⟨v', h1, h2⟩ := slRV_ok (P := P) hR hv (H x _ hx) ol.2 oz.1 om.2
    exact ⟨v', h1, lift h2⟩
  ·cases hv
 case fieldAddr s x f =>
  split at hv
  ·rename_i u hx
   obtain ⟨v', h1, h2⟩ := faV_ok (P := P) (w := w) hv (H x _ hx)
   exact ⟨v', h1, lift h2⟩
  ·cases hv
 case field s x f =>
  split at hv
  ·rename_i u hx
   obtain ⟨v', h1, h2⟩ := fieldV_ok (P := P) (w := w) hv (H x _ hx)
   exact ⟨v', h1, lift h2⟩
  ·cases hv
 case indexAddr t x i =>
  split at hv
  ·rename_i u1 u2 hx hy
   obtain ⟨v', h1, h2⟩ := iaV_ok (P := P) (w := w) hv (H x _ hx) (H i _ hy)
   exact ⟨v', h1, lift h2⟩
  ·cases hv
 case index t x i =>
  split at hv
  ·rename_i u1 u2 hx hy
   obtain ⟨v', h1, h2⟩ := indexV_ok (P := P) (w := w) hv (H x _ hx) (H i _ hy)
   exact ⟨v', h1, lift h2⟩
  ·cases hv
 case extract x i =>
  split at hv
  ·rename_i u hx
   obtain ⟨v', h1, h2⟩ := exV_ok (P := P) (w := w) hv (H x _ hx)
   exact ⟨v', h1, lift h2⟩
  ·cases hv
 case build t parts =>
  split at hv
  ·rename_i ps hp
   split at hv
   ·rename_i cs hcs
    rw [Cz] at hv
    cases hv
    obtain ⟨vs, h1, h2⟩ := bld_ok (P := P) (evP_ok H hp) hcs
    refine ⟨.agg ⟨vs⟩, Ct h1, lift ?_⟩
    refine run_build w t _ _ ?_
    simpa using h2
   ·cases hv
  ·cases hv
 case makeFunc fn fs cs =>
  cases hf : fnB fn with
  | false => rw [hf] at hv; cases hv
  | true =>
   rw [hf] at hv
   simp only [cond_true] at hv
   split at hv
   ·rename_i x y hx hy
    cases hv
    refine ⟨.func fn ⟨fs.toList.map a.eval⟩ ⟨cs.toList.map a.eval⟩, ?_, lift ?_⟩
    ·have e1 : renA σ ⟨x⟩ = some ⟨fs.toList.map a.eval⟩ := M2 (Dq H hx)
     have e2 : renA σ ⟨y⟩ = some ⟨cs.toList.map a.eval⟩ := M2 (Dq H hy)
     simp only [renV, fnB_ok hf, e1, e2]
    ·have e1 : fs.map a.eval = ⟨fs.toList.map a.eval⟩ := by apply Array.toList_inj.1; simp
     have e2 : cs.map a.eval = ⟨cs.toList.map a.eval⟩ := by apply Array.toList_inj.1; simp
     rw [e1, e2]; rfl
   ·cases hv
 case sliceToArrayPointer t x =>
  split at hv
  ·rename_i u hx
   obtain ⟨v', h1, h2⟩ := s2aV_ok (P := P) (w := w) hv (H x _ hx)
   exact ⟨v', h1, lift h2⟩
  ·cases hv
 case call c =>
  obtain ⟨callee, args, ts⟩ := c
  simp only at hv
  split at hv
  ·rename_i b
   split at hv
   ·rename_i vs hvs
    have ha := Dq H hvs
    obtain ⟨h1, h2⟩ := biV_ok (P := P) (w := w) (ty := type) (cb := args.map fun | .const _ => true | _ => false) hv ha
    refine ⟨v, h1, ?_⟩
    have e1 : args.map a.eval = (args.toList.map a.eval).toArray := by apply Array.toList_inj.1; simp
    simp only [resolve, Sem.run_bind, Sem.run_pure, Result.andThen_ok, invoke, e1]
    exact h2
   ·cases hv
  ·cases hv
end
theorem Cd : ∀ (us : List Value) (w : World) (b j : Nat) (cs : Array Value) (t : TypeId), w.heap[b]? = some (.cells cs t (0, 0)) → (w.setCells b j us).heap[b]? = some (.cells (Bg cs.toList j us).toArray t (0, 0))
 | [], w, b, j, cs, t, h => by simpa [World.setCells, Bg] using h
 | u :: us, w, b, j, cs, t, h => by
   have h1 : (w.setCell ⟨b, j, none⟩ u).heap[b]? = some (.cells (cs.setIfInBounds j u) t (0, 0)) := by rw [heap_setCell_same w b j cs t u h]
   have := Cd us (w.setCell ⟨b, j, none⟩ u) b (j + 1) _ t h1
   simpa [World.setCells, Bg] using this
theorem Bu : ∀ (us : List Value) (w : World) (b j k : Nat), k ≠ b → (w.setCells b j us).heap[k]? = w.heap[k]?
 | [], w, b, j, k, h => rfl
 | u :: us, w, b, j, k, h => by
   have := Bu us (w.setCell ⟨b, j, none⟩ u) b (j + 1) k h
   simp only [World.setCells]
   rw [this, heap_setCell_other w ⟨b, j, none⟩ k u h]
theorem Cc : ∀ (us : List Value) (w : World) (b j : Nat), (w.setCells b j us).heap.size = w.heap.size
 | [], w, b, j => rfl
 | u :: us, w, b, j => by simp only [World.setCells]; rw [Cc us]; simp
theorem splice_app : ∀ (us vs rest : List Value) (j : Nat), j + us.length ≤ vs.length → Bg (vs ++ rest) j us = Bg vs j us ++ rest
 | [], _, _, _, _ => rfl
 | u :: us, vs, rest, j, h => by
   simp only [List.length_cons] at h
   simp only [Bg]
   rw [List.set_append_left _ _ (by omega)]
   exact splice_app us (vs.set j u) rest (j + 1) (by simp; omega)

section
variable {P : Program} {W : World} {σ : Sg} {h : Hp} {w : World}
theorem J0 {σ : Sg} {n : Nat} {r s0 : Rw} (hS : Shr σ h w) (hl : lk h n = some r) (ho : r.own) : Up σ h σ (setH h n s0) := hS.sub fun m s hm => by
 rw [Bo] at hm
 split at hm
 ·rename_i e; subst e; exact ⟨r, hl, fun _ => ho⟩
 ·exact ⟨s, hm, fun h => h⟩
theorem Stp.put (hR : Rl W σ h w) (lo : Nat) {n : Nat} {r : Rw} {p : Nat × Nat} (hl : lk h n = some r) (hwr : r.wr) (hb : σ.b n = some p) {j : Nat} {xs us : List Value} (hx : renL σ xs = some us) (hle : j + xs.length ≤ r.cs.length) :
  Stp W lo lo σ h w σ (setH h n ⟨r.kd, Bg r.cs j xs⟩) (w.setCells p.1 j us) := by
 have ho := hwr.own
 have hge := hR.ge hl ho hb
 have hxl := Bn hx
 have hother : ∀ m s q, lk h m = some s → s.own → σ.b m = some q → m ≠ n → (w.setCells p.1 j us).heap[q.1]? = w.heap[q.1]? := fun m s q hm hs hq hmn =>
  Bu us w p.1 j q.1 fun e => hmn (hR.inj m n s r q p hm hl hs ho hq hb e)
 have hkeep : ∀ m s, lk h m = some s → m ≠ n → RowOk W σ (w.setCells p.1 j us) m s := fun m s hm hne => hR.keepW hl ho hb hm hne (Sg.le.refl σ) fun b hb' => Bu us w p.1 j b hb'
 refine Stp0.up ⟨Sg.le.refl σ, fun _ _ => ⟨rfl, rfl⟩, ⟨Cl us hR.ext hge.1 j, fun m s hm => ?_, fun m m' s s' q q' hm hm' hs hs' hq hq' e => ?_⟩, by rw [Cc]; exact Nat.le_refl _, fun b hbl hno _ => Bu us w p.1 j b (fun e => hno n r p hl ho hb e.symm), fun m s q hm hs hq => ?_⟩ hR.shr hR.wf (J0 hR.shr hl ho)
 ·rw [Bo] at hm
  split at hm
  ·rename_i e; subst e
   cases hm
   obtain ⟨b, s, vs, hb', hv, hk⟩ := hR.row _ _ hl
   rw [hb] at hb'
   obtain rfl : p = (b, s) := by simpa using hb'
   have hvl := Bn hv
   refine ⟨b, s, Bg vs j us, hb, J3 j hx hv, ?_⟩
   obtain ⟨kd, cs⟩ := r
   cases kd with
   | old => cases hwr
   | sd ds => cases hwr
   | dp sz zz ds => cases hwr
   | df sz zz ds => cases hwr
   | dw sz zz ds => cases hwr
   | of => cases hwr
   | ow => cases hwr
   | ox => cases hwr
   | dx d2 size2 zz2 ds => cases hwr
   | sw ds => cases hwr
   | lent => cases hwr
   | held m => cases hwr
   | round st pe tm ps as bd => cases hwr
   | marks => cases hwr
   | mp es => cases hwr
   | shut =>
    obtain ⟨h1, h2, t, e⟩ := hk
    refine ⟨h1, h2, t, ?_⟩
    have := Cd us w b j _ t e
    simpa using this
   | room sz zz =>
    obtain ⟨h1, h2, t, rest, c, hc, e, h3, h4⟩ := hk
    refine ⟨h1, h2, t, rest, c, hc, ?_, ?_, h4⟩
    ·have := Cd us w b j _ t e
     simp only at this
     rw [splice_app us vs rest j (by simp only at hle hvl; omega)] at this
     exact this
    ·rw [List.length_append, Dj, ← List.length_append]; exact h3
  ·rename_i hne
   exact hkeep m s hm (Ne.symm hne)
 ·have conv : ∀ m s, lk (setH h n ⟨r.kd, Bg r.cs j xs⟩) m = some s → s.own → ∃ s', lk h m = some s' ∧ s'.own := fun m s hm hs => by
   rw [Bo] at hm
   split at hm
   ·rename_i e; subst e; exact ⟨r, hl, ho⟩
   ·exact ⟨s, hm, hs⟩
  obtain ⟨s1, a1, a2⟩ := conv m s hm hs
  obtain ⟨s2, b1, b2⟩ := conv m' s' hm' hs'
  exact hR.inj m m' s1 s2 q q' a1 b1 a2 b2 hq hq' e
 ·rw [Bo] at hm
  split at hm
  ·rename_i e; subst e; exact .inr ⟨_, r, q, hl, ho, hq, rfl⟩
  ·exact .inr ⟨m, s, q, hm, hs, hq, rfl⟩
theorem Rl.put_cells (hR : Rl W σ h w) {n : Nat} {r : Rw} {p : Nat × Nat} (hl : lk h n = some r) (ho : r.wr) (hb : σ.b n = some p) {o : Nat} {us : List Value} (h1 : ∀ u ∈ us, u.oneCell' = true) (hle : o + us.length ≤ r.cs.length) :
  (storeCells ⟨p.1, p.2 + o, none⟩ us).run P w = .ok () (w.setCells p.1 o us) := by
 have hge := hR.ge hl ho.own hb
 obtain ⟨p', vs, hb', hv, hc⟩ := hR.cell hl
 rw [hb] at hb'
 cases hb'
 have hvl := Bn hv
 have := run_storeCells_cells (P := P) p.1 o us 0 w (fun k hk => by
  have hlt : o + k < vs.length := by omega
  have := hc (o + k) _ (List.getElem?_eq_getElem hlt)
  rw [hge.2, Nat.zero_add] at this
  rw [Nat.add_zero, this]; rfl) (fun k hk => hR.free hl ho hb _) h1
 rw [hge.2, Nat.zero_add]
 simpa using this
end
@[irreducible] def Stop (p : Prop) : Prop := p
theorem madeCells_one (z : Value) (n : Nat) : (madeCells #[z] n).toList = List.replicate n z := by
 apply List.ext_getElem
 ·simp [madeCells]
 ·intro i h1 h2
  simp only [madeCells, Array.getElem_toList, Array.getElem_map, Array.getElem_range, List.getElem_replicate, List.size_toArray, List.length_cons, List.length_nil, Nat.zero_add, Nat.mod_one]
  rfl
theorem splice_head (xs cs : List Value) (h : xs.length ≤ cs.length) : Bg cs 0 xs = xs ++ cs.drop xs.length := by
 simpa using D7 xs [] cs h

section
variable {P : Program} {o : Oper} {a : Act} {W w : World} {K : Act → World → Prop} {Q : Exit → Act → World → Prop} {L : Ce}
end
section
variable {P : Program} {d : Option Tmp} {ty : TypeId} {pos : String} {af : Array Edge} {g : Option (Nat × Bool)} {a : Act} {w : World} {K : Act → World → Prop} {Q : Exit → Act → World → Prop}
end
end Go.Proofs.Ytojakfnljopjbaa
