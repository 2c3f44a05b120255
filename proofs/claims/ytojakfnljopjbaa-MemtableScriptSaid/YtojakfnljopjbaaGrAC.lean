/-
  The machine that runs in the kernel, part B: operations that yield a value and leave memory as it is.
-/
import Derived.Test.YtojakfnljopjbaaGrAB
import Derived.Laws.StructEq
import Derived.Laws.Tables
import Derived.Laws.Slices
import Derived.WalkLawsBesides
import Derived.Laws.BytesString
import Derived.Laws.IdiomStrings
import Derived.WalkSpells
import Derived.ChangeKeysEq
namespace Go.Proofs.Ytojakfnljopjbaa
set_option linter.unusedSimpArgs false
set_option linter.unusedVariables false
set_option linter.unusedSectionVars false
open Go Go.RowKit

def frc {α β : Type} : List α → (List α → β) → β
 | [], k => k []
 | a :: l, k => frc l fun l' => k (a :: l')
theorem Cz {α β : Type} : ∀ (l : List α) (k : List α → β), frc l k = k l
 | [], _ => rfl
 | a :: l, k => by simp only [frc]; rw [Cz l]
def noAd : Value → Bool
 | .bool _ | .int _ _ | .float _ _ | .complex _ _ _ | .string _ | .pointer none | .slice none _ _ | .map none | .chan none | .nilFunc | .nilIface => true
 | _ => false
theorem Cs (σ : Sg) : ∀ {v : Value}, noAd v = true → renV σ v = some v := by
 intro v h
 cases v <;> first | rfl | (simp [noAd] at h; done) | (rename_i x; cases x <;> first | rfl | (simp [noAd] at h; done)) | (rename_i x _ _; cases x <;> first | rfl | (simp [noAd] at h; done))
def D5 : List Value → Bool
 | [] => true
 | v :: vs => bif noAd v then D5 vs else false
theorem Cj (σ : Sg) : ∀ {l : List Value}, D5 l = true → renL σ l = some l
 | [], _ => rfl
 | v :: vs, h => by
   simp only [D5] at h
   cases hv : noAd v with
   | false => rw [hv] at h; cases h
   | true => rw [hv] at h; exact Bi (Cs σ hv) (Cj σ h)

inductive Tr where
 | e
 | n (v : Option Value) (l r : Tr)
def trG : Tr → Nat → Option Value
 | .e, _ => none
 | .n v l r, k => bif Nat.beq k 0 then v else bif Nat.beq (k % 2) 1 then trG l (k / 2) else trG r (k / 2 - 1)
def trS : Nat → Tr → Nat → Value → Tr
 | 0, t, _, _ => t
 | f + 1, .e, k, v => bif Nat.beq k 0 then .n (some v) .e .e else bif Nat.beq (k % 2) 1 then .n none (trS f .e (k / 2) v) .e else .n none .e (trS f .e (k / 2 - 1) v)
 | f + 1, .n u l r, k, v => bif Nat.beq k 0 then .n (some v) l r else bif Nat.beq (k % 2) 1 then .n u (trS f l (k / 2) v) r else .n u l (trS f r (k / 2 - 1) v)
theorem nbeq_eq {a b : Nat} (h : a = b) : Nat.beq a b = true := by subst h; simp
theorem trG_n (v : Option Value) (l r : Tr) (k : Nat) : trG (.n v l r) k = if k = 0 then v else if k % 2 = 1 then trG l (k / 2) else trG r (k / 2 - 1) := by
 simp only [trG]
 by_cases h0 : k = 0
 ·subst h0; simp
 ·rw [Ca h0, if_neg h0]
  by_cases h1 : k % 2 = 1
  ·rw [nbeq_eq h1, if_pos h1]; rfl
  ·rw [Ca h1, if_neg h1]; rfl
theorem trG_e (k : Nat) : trG .e k = none := rfl
theorem trS_s (f : Nat) (t : Tr) (k : Nat) (v : Value) : trS (f + 1) t k v = match t with
  | .e => if k = 0 then .n (some v) .e .e else if k % 2 = 1 then .n none (trS f .e (k / 2) v) .e else .n none .e (trS f .e (k / 2 - 1) v)
  | .n u l r => if k = 0 then .n (some v) l r else if k % 2 = 1 then .n u (trS f l (k / 2) v) r else .n u l (trS f r (k / 2 - 1) v) := by
 by_cases h0 : k = 0
 ·subst h0; cases t <;> simp [trS]
 ·by_cases h1 : k % 2 = 1
  ·cases t <;> simp only [trS, Ca h0, nbeq_eq h1, cond_false, cond_true, if_neg h0, if_pos h1]
  ·cases t <;> simp only [trS, Ca h0, Ca h1, cond_false, if_neg h0, if_neg h1]
theorem trG_S (v : Value) : ∀ (f : Nat) (t : Tr) (k j : Nat), k + 1 < 2 ^ f → trG (trS f t k v) j = if k = j then some v else trG t j
 | 0, t, k, j, h => by simp at h
 | f + 1, t, k, j, h => by
   rw [trS_s]
   have hp : 2 ^ (f + 1) = 2 * 2 ^ f := by rw [Nat.pow_succ]; omega
   by_cases h0 : k = 0
   ·subst h0
    cases t with
    | e =>
     simp only [if_true, trG_n, trG_e]
     by_cases hj : j = 0
     ·subst hj; simp
     ·rw [if_neg hj, if_neg (Ne.symm hj)]; split <;> rfl
    | n u l r =>
     simp only [if_true, trG_n]
     by_cases hj : j = 0
     ·subst hj; simp
     ·rw [if_neg hj, if_neg (Ne.symm hj), if_neg hj]
   ·by_cases h1 : k % 2 = 1
    ·have ih := fun t j => trG_S v f t (k / 2) j (by omega)
     cases t with
     | e =>
      simp only [h0, h1, if_false, if_true, trG_n, trG_e, ih]
      by_cases hj : j = 0
      ·subst hj; rw [if_pos rfl, if_neg h0]
      ·rw [if_neg hj]
       by_cases hj1 : j % 2 = 1
       ·rw [if_pos hj1]
        by_cases e : k = j
        ·subst e; simp
        ·rw [if_neg e, if_neg (by omega)]
       ·rw [if_neg hj1, if_neg (by intro e; subst e; exact hj1 h1)]
     | n u l r =>
      simp only [h0, h1, if_false, if_true, trG_n, ih]
      by_cases hj : j = 0
      ·subst hj; rw [if_pos rfl, if_neg h0, if_pos rfl]
      ·rw [if_neg hj, if_neg hj]
       by_cases hj1 : j % 2 = 1
       ·rw [if_pos hj1, if_pos hj1]
        by_cases e : k = j
        ·subst e; simp
        ·rw [if_neg e, if_neg (by omega)]
       ·rw [if_neg hj1, if_neg hj1, if_neg (by intro e; subst e; exact hj1 h1)]
    ·have ih := fun t j => trG_S v f t (k / 2 - 1) j (by omega)
     cases t with
     | e =>
      simp only [h0, h1, if_false, trG_n, trG_e, ih]
      by_cases hj : j = 0
      ·subst hj; rw [if_pos rfl, if_neg h0]
      ·rw [if_neg hj]
       by_cases hj1 : j % 2 = 1
       ·rw [if_pos hj1, if_neg (by intro e; subst e; exact h1 hj1)]
       ·rw [if_neg hj1]
        by_cases e : k = j
        ·subst e; simp
        ·rw [if_neg e, if_neg (by omega)]
     | n u l r =>
      simp only [h0, h1, if_false, trG_n, ih]
      by_cases hj : j = 0
      ·subst hj; rw [if_pos rfl, if_neg h0, if_pos rfl]
      ·rw [if_neg hj, if_neg hj]
       by_cases hj1 : j % 2 = 1
       ·rw [if_pos hj1, if_pos hj1, if_neg (by intro e; subst e; exact h1 hj1)]
       ·rw [if_neg hj1, if_neg hj1]
        by_cases e : k = j
        ·subst e; simp
        ·rw [if_neg e, if_neg (by omega)]
structure Tm where
 n : Nat
 t : Tr
def tg (ts : Tm) (k : Nat) : Option Value := trG ts.t k
def tput (ts : Tm) (k : Nat) (v : Value) : Tm := bif Nat.blt k ts.n then ⟨ts.n, trS 16 ts.t k v⟩ else ts
theorem tput_n (ts : Tm) (k : Nat) (v : Value) : (tput ts k v).n = ts.n := by unfold tput; cases Nat.blt k ts.n <;> rfl
theorem tg_put {ts : Tm} (hb : ts.n ≤ 60000) (k : Nat) (v : Value) (j : Nat) : tg (tput ts k v) j = if k = j ∧ k < ts.n then some v else tg ts j := by
 unfold tput
 by_cases hk : k < ts.n
 ·have e : Nat.blt k ts.n = true := Nat.ble_eq_true_of_le hk
  rw [e]
  simp only [cond_true, tg, hk, and_true]
  exact trG_S v 16 ts.t k j (by omega)
 ·have e : Nat.blt k ts.n = false := by
   cases h : Nat.blt k ts.n with
   | false => rfl
   | true => exact absurd (Nat.le_of_ble_eq_true h) hk
  rw [e]
  simp [hk]
structure RT (σ : Sg) (ts : Tm) (tmps : Array Value) : Prop where
 n : ts.n = tmps.size
 b : ts.n ≤ 60000
 s : ∀ t v, tg ts t = some v → renV σ v = some (tmps.getD t undef)
theorem RT.le {σ τ : Sg} {ts : Tm} {tmps : Array Value} (h : RT σ ts tmps) (hl : σ.le τ) : RT τ ts tmps := ⟨h.n, h.b, fun t v e => Jk hl _ _ (h.s t v e)⟩
theorem RT.put {σ : Sg} {ts : Tm} {tmps : Array Value} (h : RT σ ts tmps) (d : Nat) {v v' : Value} (hv : renV σ v = some v') : RT σ (tput ts d v) (tmps.setIfInBounds d v') := by
 refine ⟨by rw [tput_n]; simpa using h.n, by rw [tput_n]; exact h.b, fun t u e => ?_⟩
 rw [tg_put h.b] at e
 split at e
 ·rename_i hd
  cases e
  obtain ⟨rfl, hd⟩ := hd
  rw [h.n] at hd
  rw [hv]; simp [hd]
 ·rename_i hd
  rw [h.s t u e]
  by_cases hne : d = t
  ·subst hne
   have hge : tmps.size ≤ d := by
    rcases Nat.lt_or_ge d tmps.size with h1 | h1
    ·exact absurd ⟨rfl, by rw [h.n]; exact h1⟩ hd
    ·exact h1
   simp [hge]
  ·simp only [Array.getD_eq_getD_getElem?, Array.getElem?_setIfInBounds_ne hne]
def tini : List Value → Nat → Tm → Tm
 | [], _, ts => ts
 | v :: vs, k, ts => tini vs (k + 1) (tput ts k v)
theorem tini_ok {σ : Sg} : ∀ (vs us : List Value) (k : Nat) (ts : Tm) (tmps : Array Value), renL σ vs = some us → RT σ ts tmps → k + vs.length ≤ tmps.size → RT σ (tini vs k ts) ((us.zipIdx k).foldl (fun (t : Array Value) (p : Value × Nat) => t.setIfInBounds p.2 p.1) tmps)
 | [], us, k, ts, tmps, h, hr, _ => by simp [renL] at h; subst h; exact hr
 | v :: vs, us, k, ts, tmps, h, hr, hl => by
   obtain ⟨a, b, h1, h2, rfl⟩ := B9 h
   simp only [List.zipIdx_cons, List.foldl_cons]
   exact tini_ok vs b (k + 1) _ _ h2 (hr.put k h1) (by simp at hl ⊢; omega)
theorem fold_fill : ∀ (us : List Value) (pre : List Value) (m : Nat), us.length ≤ m → ((us.zipIdx pre.length).foldl (fun (t : Array Value) (p : Value × Nat) => t.setIfInBounds p.2 p.1) (pre ++ List.replicate m undef).toArray) = (pre ++ us ++ List.replicate (m - us.length) undef).toArray
 | [], pre, m, _ => by simp
 | u :: us, pre, m, h => by
   cases m with
   | zero => simp at h
   | succ m =>
    simp only [List.zipIdx_cons, List.foldl_cons]
    have e : (pre ++ List.replicate (m + 1) undef).toArray.setIfInBounds pre.length u = ((pre ++ [u]) ++ List.replicate m undef).toArray := by
     apply Array.toList_inj.1
     simp [List.replicate_succ]
    have := fold_fill us (pre ++ [u]) m (by simpa using h)
    rw [List.length_append, List.length_singleton] at this
    rw [e, this]
    simp
def trU : Nat → Tr
 | 0 => .e
 | d + 1 => .n (some undef) (trU d) (trU d)
theorem trG_U {v : Value} : ∀ (d k : Nat), trG (trU d) k = some v → v = undef
 | 0, k, h => by simp [trU, trG_e] at h
 | d + 1, k, h => by
   simp only [trU, trG_n] at h
   split at h
   ·cases h; rfl
   ·split at h
    ·exact trG_U d _ h
    ·exact trG_U d _ h
theorem ren_undef (σ : Sg) : renV σ undef = some undef := rfl
theorem rt_undef (σ : Sg) {n : Nat} (d : Nat) (hn : n ≤ 60000) : RT σ ⟨n, trU d⟩ (List.replicate n undef).toArray := ⟨by simp, hn, fun t v e => by
  have := trG_U d t e
  subst this
  rw [ren_undef, Array.getD_eq_getD_getElem?]
  cases hx : (List.replicate n undef).toArray[t]? with
  | none => rfl
  | some x =>
   simp only [List.getElem?_toArray, List.getElem?_replicate] at hx
   split at hx
   ·cases hx; rfl
   ·cases hx⟩
def tinit (args : List Value) (n : Nat) : Tm := tini args 0 ⟨n, trU 16⟩
theorem tini_full {σ : Sg} {args us : List Value} {n : Nat} (d : Nat) (h : renL σ args = some us) (hn : n ≤ 60000) (hl : args.length ≤ n) : RT σ (tini args 0 ⟨n, trU d⟩) (us.toArray ++ Array.replicate (n - us.length) undef) := by
 have hul := Bn h
 have h1 := tini_ok args us 0 ⟨n, trU d⟩ _ h (rt_undef σ d hn) (by simpa using hl)
 have h2 := fold_fill us [] n (by omega)
 simp only [List.length_nil, List.nil_append] at h2
 rw [h2] at h1
 have e : (us ++ List.replicate (n - us.length) undef).toArray = us.toArray ++ Array.replicate (n - us.length) undef := by
  apply Array.toList_inj.1; simp
 rw [← e]; exact h1
theorem tinit_ok {σ : Sg} {args us : List Value} {n : Nat} (h : renL σ args = some us) (hn : n ≤ 60000) (hl : args.length ≤ n) : RT σ (tinit args n) (us.toArray ++ Array.replicate (n - us.length) undef) := tini_full 16 h hn hl
def evA (ts : Tm) : Operand → Option Value
 | .tmp t => tg ts t
 | .const v => bif noAd v then some v else none
 | .func f => some (.func (.func f) #[] #[])
 | .global _ => none
def Evs (σ : Sg) (ev : Operand → Option Value) (a : Act) : Prop := ∀ x v, ev x = some v → renV σ v = some (a.eval x)
theorem evs_of {σ : Sg} {ts : Tm} {a : Act} (h : RT σ ts a.tmps) : Evs σ (evA ts) a := by
 intro x v hx
 cases x with
 | tmp t =>
  simp only [evA] at hx
  rw [h.s t v hx]
  simp [Act.eval]
 | const c =>
  simp only [evA] at hx
  cases hc : noAd c with
  | false => rw [hc] at hx; cases hx
  | true => rw [hc] at hx; simp only [cond_true, oI] at hx; subst hx; exact Cs σ hc
 | func f => simp only [evA, oI] at hx; subst hx; rfl
 | global g => simp [evA] at hx
def evL (ev : Operand → Option Value) : List Operand → Option (List Value)
 | [] => some []
 | x :: xs => match ev x, evL ev xs with | some v, some vs => some (v :: vs) | _, _ => none
theorem Dq {σ : Sg} {ev : Operand → Option Value} {a : Act} (H : Evs σ ev a) : ∀ {xs : List Operand} {vs : List Value}, evL ev xs = some vs → renL σ vs = some (xs.map a.eval)
 | [], vs, h => by simp [evL] at h; subst h; rfl
 | x :: xs, vs, h => by
   simp only [evL] at h
   split at h
   ·rename_i v vs' h1 h2; cases h; exact Bi (H x v h1) (Dq H h2)
   ·cases h
def evP (ev : Operand → Option Value) : List (Nat × Operand) → Option (List (Nat × Value))
 | [] => some []
 | (i, x) :: xs => match ev x, evP ev xs with | some v, some vs => some ((i, v) :: vs) | _, _ => none
def RenP (σ : Sg) : List (Nat × Value) → List (Nat × Value) → Prop
 | [], [] => True
 | (i, v) :: a, (j, u) :: b => i = j ∧ renV σ v = some u ∧ RenP σ a b
 | _, _ => False
theorem evP_ok {σ : Sg} {ev : Operand → Option Value} {a : Act} (H : Evs σ ev a) : ∀ {xs : List (Nat × Operand)} {vs : List (Nat × Value)}, evP ev xs = some vs → RenP σ vs (xs.map fun p => (p.1, a.eval p.2))
 | [], vs, h => by simp [evP] at h; subst h; trivial
 | (i, x) :: xs, vs, h => by
   simp only [evP] at h
   split at h
   ·rename_i v vs' h1 h2; cases h; exact ⟨rfl, H x v h1, evP_ok H h2⟩
   ·cases h

def fillL (place : Nat → Option (Nat × Nat)) : List Value → List (Nat × Value) → Option (List Value)
 | cells, [] => some cells
 | cells, (i, v) :: rest => match place i with
  | none => none
  | some (off, size) => bif Nat.beq v.cells.toList.length size && Nat.ble (off + size) cells.length then fillL place (Bg cells off v.cells.toList) rest else none
theorem J3 {σ : Sg} : ∀ {vs us cs ds : List Value} (j : Nat), renL σ vs = some us → renL σ cs = some ds → renL σ (Bg cs j vs) = some (Bg ds j us)
 | [], us, cs, ds, j, h, hc => by simp [renL] at h; subst h; exact hc
 | v :: vs, us, cs, ds, j, h, hc => by
   obtain ⟨a, b, h1, h2, rfl⟩ := B9 h
   exact J3 (j + 1) h2 (renL_set j hc h1)
theorem Km : ∀ (l : List Value) (k off : Nat) (cells : Array Value), ((l.zipIdx k).foldl (fun (cs : Array Value) (x : Value × Nat) => cs.setIfInBounds (off + x.2) x.1) cells).toList = Bg cells.toList (off + k) l
 | [], _, _, _ => rfl
 | v :: vs, k, off, cells => by
   simp only [List.zipIdx_cons, List.foldl_cons, Bg]
   rw [Km vs (k + 1) off]
   simp [Nat.add_assoc]
theorem fill_fold (v : Array Value) (off : Nat) (cells : Array Value) : v.zipIdx.foldl (fun (cs : Array Value) (x : Value × Nat) => cs.setIfInBounds (off + x.2) x.1) cells = (Bg cells.toList off v.toList).toArray := by
 apply Array.toList_inj.1
 rw [← Array.foldl_toList, Array.toList_zipIdx]
 have := Km v.toList 0 off cells
 simpa using this
theorem Kp {σ : Sg} (place : Nat → Option (Nat × Nat)) : ∀ {parts qs : List (Nat × Value)} {cs cs' vs : List Value}, RenP σ parts qs → renL σ cs = some vs → fillL place cs parts = some cs' → ∃ vs', renL σ cs' = some vs' ∧ Instr.fill place vs.toArray qs = some vs'.toArray
 | [], [], cs, cs', vs, _, h, hf => by simp only [fillL, oI] at hf; subst hf; exact ⟨vs, h, rfl⟩
 | [], _ :: _, _, _, _, hp, _, _ => by simp [RenP] at hp
 | (i, v) :: rest, [], _, _, _, hp, _, _ => by simp [RenP] at hp
 | (i, v) :: rest, (j, u) :: qs, cs, cs', vs, hp, h, hf => by
   obtain ⟨rfl, hv, hp⟩ := hp
   obtain ⟨hc1, _⟩ := H8 hv
   have hl1 := Bn hc1
   have hl2 := Bn h
   simp only [fillL] at hf
   simp only [Instr.fill]
   cases hpl : place i with
   | none => rw [hpl] at hf; cases hf
   | some q =>
    obtain ⟨off, size⟩ := q
    rw [hpl] at hf
    simp only at hf ⊢
    cases hg : (Nat.beq v.cells.toList.length size && Nat.ble (off + size) cs.length) with
    | false => rw [hg] at hf; cases hf
    | true =>
     rw [hg] at hf
     simp only [Bool.and_eq_true, Nat.ble_eq] at hg
     have e1 := Nat.eq_of_beq_eq_true hg.1
     simp only [Array.length_toList] at e1 hl1
     have e2 : u.cells.size = size := by rw [hl1, e1]
     have e3 : (u.cells.size ≠ size || off + u.cells.size > vs.toArray.size) = false := by
      simp [e2]; omega
     rw [fill_fold]
     simp only [e3, Bool.false_eq_true, if_false]
     exact Kp place hp (J3 off hc1 h) hf

def bld (P : Program) (t : TypeId) (parts : List (Nat × Value)) : Option (List Value) :=
 match P.info? t, P.underlying t with
 | some it, some (.array _ e) => match it.zero, P.info? e with
  | some z, some ie => bif D5 z.cells.toList then fillL (fun i => some (i * ie.size, ie.size)) z.cells.toList parts else none
  | _, _ => none
 | some it, some (.struct fields) => match it.zero, fields.toList.mapM (fun f => (P.info? f.type).map fun i => (f.offset, i.size)) with
  | some z, some places => bif D5 z.cells.toList then fillL (places.toArray[·]?) z.cells.toList parts else none
  | _, _ => none
 | _, _ => none
theorem bld_ok {P : Program} {σ : Sg} {t : TypeId} {parts qs : List (Nat × Value)} {cs : List Value} (hp : RenP σ parts qs) (h : bld P t parts = some cs) : ∃ vs, renL σ cs = some vs ∧ P.built t qs = some vs.toArray := by
 unfold bld at h
 unfold Program.built
 split at h
 ·rename_i it n e h1 h2
  split at h
  ·rename_i z ie h3 h4
   cases hz : D5 z.cells.toList with
   | false => rw [hz] at h; cases h
   | true =>
    rw [hz] at h
    obtain ⟨vs, hv, hf⟩ := Kp _ hp (Cj σ hz) h
    exact ⟨vs, hv, by simp only [h1, h2, h3, h4]; simpa using hf⟩
  ·cases h
 ·rename_i it fields h1 h2
  split at h
  ·rename_i z places h3 h4
   cases hz : D5 z.cells.toList with
   | false => rw [hz] at h; cases h
   | true =>
    rw [hz] at h
    obtain ⟨vs, hv, hf⟩ := Kp _ hp (Cj σ hz) h
    exact ⟨vs, hv, by simp only [h1, h2, h3, h4]; simpa using hf⟩
  ·cases h
 ·cases h

def Is (P : Program) (t : TypeId) (cs : List Value) (o : Nat) : Option Value :=
 match P.underlying t with
 | some d => bif d.isRow then (match P.info? t with
   | some i => frc ((cs.drop o).take i.size) fun l => bif Nat.beq l.length i.size then some (.agg ⟨l⟩) else none
   | none => none) else cs[o]?
 | none => none
theorem loadV_ok {P : Program} {σ : Sg} {t : TypeId} {cs vs : List Value} {o b s : Nat} {v : Value} {w : World} (hr : renL σ cs = some vs) (hc : ∀ j u, vs[j]? = some u → w.cell? ⟨b, s + j, none⟩ = some u) (h : Is P t cs o = some v) :
  ∃ v', renV σ v = some v' ∧ (loadVar t ⟨b, s + o, none⟩).run P w = .ok v' w := by
 unfold Is at h
 simp only [Cz] at h
 cases hu : P.underlying t with
 | none => rw [hu] at h; cases h
 | some d =>
  rw [hu] at h
  simp only at h
  cases hd : d.isRow with
  | false =>
   rw [hd] at h
   obtain ⟨v', h1, h2⟩ := Hw hr o v h
   refine ⟨v', h2, run_load1 (by unfold flatB; rw [hu]; simp [hd]) (hc o v' h1)⟩
  | true =>
   rw [hd] at h
   simp only [cond_true] at h
   cases hi : P.info? t with
   | none => rw [hi] at h; cases h
   | some i =>
    rw [hi] at h
    simp only at h
    cases hl : Nat.beq ((cs.drop o).take i.size).length i.size with
    | false => rw [hl] at h; cases h
    | true =>
     rw [hl] at h
     simp only [cond_true, oI] at h
     subst h
     have hr2 := Dw i.size (Cr o hr)
     have hl2 := Bn hr2
     have hl1 := Nat.eq_of_beq_eq_true hl
     refine ⟨.agg ⟨(vs.drop o).take i.size⟩, Ct hr2, ?_⟩
     exact run_loadVar_mid w b (s + o) t ((vs.drop o).take i.size) d (fun j u hj => by
      have hj2 : vs[o + j]? = some u := by
       rw [List.getElem?_take] at hj
       split at hj
       ·rwa [List.getElem?_drop] at hj
       ·cases hj
      rw [Nat.add_assoc]
      exact hc (o + j) u hj2) hu hd (by rw [hi]; simp only [Option.map_some]; rw [hl2, hl1])
def Hy (P : Program) (t : TypeId) (cs : List Value) (off : Nat) : Option Value :=
 match P.underlying t with
 | some d => bif d.isRow then (match P.info? t with | some i => frc ((cs.drop off).take i.size) fun l => some (.agg ⟨l⟩) | none => none) else cs[off]?
 | none => none
theorem isAgg_run {P : Program} {t : TypeId} {d : TypeDesc} (h : P.underlying t = some d) (w : World) : (isAgg t).run P w = .ok d.isRow w := by
 unfold isAgg
 rw [Sem.run_bind, run_underlying h w]
 cases d <;> simp [TypeDesc.isRow]
theorem Hx {P : Program} {σ : Sg} {t : TypeId} {cs vs : List Value} {off : Nat} {v : Value} {w : World} (hr : renL σ cs = some vs) (h : Hy P t cs off = some v) :
  ∃ v', renV σ v = some v' ∧ (part t vs.toArray off).run P w = .ok v' w := by
 unfold Hy at h
 simp only [Cz] at h
 unfold part
 cases hu : P.underlying t with
 | none => rw [hu] at h; cases h
 | some d =>
  rw [hu] at h
  simp only at h
  rw [Sem.run_bind, isAgg_run hu]
  cases hd : d.isRow with
  | false =>
   rw [hd] at h
   obtain ⟨v', h1, h2⟩ := Hw hr off v h
   refine ⟨v', h2, ?_⟩
   simp [h1]
  | true =>
   rw [hd] at h
   simp only [cond_true] at h
   cases hi : P.info? t with
   | none => rw [hi] at h; cases h
   | some i =>
    rw [hi] at h
    simp only [oI] at h
    subst h
    have hr2 := Dw i.size (Cr off hr)
    refine ⟨.agg ⟨(vs.drop off).take i.size⟩, Ct hr2, ?_⟩
    simp only [Result.andThen_ok, if_true, Sem.run_bind, sizeOf, typeInfo, run_program, hi, Sem.run_pure]
    congr 2
    apply Array.toList_inj.1
    simp [List.extract_eq_take_drop]
def eqFs (P : Program) (eq : TypeId → Value → Value → Option Bool) (xs ys : List Value) : List Field → Option Bool
 | [] => some true
 | f :: fs => bif decide (f.name = "_") then eqFs P eq xs ys fs else
  match Hy P f.type xs f.offset, Hy P f.type ys f.offset with
  | some a, some b => match eq f.type a b, eqFs P eq xs ys fs with
   | some r, some s => some (r && s)
   | _, _ => none
  | _, _ => none
def eqIs (P : Program) (eq : TypeId → Value → Value → Option Bool) (e : TypeId) (n : Nat) (xs ys : List Value) : List Nat → Option Bool
 | [] => some true
 | i :: is => match Hy P e xs (i * n), Hy P e ys (i * n) with
  | some a, some b => match eq e a b, eqIs P eq e n xs ys is with
   | some r, some s => some (r && s)
   | _, _ => none
  | _, _ => none
def Cp (a b : ByteArray) : Bool := a.data.toList == b.data.toList
def eqV (P : Program) : Nat → TypeId → Value → Value → Option Bool
 | 0, _, _, _ => none
 | d + 1, t, x, y => match P.underlying t, x, y with
  | some .bool, .bool a, .bool b => some (a == b)
  | some (.int _), .int k a, .int k' b => bif decide (k = k') then some (a == b) else none
  | some .string, .string a, .string b => some (Cp a b)
  | some (.struct fs), .agg xs, .agg ys => bif P.stoodInHeld t then none else eqFs P (eqV P d) xs.toList ys.toList fs.toList
  | some (.array n e), .agg xs, .agg ys => match P.info? e with
   | some i => eqIs P (eqV P d) e (P.cellsOf e) xs.toList ys.toList (List.range n)
   | none => none
  | some (.pointer _), .pointer none, .pointer b => some b.isNone
  | some (.pointer _), .pointer (some _), .pointer none => some false
  | some (.slice _), .slice none _ _, .slice none _ _ => some true
  | some (.slice _), .slice none _ _, .slice (some _) l _ => bif Nat.blt 0 l then some false else none
  | some (.slice _), .slice (some _) l _, .slice none _ _ => bif Nat.blt 0 l then some false else none
  | some (.func _ _ _), .nilFunc, .nilFunc => some true
  | some (.func _ _ _), .nilFunc, .func _ _ _ => some false
  | some (.func _ _ _), .func _ _ _, .nilFunc => some false
  | _, _, _ => none
theorem strEq_beq (a b : ByteArray) : (a == b) = Cp a b := by rw [beq_toListBytes, ByteArray.toList_eq, ByteArray.toList_eq]; rfl

section
variable {P : Program} {σ : Sg} {w : World}
theorem eqFs_ok {d : Nat} (ih : ∀ t x y x' y' r, eqV P d t x y = some r → renV σ x = some x' → renV σ y = some y' → (Op.equalIn d t x' y').run P w = .ok r w)
  {xs ys us vs : List Value} (hx : renL σ xs = some us) (hy : renL σ ys = some vs) : ∀ (fs : List Field) (r : Bool), eqFs P (eqV P d) xs ys fs = some r → (Op.eqFields d us.toArray vs.toArray fs).run P w = .ok r w
 | [], r, h => by simp only [eqFs, oI] at h; subst h; rfl
 | f :: fs, r, h => by
   simp only [eqFs] at h
   simp only [Op.eqFields]
   by_cases hn : f.name = "_"
   ·simp only [hn, decide_true, cond_true] at h
    rw [if_neg (by simp [hn])]
    exact eqFs_ok ih hx hy fs r h
   ·simp only [hn, decide_false, cond_false] at h
    rw [if_pos hn]
    split at h
    ·rename_i a b ha hb
     split at h
     ·rename_i q s hq hs
      simp only [oI] at h
      obtain ⟨a', ha1, ha2⟩ := Hx (P := P) (w := w) hx ha
      obtain ⟨b', hb1, hb2⟩ := Hx (P := P) (w := w) hy hb
      have he := ih _ _ _ _ _ _ hq ha1 hb1
      have hr := eqFs_ok ih hx hy fs s hs
      simp only [Sem.run_bind, ha2, hb2, he, Result.andThen_ok, Sem.run_ite]
      subst h
      cases q
      ·simp
      ·simpa using hr
     ·cases h
    ·cases h
theorem eqIs_ok {d : Nat} (ih : ∀ t x y x' y' r, eqV P d t x y = some r → renV σ x = some x' → renV σ y = some y' → (Op.equalIn d t x' y').run P w = .ok r w)
  {e : TypeId} {n : Nat} {xs ys us vs : List Value} (hx : renL σ xs = some us) (hy : renL σ ys = some vs) : ∀ (is : List Nat) (r : Bool), eqIs P (eqV P d) e n xs ys is = some r → (Op.eqItems d e n us.toArray vs.toArray is).run P w = .ok r w
 | [], r, h => by simp only [eqIs, oI] at h; subst h; rfl
 | i :: is, r, h => by
   simp only [eqIs] at h
   simp only [Op.eqItems]
   split at h
   ·rename_i a b ha hb
    split at h
    ·rename_i q s hq hs
     simp only [oI] at h
     obtain ⟨a', ha1, ha2⟩ := Hx (P := P) (w := w) hx ha
     obtain ⟨b', hb1, hb2⟩ := Hx (P := P) (w := w) hy hb
     have he := ih _ _ _ _ _ _ hq ha1 hb1
     have hr := eqIs_ok ih hx hy is s hs
     simp only [Sem.run_bind, ha2, hb2, he, Result.andThen_ok, Sem.run_ite]
     subst h
     cases q
     ·simp
     ·simpa using hr
    ·cases h
   ·cases h
theorem Dk {a : Addr} {x : Value} (h : renV σ (.pointer (some a)) = some x) : ∃ b, x = .pointer (some b) := by
 simp only [renV] at h
 split at h
 ·cases h; exact ⟨_, rfl⟩
 ·cases h
theorem Ir {a : Addr} {l c : Nat} {x : Value} (h : renV σ (.slice (some a) l c) = some x) (hl : Nat.blt 0 l = true) : ∃ b c', x = .slice (some b) l c' := by
 simp only [renV, slR] at h
 split at h
 ·split at h
  ·split at h
   ·rename_i h0; rw [h0.1] at hl; cases hl
   ·cases h
  ·split at h
   ·cases h; exact ⟨_, _, rfl⟩
   ·cases h
 ·cases h
theorem Du {fn : Fn} {f c : Array Value} {x : Value} (h : renV σ (.func fn f c) = some x) : ∃ fn' f' c', x = .func fn' f' c' ∧ renL σ f.toList = some f'.toList ∧ renL σ c.toList = some c'.toList ∧ fnR σ fn = some fn' := by
 simp only [renV] at h
 split at h
 ·rename_i h1 h2 h3; cases h; exact ⟨_, _, _, rfl, M1 h2, M1 h3, h1⟩
 ·cases h
theorem eqV_ok : ∀ (d : Nat) (t : TypeId) (x y x' y' : Value) (r : Bool), eqV P d t x y = some r → renV σ x = some x' → renV σ y = some y' → (Op.equalIn d t x' y').run P w = .ok r w
 | 0, _, _, _, _, _, _, h, _, _ => by simp [eqV] at h
 | d + 1, t, x, y, x', y', r, h, hx, hy => by
   unfold eqV at h
   split at h
   ·rename_i a b hu
    simp only [renV, oI] at hx hy h
    subst hx; subst hy; subst h
    exact run_equalIn_bool w d t a b hu
   ·rename_i k k1 a k2 b hu
    simp only [renV, oI] at hx hy
    subst hx; subst hy
    by_cases hk : k1 = k2
    ·subst hk
     simp only [decide_true, cond_true, oI] at h
     subst h
     exact run_equalIn_int w d t k1 k a b hu
    ·simp only [hk, decide_false, cond_false] at h; cases h
   ·rename_i a b hu
    simp only [renV, oI] at hx hy h
    subst hx; subst hy; subst h
    rw [run_equalIn_string w d t a b hu, ← beq_toListBytes, strEq_beq]
   ·rename_i fs xs ys hu
    obtain ⟨us, rfl, hus⟩ := Cq hx
    obtain ⟨vs, rfl, hvs⟩ := Cq hy
    cases hst : P.stoodInHeld t with
    | true => rw [hst] at h; cases h
    | false =>
     rw [hst] at h
     have hf : P.fieldsOf t = fs := by simp [Program.fieldsOf, hu]
     rw [run_equalIn_struct w d t us vs (by rw [hf]; exact hu) hst, hf]
     have := eqFs_ok (P := P) (σ := σ) (w := w) (d := d) (fun t x y x' y' r h hx hy => eqV_ok d t x y x' y' r h hx hy) hus hvs fs.toList r h
     simpa using this
   ·rename_i n e xs ys hu
    obtain ⟨us, rfl, hus⟩ := Cq hx
    obtain ⟨vs, rfl, hvs⟩ := Cq hy
    cases hi : P.info? e with
    | none => rw [hi] at h; cases h
    | some i =>
     rw [hi] at h
     rw [run_equalIn_array w d us vs hu hi]
     have := eqIs_ok (P := P) (σ := σ) (w := w) (d := d) (e := e) (n := P.cellsOf e) (fun t x y x' y' r h hx hy => eqV_ok d t x y x' y' r h hx hy) hus hvs (List.range n) r h
     simpa using this
   ·rename_i e b hu
    simp only [renV, oI] at hx h
    subst hx; subst h
    cases b with
    | none => simp only [renV, oI] at hy; subst hy; simp [Op.equalIn, run_underlying hu]
    | some b => obtain ⟨b', rfl⟩ := Dk hy; simp [Op.equalIn, run_underlying hu]
   ·rename_i e a hu
    simp only [oI] at h
    subst h
    obtain ⟨a', rfl⟩ := Dk hx
    simp only [renV, oI] at hy
    subst hy
    simp [Op.equalIn, run_underlying hu]
   ·rename_i e l c l' c' hu
    simp only [renV, oI] at hx hy h
    subst hx; subst hy; subst h
    simp [Op.equalIn, run_underlying hu]
   ·rename_i e l c b l' c' hu
    cases hb : Nat.blt 0 l' with
    | false => rw [hb] at h; cases h
    | true =>
     rw [hb] at h
     simp only [renV, oI, cond_true] at hx h
     subst hx; subst h
     obtain ⟨b', c'', rfl⟩ := Ir hy hb
     simp [Op.equalIn, run_underlying hu]
   ·rename_i e a l c l' c' hu
    cases hb : Nat.blt 0 l with
    | false => rw [hb] at h; cases h
    | true =>
    rw [hb] at h
    simp only [oI, cond_true] at h
    subst h
    obtain ⟨a', c'', rfl⟩ := Ir hx hb
    simp only [renV, oI] at hy
    subst hy
    simp [Op.equalIn, run_underlying hu]
   ·rename_i hu
    simp only [renV, oI] at hx hy h
    subst hx; subst hy; subst h
    simp [Op.equalIn, run_underlying hu]
   ·rename_i hu
    simp only [renV, oI] at hx h
    subst hx; subst h
    obtain ⟨_, f', c', rfl, _⟩ := Du hy
    simp [Op.equalIn, run_underlying hu]
   ·rename_i hu
    simp only [renV, oI] at hy h
    subst hy; subst h
    obtain ⟨_, f', c', rfl, _⟩ := Du hx
    simp [Op.equalIn, run_underlying hu]
   ·cases h
end

def binI (op : BinOp) (k : IntKind) (x y : Int) : Option Value :=
 match op with
 | .add => some (.int k (k.wrap (x + y)))
 | .sub => some (.int k (k.wrap (x - y)))
 | .mul => some (.int k (k.wrap (x * y)))
 | .quo => bif decide (y = 0) then none else some (.int k (k.wrap (x.tdiv y)))
 | .rem => bif decide (y = 0) then none else some (.int k (x.tmod y))
 | .and => some (.int k (k.wrap (BitVec.ofInt k.bits x &&& BitVec.ofInt k.bits y).toNat))
 | .or => some (.int k (k.wrap (BitVec.ofInt k.bits x ||| BitVec.ofInt k.bits y).toNat))
 | .xor => some (.int k (k.wrap (BitVec.ofInt k.bits x ^^^ BitVec.ofInt k.bits y).toNat))
 | .andNot => some (.int k (k.wrap (BitVec.ofInt k.bits x &&& ~~~BitVec.ofInt k.bits y).toNat))
 | .eql => some (.bool (x == y))
 | .neq => some (.bool (x != y))
 | .lss => some (.bool (decide (x < y)))
 | .leq => some (.bool (decide (x ≤ y)))
 | .gtr => some (.bool (decide (x > y)))
 | .geq => some (.bool (decide (x ≥ y)))
 | _ => none
def binS (op : BinOp) (x y : ByteArray) : Option Value :=
 match op with
 | .add => bif Nat.ble (x.data.toList.length + y.data.toList.length) 9223372036854775807 then some (.string ⟨(x.data.toList ++ y.data.toList).toArray⟩) else none
 | .eql => some (.bool (Cp x y))
 | .neq => some (.bool (!Cp x y))
 | .lss => some (.bool (Op.bytesLess x.data.toList y.data.toList))
 | .leq => some (.bool (Op.bytesLess x.data.toList y.data.toList || Cp x y))
 | .gtr => some (.bool (!(Op.bytesLess x.data.toList y.data.toList || Cp x y)))
 | .geq => some (.bool (!Op.bytesLess x.data.toList y.data.toList))
 | _ => none
def shV (op : BinOp) (k : IntKind) (x y : Int) : Option Value :=
 bif decide (y < 0) then none else match op with
 | .shl => some (.int k (k.wrap (x * 2 ^ min y.toNat k.bits)))
 | .shr => some (.int k (x.fdiv (2 ^ min y.toNat k.bits)))
 | _ => none
def H5 (P : Program) (t : TypeId) : Value → Bool
 | .nilIface => false
 | .agg _ => !(P.eqGuardType P.depth t)
 | _ => true
def binV (P : Program) (op : BinOp) (t : TypeId) (x y : Value) : Option Value :=
 match x, y with
 | .int k a, .int k' b => match op with
  | .shl | .shr => shV op k a b
  | _ => bif decide (k = k') then binI op k a b else none
 | .string a, .string b => binS op a b
 | x, y => bif H5 P t x then (match op with
  | .eql => match eqV P 10000 t x y with | some r => some (.bool r) | none => none
  | .neq => match eqV P 10000 t x y with | some r => some (.bool (!r)) | none => none
  | _ => none) else none
theorem binI_ok {P : Program} {op : BinOp} {t : TypeId} {k : IntKind} {x y : Int} {v : Value} {w : World} (ho : op ≠ .shl ∧ op ≠ .shr) (h : binI op k x y = some v) : (binOp op t (.int k x) (.int k y)).run P w = .ok v w ∧ ∀ σ, renV σ v = some v := by
 cases op <;> simp only [binI, oI] at h
 case quo | rem =>
  by_cases hy : y = 0
  ·simp [hy] at h
  ·simp only [hy, decide_false, cond_false, oI] at h
   subst h
   refine ⟨?_, fun σ => rfl⟩
   simp [binOp, Op.intDiv, hy]
 case shl | shr => cases h
 all_goals
  subst h
  refine ⟨?_, fun σ => rfl⟩
  first
   | (simp [binOp, Op.intArith]; done)
   | (simp [binOp, Op.intBits]; done)
   | (simp [binOp, Op.intCmp]; done)
section
variable {P : Program} {σ : Sg} {w : World}
theorem binS_ok {op : BinOp} {t : TypeId} {x y : ByteArray} {v : Value} (h : binS op x y = some v) : (binOp op t (.string x) (.string y)).run P w = .ok v w ∧ renV σ v = some v := by
 have e1 : ∀ a : ByteArray, a.toList = a.data.toList := fun a => ByteArray.toList_eq a
 have hb : binOp op t (.string x) (.string y) = Op.stringOp op x y := by cases op <;> rfl
 rw [hb]
 cases op <;> simp only [binS] at h <;> try (cases h; done)
 case add =>
  cases hc : Nat.ble (x.data.toList.length + y.data.toList.length) 9223372036854775807 with
  | false => rw [hc] at h; cases h
  | true =>
   rw [hc] at h
   simp only [cond_true, oI] at h
   subst h
   refine ⟨?_, rfl⟩
   have h2 := Nat.le_of_ble_eq_true hc
   simp only [Array.length_toList] at h2
   have hs : ¬ (((x.size + y.size : Nat) : Int) > IntKind.i64.max) := by
    have : IntKind.i64.max = 9223372036854775807 := by decide
    rw [this]
    show ¬ ((x.data.size + y.data.size : Nat) : Int) > 9223372036854775807
    omega
   have ha : x ++ y = ⟨(x.data.toList ++ y.data.toList).toArray⟩ := by
    apply ByteArray.ext
    simp
   unfold Op.stringOp
   simp only [hs, if_false, Sem.run_pure, ha]
 all_goals
  simp only [oI] at h
  subst h
  refine ⟨?_, rfl⟩
  unfold Op.stringOp
  simp only [e1, Sem.run_pure, Cp]
theorem shV_ok {op : BinOp} {t : TypeId} {k yk : IntKind} {x y : Int} {v : Value} (hop : op = .shl ∨ op = .shr) (h : shV op k x y = some v) : (binOp op t (.int k x) (.int yk y)).run P w = .ok v w ∧ renV σ v = some v := by
 unfold shV at h
 by_cases hy : y < 0
 ·simp [hy] at h
 ·simp only [hy, decide_false, cond_false] at h
  rcases hop with rfl | rfl
  all_goals
   simp only [oI] at h
   subst h
   refine ⟨?_, rfl⟩
   simp [binOp, Op.shift, hy]
theorem eqGuard_ok {op : BinOp} {t : TypeId} {x y : Operand} {a b a' : Value} (h : H5 P t a = true) (ha : renV σ a = some a') : (eqGuard op t x y a' b).run P w = .ok () w := by
 cases a with
 | agg c =>
  obtain ⟨c', rfl, _⟩ := Cq ha
  simp only [H5, Bool.not_eq_true'] at h
  cases b with
  | agg d => exact run_eqGuard_agg w op t x y c' d h
  | _ => cases op <;> rfl
 | nilIface => simp [H5] at h
 | tuple c => obtain ⟨c', rfl, _⟩ := Ic ha; cases op <;> rfl
 | pointer p => cases p <;> simp only [renV] at ha <;> (try split at ha) <;> cases ha <;> cases op <;> rfl
 | slice p l c => obtain ⟨_, _, rfl⟩ := Ek ha; cases op <;> rfl
 | map p => cases p <;> simp only [renV] at ha <;> (try split at ha) <;> cases ha <;> cases op <;> rfl
 | chan p => cases p <;> simp only [renV] at ha <;> cases ha <;> cases op <;> rfl
 | func fn f c => obtain ⟨_, f', c', rfl, _⟩ := Du ha; cases op <;> rfl
 | iface t v => simp only [renV] at ha; split at ha <;> cases ha; cases op <;> rfl
 | _ => simp only [renV, oI] at ha; subst ha; cases op <;> rfl
theorem binEq_ok {op : BinOp} {t : TypeId} {x y x' y' : Value} {r : Bool} (hx : renV σ x = some x') (hy : renV σ y = some y') (h : eqV P 10000 t x y = some r)
  (hni : ∀ k a k' b, x = .int k a → y = .int k' b → False) (hns : ∀ a b, x = .string a → y = .string b → False) :
  (binOp .eql t x' y').run P w = .ok (.bool r) w ∧ (binOp .neq t x' y').run P w = .ok (.bool (!r)) w := by
 have he : (Op.equal t x' y').run P w = .ok r w := eqV_ok (P := P) (σ := σ) (w := w) 10000 t x y x' y' r h hx hy
 have key : ∀ op', (op' = BinOp.eql ∨ op' = BinOp.neq) → binOp op' t x' y' = (match op' with | .eql => do pure (.bool (← Op.equal t x' y')) | _ => do pure (.bool (!(← Op.equal t x' y')))) := by
  intro op' hop
  unfold eqV at h
  split at h
  all_goals try (cases h; done)
  ·rename_i a b hu; simp only [renV, oI] at hx hy; subst hx; subst hy; rcases hop with rfl | rfl <;> rfl
  ·rename_i k k1 a k2 b hu; exact (hni _ _ _ _ rfl rfl).elim
  ·exact (hns _ _ rfl rfl).elim
  ·obtain ⟨us, rfl, _⟩ := Cq hx; obtain ⟨vs, rfl, _⟩ := Cq hy; rcases hop with rfl | rfl <;> rfl
  ·obtain ⟨us, rfl, _⟩ := Cq hx; obtain ⟨vs, rfl, _⟩ := Cq hy; rcases hop with rfl | rfl <;> rfl
  ·rename_i e b hu
   simp only [renV, oI] at hx; subst hx
   cases b with
   | none => simp only [renV, oI] at hy; subst hy; rcases hop with rfl | rfl <;> rfl
   | some b => obtain ⟨b', rfl⟩ := Dk hy; rcases hop with rfl | rfl <;> rfl
  ·obtain ⟨a', rfl⟩ := Dk hx; simp only [renV, oI] at hy; subst hy; rcases hop with rfl | rfl <;> rfl
  ·obtain ⟨_, _, rfl⟩ := Ek hx; obtain ⟨_, _, rfl⟩ := Ek hy; rcases hop with rfl | rfl <;> rfl
  ·obtain ⟨_, _, rfl⟩ := Ek hx; obtain ⟨_, _, rfl⟩ := Ek hy; rcases hop with rfl | rfl <;> rfl
  ·obtain ⟨_, _, rfl⟩ := Ek hx; obtain ⟨_, _, rfl⟩ := Ek hy; rcases hop with rfl | rfl <;> rfl
  ·simp only [renV, oI] at hx hy; subst hx; subst hy; rcases hop with rfl | rfl <;> rfl
  ·simp only [renV, oI] at hx; subst hx; obtain ⟨_, f', c', rfl, _⟩ := Du hy; rcases hop with rfl | rfl <;> rfl
  ·simp only [renV, oI] at hy; subst hy; obtain ⟨_, f', c', rfl, _⟩ := Du hx; rcases hop with rfl | rfl <;> rfl
 constructor
 ·rw [key .eql (.inl rfl)]; simp [he]
 ·rw [key .neq (.inr rfl)]; simp [he]
theorem binV_ok {op : BinOp} {t : TypeId} {x y : Value} {ox oy : Operand} {x' y' v : Value} (h : binV P op t x y = some v) (hx : renV σ x = some x') (hy : renV σ y = some y') :
  ∃ v', renV σ v = some v' ∧ (do eqGuard op t ox oy x' y'; binOp op t x' y' : Sem Value).run P w = .ok v' w := by
 unfold binV at h
 split at h
 ·rename_i k a k' b
  simp only [renV, oI] at hx hy
  subst hx; subst hy
  have hg : (eqGuard op t ox oy (.int k a) (.int k' b)).run P w = .ok () w := by rw [eqGuard_at_int]; rfl
  refine ⟨v, ?_⟩
  split at h
  ·obtain ⟨h1, h2⟩ := shV_ok (P := P) (σ := σ) (w := w) (t := t) (yk := k') (.inl rfl) h
   exact ⟨h2, by rw [Sem.run_bind, hg]; exact h1⟩
  ·obtain ⟨h1, h2⟩ := shV_ok (P := P) (σ := σ) (w := w) (t := t) (yk := k') (.inr rfl) h
   exact ⟨h2, by rw [Sem.run_bind, hg]; exact h1⟩
  ·rename_i n1 n2
   by_cases hk : k = k'
   ·subst hk
    simp only [decide_true, cond_true] at h
    obtain ⟨h1, h2⟩ := binI_ok (P := P) (t := t) (w := w) ⟨n1, n2⟩ h
    exact ⟨h2 σ, by rw [Sem.run_bind, hg]; exact h1⟩
   ·simp only [hk, decide_false, cond_false] at h; cases h
 ·rename_i a b
  simp only [renV, oI] at hx hy
  subst hx; subst hy
  obtain ⟨h1, h2⟩ := binS_ok (P := P) (σ := σ) (w := w) (t := t) h
  exact ⟨v, h2, by rw [Sem.run_bind, eqGuard_at_string]; exact h1⟩
 ·rename_i n1 n2
  cases hgf : H5 P t x with
  | false => rw [hgf] at h; cases h
  | true =>
   rw [hgf] at h
   simp only [cond_true] at h
   have hg := eqGuard_ok (P := P) (σ := σ) (w := w) (op := op) (x := ox) (y := oy) (b := y') hgf hx
   split at h
   ·split at h
    ·rename_i r hr
     cases h
     exact ⟨.bool r, rfl, by rw [Sem.run_bind, hg]; exact (binEq_ok (op := .eql) (w := w) hx hy hr (fun k a k' b e1 e2 => n1 k a k' b e1 e2) (fun a b e1 e2 => n2 a b e1 e2)).1⟩
    ·cases h
   ·split at h
    ·rename_i r hr
     cases h
     exact ⟨.bool (!r), rfl, by rw [Sem.run_bind, hg]; exact (binEq_ok (op := .neq) (w := w) hx hy hr (fun k a k' b e1 e2 => n1 k a k' b e1 e2) (fun a b e1 e2 => n2 a b e1 e2)).2⟩
    ·cases h
   ·cases h
def unV (op : UnOp) : Value → Option Value
 | .int k n => match op with
  | .neg => some (.int k (k.wrap (0 - n)))
  | .xor => binI .xor k (bif k.signed then -1 else k.max) n
  | _ => none
 | .bool b => match op with
  | .not => some (.bool (!b))
  | _ => none
 | _ => none
theorem unV_ok {op : UnOp} {x x' v : Value} (h : unV op x = some v) (hx : renV σ x = some x') : ∃ v', renV σ v = some v' ∧ (Op.unary op x').run P w = .ok v' w := by
 unfold unV at h
 split at h
 ·rename_i k n
  simp only [renV, oI] at hx
  subst hx
  split at h
  ·simp only [oI] at h; subst h; exact ⟨_, rfl, rfl⟩
  ·simp only [binI, oI] at h; subst h; refine ⟨_, rfl, ?_⟩; cases hs : k.signed <;> simp [Op.unary, Op.intBits, hs]
  ·cases h
 ·simp only [renV, oI] at hx
  subst hx
  split at h
  ·simp only [oI] at h; subst h; exact ⟨_, rfl, rfl⟩
  ·cases h
 ·cases h
end
end Go.Proofs.Ytojakfnljopjbaa
