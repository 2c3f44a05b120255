/-
  The machine that runs in the kernel, part A: values whose blocks are names; what names stand for; rows by name; the relation to a world.
-/
import Derived.Test.YtojakfnljopjbaaGrAA
import Derived.Laws.MakeOwn
import Derived.Laws.IdiomCopy
namespace Go.Proofs.Ytojakfnljopjbaa
section
set_option linter.unusedSimpArgs false
set_option linter.unusedVariables false
set_option linter.unusedSectionVars false
open Go Go.RowKit

theorem oI.{u} {α : Type u} (a b : α) : (some a = some b) = (a = b) := Option.some.injEq a b
theorem pI.{u, v} {α : Type u} {β : Type v} (a : α) (b : β) (c : α) (d : β) : ((a, b) = (c, d)) = (a = c ∧ b = d) := Prod.mk.injEq a b c d
structure Sg where
 b : Nat → Option (Nat × Nat)
 c : Nat → Option Nat
 f : Nat → Option (List Nat × List Nat)
 e : Nat → Option Addr
 w : Bool
def Sg.le (σ τ : Sg) : Prop := (∀ n p, σ.b n = some p → τ.b n = some p) ∧ (∀ n k, σ.c n = some k → τ.c n = some k) ∧ (∀ n p, σ.b n = some p → τ.c n = σ.c n ∧ τ.f n = σ.f n ∧ τ.e n = σ.e n ∧ τ.w = σ.w)
theorem Sg.le.refl (σ : Sg) : σ.le σ := ⟨fun _ _ h => h, fun _ _ h => h, fun _ _ _ => ⟨rfl, rfl, rfl, rfl⟩⟩
theorem Sg.le.trans {a b c : Sg} (h : a.le b) (k : b.le c) : a.le c := ⟨fun n p e => k.1 n p (h.1 n p e), fun n p e => k.2.1 n p (h.2.1 n p e), fun n p e => by
 obtain ⟨h1, h2, h3, h4⟩ := h.2.2 n p e
 obtain ⟨k1, k2, k3, k4⟩ := k.2.2 n p (h.1 n p e)
 exact ⟨k1.trans h1, k2.trans h2, k3.trans h3, k4.trans h4⟩⟩
def B0 : Nat := 18446744073709551616
def sh (σ : Sg) (n : Nat) : List Nat := ((σ.f n).getD ([], [])).1
def ex (σ : Sg) (n : Nat) : List Nat := ((σ.f n).getD ([], [])).2
def adR (σ : Sg) : Addr → Option Addr
 | ⟨n, o, s⟩ => match σ.b n with | some p => some ⟨p.1, p.2 + o, s⟩ | none => none
def cpR (σ : Sg) (c : Nat) : Option Nat := if c < B0 then some c else σ.c (c - B0)
def fnR (σ : Sg) : Fn → Option Fn
 | .yield n => match σ.b n with | some p => some (.yield p.1) | none => none
 | fn => some fn
def ptR (σ : Sg) (a : Addr) : Option Addr := if σ.f a.block = none then none else adR σ a
def slR (σ : Sg) (a : Addr) (l c : Nat) : Option Value :=
 match adR σ a, cpR σ c with
 | some a', some c' => if σ.f a.block = none then (if l = 0 ∧ c' = 0 then some (.slice (σ.e a.block) 0 0) else none) else (if σ.w = false ∨ l ≤ c' then some (.slice (some a') l c') else none)
 | _, _ => none
def fnB : Fn → Bool
 | .yield _ => false
 | _ => true
theorem fnB_ok {σ : Sg} {fn : Fn} (h : fnB fn = true) : fnR σ fn = some fn := by cases fn <;> first | rfl | cases h
mutual
def renV (σ : Sg) : Value → Option Value
 | .pointer (some a) => match ptR σ a with | some a' => some (.pointer (some a')) | none => none
 | .slice (some a) l c => slR σ a l c
 | .agg cs => match renA σ cs with | some cs' => some (.agg cs') | none => none
 | .tuple cs => match renA σ cs with | some cs' => some (.tuple cs') | none => none
 | .func fn f c => match fnR σ fn, renA σ f, renA σ c with | some fn', some f', some c' => some (.func fn' f' c') | _, _, _ => none
 | .iface t v => match renV σ v with | some v' => some (.iface t v') | none => none
 | .map (some n) => match σ.b n with | some p => some (.map (some p.1)) | none => none
 | .chan (some _) => none
 | .bool b => some (.bool b)
 | .int k n => some (.int k n)
 | .float k n => some (.float k n)
 | .complex k a b => some (.complex k a b)
 | .string s => some (.string s)
 | .pointer none => some (.pointer none)
 | .slice none l c => some (.slice none l c)
 | .map none => some (.map none)
 | .chan none => some (.chan none)
 | .nilFunc => some .nilFunc
 | .nilIface => some .nilIface
def renA (σ : Sg) : Array Value → Option (Array Value)
 | ⟨l⟩ => match renL σ l with | some l' => some ⟨l'⟩ | none => none
def renL (σ : Sg) : List Value → Option (List Value)
 | [] => some []
 | v :: vs => match renV σ v, renL σ vs with | some a, some b => some (a :: b) | _, _ => none
end

section
variable {σ τ : Sg}
theorem adR_le (h : σ.le τ) {a a' : Addr} (e : adR σ a = some a') : adR τ a = some a' := by
 obtain ⟨n, o, sp⟩ := a
 simp only [adR] at e ⊢
 cases hb : σ.b n with
 | none => rw [hb] at e; cases e
 | some p => rw [hb] at e; rw [h.1 n p hb]; exact e
theorem cpR_le (h : σ.le τ) {c c' : Nat} (e : cpR σ c = some c') : cpR τ c = some c' := by
 unfold cpR at *
 split
 ·rename_i hc; rw [if_pos hc] at e; exact e
 ·rename_i hc; rw [if_neg hc] at e; exact h.2.1 _ _ e
theorem fnR_le (h : σ.le τ) {fn fn' : Fn} (e : fnR σ fn = some fn') : fnR τ fn = some fn' := by
 cases fn with
 | yield n =>
  simp only [fnR] at e ⊢
  cases hb : σ.b n with
  | none => rw [hb] at e; cases e
  | some p => rw [hb] at e; rw [h.1 n p hb]; exact e
 | _ => exact e
theorem adR_some {a a' : Addr} (e : adR σ a = some a') : ∃ p, σ.b a.block = some p := by
 obtain ⟨n, o, s⟩ := a
 simp only [adR] at e
 cases hb : σ.b n with
 | none => rw [hb] at e; cases e
 | some p => exact ⟨p, rfl⟩
theorem ptR_le (h : σ.le τ) {a a' : Addr} (e : ptR σ a = some a') : ptR τ a = some a' := by
 unfold ptR at e ⊢
 split at e
 ·cases e
 ·rename_i hn
  obtain ⟨p, hb⟩ := adR_some e
  rw [if_neg (by rw [(h.2.2 _ p hb).2.1]; exact hn)]
  exact adR_le h e
theorem slR_le (h : σ.le τ) {a : Addr} {l c : Nat} {v : Value} (e : slR σ a l c = some v) : slR τ a l c = some v := by
 unfold slR at e ⊢
 split at e
 ·rename_i a' c' h1 h2
  obtain ⟨p, hb⟩ := adR_some h1
  rw [adR_le h h1, cpR_le h h2, (h.2.2 _ p hb).2.1, (h.2.2 _ p hb).2.2.1, (h.2.2 _ p hb).2.2.2]
  exact e
 ·cases e
mutual
theorem Jk (h : σ.le τ) : ∀ (v v' : Value), renV σ v = some v' → renV τ v = some v'
 | .pointer (some a), v', e => by
   simp only [renV] at e ⊢
   cases ha : ptR σ a with
   | none => rw [ha] at e; cases e
   | some a' => rw [ha] at e; rw [ptR_le h ha]; exact e
 | .slice (some a) l c, v', e => by
   simp only [renV] at e ⊢
   exact slR_le h e
 | .agg cs, v', e => by
   simp only [renV] at e ⊢
   cases ha : renA σ cs with
   | none => rw [ha] at e; cases e
   | some a' => rw [ha] at e; rw [M3 h cs a' ha]; exact e
 | .tuple cs, v', e => by
   simp only [renV] at e ⊢
   cases ha : renA σ cs with
   | none => rw [ha] at e; cases e
   | some a' => rw [ha] at e; rw [M3 h cs a' ha]; exact e
 | .func fn f c, v', e => by
   simp only [renV] at e ⊢
   cases hfn : fnR σ fn with
   | none => rw [hfn] at e; cases e
   | some fn' =>
    cases ha : renA σ f with
    | none => rw [hfn, ha] at e; cases e
    | some a' =>
     cases hc : renA σ c with
     | none => rw [hfn, ha, hc] at e; cases e
     | some c' => rw [hfn, ha, hc] at e; rw [fnR_le h hfn, M3 h f a' ha, M3 h c c' hc]; exact e
 | .iface t v, v', e => by
   simp only [renV] at e ⊢
   cases ha : renV σ v with
   | none => rw [ha] at e; cases e
   | some a' => rw [ha] at e; rw [Jk h v a' ha]; exact e
 | .map (some n), v', e => by
   simp only [renV] at e ⊢
   cases hb : σ.b n with
   | none => rw [hb] at e; cases e
   | some p => rw [hb] at e; rw [h.1 n p hb]; exact e
 | .chan (some _), v', e => by simp [renV] at e
 | .bool b, v', e => by simpa only [renV] using e
 | .int k n, v', e => by simpa only [renV] using e
 | .float k n, v', e => by simpa only [renV] using e
 | .complex k a b, v', e => by simpa only [renV] using e
 | .string s, v', e => by simpa only [renV] using e
 | .pointer none, v', e => by simpa only [renV] using e
 | .slice none l c, v', e => by simpa only [renV] using e
 | .map none, v', e => by simpa only [renV] using e
 | .chan none, v', e => by simpa only [renV] using e
 | .nilFunc, v', e => by simpa only [renV] using e
 | .nilIface, v', e => by simpa only [renV] using e
theorem M3 (h : σ.le τ) : ∀ (v v' : Array Value), renA σ v = some v' → renA τ v = some v'
 | ⟨l⟩, v', e => by
   simp only [renA] at e ⊢
   cases ha : renL σ l with
   | none => rw [ha] at e; cases e
   | some a' => rw [ha] at e; rw [Cf h l a' ha]; exact e
theorem Cf (h : σ.le τ) : ∀ (v v' : List Value), renL σ v = some v' → renL τ v = some v'
 | [], v', e => by simpa only [renL] using e
 | v :: vs, v', e => by
   simp only [renL] at e ⊢
   cases ha : renV σ v with
   | none => rw [ha] at e; cases e
   | some a' =>
    cases hc : renL σ vs with
    | none => rw [ha, hc] at e; cases e
    | some c' => rw [ha, hc] at e; rw [Jk h v a' ha, Cf h vs c' hc]; exact e
end
theorem B9 {v : Value} {vs m : List Value} (h : renL σ (v :: vs) = some m) : ∃ a b, renV σ v = some a ∧ renL σ vs = some b ∧ m = a :: b := by
 simp only [renL] at h
 split at h
 ·rename_i a b h1 h2; exact ⟨a, b, h1, h2, by simpa using h.symm⟩
 ·cases h
theorem Bi {v a : Value} {vs b : List Value} (h1 : renV σ v = some a) (h2 : renL σ vs = some b) : renL σ (v :: vs) = some (a :: b) := by
 simp only [renL, h1, h2]
theorem Bn : ∀ {l m : List Value}, renL σ l = some m → m.length = l.length
 | [], m, h => by simp [renL] at h; subst h; rfl
 | v :: vs, m, h => by obtain ⟨a, b, _, h2, rfl⟩ := B9 h; simp [Bn h2]
theorem Hw : ∀ {l m : List Value}, renL σ l = some m → ∀ (i : Nat) (v : Value), l[i]? = some v → ∃ v', m[i]? = some v' ∧ renV σ v = some v'
 | [], m, h, i, v, hi => by simp at hi
 | x :: xs, m, h, i, v, hi => by
   obtain ⟨a, b, h1, h2, rfl⟩ := B9 h
   cases i with
   | zero => simp at hi; subst hi; exact ⟨a, by simp, h1⟩
   | succ i => simp at hi ⊢; exact Hw h2 i v hi
theorem C7 : ∀ {l m l' m' : List Value}, renL σ l = some m → renL σ l' = some m' → renL σ (l ++ l') = some (m ++ m')
 | [], m, l', m', h, h' => by simp [renL] at h; subst h; simpa using h'
 | x :: xs, m, l', m', h, h' => by
   obtain ⟨a, b, h1, h2, rfl⟩ := B9 h
   exact Bi h1 (C7 h2 h')
theorem Dw : ∀ {l m : List Value} (n : Nat), renL σ l = some m → renL σ (l.take n) = some (m.take n)
 | _, _, 0, h => by simp [renL]
 | [], m, n + 1, h => by simp [renL] at h; subst h; simp [renL]
 | x :: xs, m, n + 1, h => by
   obtain ⟨a, b, h1, h2, rfl⟩ := B9 h
   exact Bi h1 (Dw n h2)
theorem Cr : ∀ {l m : List Value} (n : Nat), renL σ l = some m → renL σ (l.drop n) = some (m.drop n)
 | _, _, 0, h => by simpa using h
 | [], m, n + 1, h => by simp [renL] at h; subst h; simp [renL]
 | x :: xs, m, n + 1, h => by
   obtain ⟨a, b, h1, h2, rfl⟩ := B9 h
   simpa using Cr n h2
theorem renL_set : ∀ {l m : List Value} (n : Nat) {v v' : Value}, renL σ l = some m → renV σ v = some v' → renL σ (l.set n v) = some (m.set n v')
 | [], m, n, v, v', h, hv => by simp [renL] at h; subst h; simp [renL]
 | x :: xs, m, 0, v, v', h, hv => by
   obtain ⟨a, b, h1, h2, rfl⟩ := B9 h
   exact Bi hv h2
 | x :: xs, m, n + 1, v, v', h, hv => by
   obtain ⟨a, b, h1, h2, rfl⟩ := B9 h
   exact Bi h1 (renL_set n h2 hv)
theorem renL_rep {v v' : Value} (h : renV σ v = some v') : ∀ n, renL σ (List.replicate n v) = some (List.replicate n v')
 | 0 => rfl
 | n + 1 => Bi h (renL_rep h n)
theorem Jl {α : Type} (f : α → Value) (h : ∀ x, renV σ (f x) = some (f x)) : ∀ l : List α, renL σ (l.map f) = some (l.map f)
 | [] => rfl
 | x :: xs => Bi (h x) (Jl f h xs)
theorem M1 {c c' : Array Value} (h : renA σ c = some c') : renL σ c.toList = some c'.toList := by
 obtain ⟨l⟩ := c
 simp only [renA] at h
 split at h
 ·rename_i l' hl; cases h; exact hl
 ·cases h
theorem M2 {c c' : Array Value} (h : renL σ c.toList = some c'.toList) : renA σ c = some c' := by
 obtain ⟨l⟩ := c
 simp only [renA]
 simp only at h
 rw [h]
theorem Cq {c : Array Value} {v : Value} (h : renV σ (.agg c) = some v) : ∃ c', v = .agg c' ∧ renL σ c.toList = some c'.toList := by
 simp only [renV] at h
 split at h
 ·rename_i c' hc; cases h; exact ⟨c', rfl, M1 hc⟩
 ·cases h
theorem Ic {c : Array Value} {v : Value} (h : renV σ (.tuple c) = some v) : ∃ c', v = .tuple c' ∧ renL σ c.toList = some c'.toList := by
 simp only [renV] at h
 split at h
 ·rename_i c' hc; cases h; exact ⟨c', rfl, M1 hc⟩
 ·cases h
theorem Ct {c c' : Array Value} (h : renL σ c.toList = some c'.toList) : renV σ (.agg c) = some (.agg c') := by simp only [renV, M2 h]
theorem Jv {c c' : Array Value} (h : renL σ c.toList = some c'.toList) : renV σ (.tuple c) = some (.tuple c') := by simp only [renV, M2 h]
theorem E4 {n o : Nat} {v : Value} (h : renV σ (.pointer (some ⟨n, o, none⟩)) = some v) : ∃ p, σ.b n = some p ∧ v = .pointer (some ⟨p.1, p.2 + o, none⟩) ∧ σ.f n ≠ none := by
 simp only [renV, ptR, adR] at h
 by_cases hn : σ.f n = none
 ·rw [if_pos hn] at h; cases h
 ·rw [if_neg hn] at h
  cases hb : σ.b n with
  | none => rw [hb] at h; cases h
  | some p => rw [hb] at h; exact ⟨p, rfl, by simpa using h.symm, hn⟩
theorem Da {n o : Nat} {p : Nat × Nat} (h : σ.b n = some p) (hn : σ.f n ≠ none) : renV σ (.pointer (some ⟨n, o, none⟩)) = some (.pointer (some ⟨p.1, p.2 + o, none⟩)) := by
 simp only [renV, ptR, adR, if_neg hn, h]
theorem B7 {n o l c : Nat} {v : Value} (h : renV σ (.slice (some ⟨n, o, none⟩) l c) = some v) : (∃ p c', σ.b n = some p ∧ cpR σ c = some c' ∧ v = .slice (some ⟨p.1, p.2 + o, none⟩) l c' ∧ σ.f n ≠ none) ∨ (σ.f n = none ∧ l = 0 ∧ cpR σ c = some 0 ∧ v = .slice (σ.e n) 0 0) := by
 simp only [renV, slR, adR] at h
 cases hb : σ.b n with
 | none => rw [hb] at h; cases h
 | some p =>
  cases hc : cpR σ c with
  | none => rw [hb, hc] at h; cases h
  | some c' =>
   rw [hb, hc] at h
   simp only at h
   split at h
   ·rename_i hn
    split at h
    ·rename_i hl
     exact .inr ⟨hn, hl.1, by rw [hl.2], (Option.some.inj h).symm⟩
    ·cases h
   ·rename_i hn
    split at h
    ·exact .inl ⟨p, c', rfl, rfl, by simpa using h.symm, hn⟩
    ·cases h
theorem B5 {n o l c c' : Nat} {p : Nat × Nat} (h : σ.b n = some p) (hc : cpR σ c = some c') (hn : σ.f n ≠ none) (hl : σ.w = false ∨ l ≤ c') : renV σ (.slice (some ⟨n, o, none⟩) l c) = some (.slice (some ⟨p.1, p.2 + o, none⟩) l c') := by
 simp only [renV, slR, adR, if_neg hn, h, hc, if_pos hl]
theorem Bx {a : Addr} {l c : Nat} {x : Option Addr} {l' c' : Nat} (hw : σ.w = true) (h : renV σ (.slice (some a) l c) = some (.slice x l' c')) : l' ≤ c' := by
 simp only [renV, slR] at h
 split at h
 ·split at h
  ·split at h
   ·cases h; exact Nat.le_refl _
   ·cases h
  ·split at h
   ·rename_i hl; cases h; exact hl.elim (fun e => by rw [hw] at e; cases e) fun e => e
   ·cases h
 ·cases h
theorem Dl {n o l c : Nat} {p : Nat × Nat} (h : σ.b n = some p) (hn : σ.f n = none) (hl : l = 0) (hc : cpR σ c = some 0) : renV σ (.slice (some ⟨n, o, none⟩) l c) = some (.slice (σ.e n) 0 0) := by
 subst hl
 simp [renV, slR, adR, hn, h, hc]
theorem slR_form {a : Addr} {l c : Nat} {v : Value} (h : slR σ a l c = some v) : ∃ x z, v = .slice x l z := by
 unfold slR at h
 split at h
 ·split at h
  ·split at h
   ·rename_i h0; cases h; rw [h0.1]; exact ⟨_, _, rfl⟩
   ·cases h
  ·split at h
   ·cases h; exact ⟨_, _, rfl⟩
   ·cases h
 ·cases h
theorem Ek {a : Option Addr} {l c : Nat} {v : Value} (h : renV σ (.slice a l c) = some v) : ∃ x z, v = .slice x l z := by
 cases a with
 | none => simp only [renV] at h; cases h; exact ⟨_, _, rfl⟩
 | some a => simp only [renV] at h; exact slR_form h
theorem H8 : ∀ {v v' : Value}, renV σ v = some v' → renL σ v.cells.toList = some v'.cells.toList ∧ v'.oneCell' = v.oneCell' := by
 intro v v' h
 cases v
 case agg c => obtain ⟨c', rfl, h'⟩ := Cq h; exact ⟨h', rfl⟩
 case tuple c => obtain ⟨c', rfl, h'⟩ := Ic h; exact ⟨Bi h rfl, rfl⟩
 case pointer a =>
  refine ⟨?_, ?_⟩
  ·cases v' <;> first | exact Bi h rfl | (exfalso; cases a <;> simp only [renV] at h <;> (try split at h) <;> cases h)
  ·cases a <;> simp only [renV] at h <;> (try split at h) <;> cases h <;> rfl
 case slice a l c =>
  have hf : ∃ x z, v' = .slice x l z := by
   cases a with
   | none => simp only [renV] at h; cases h; exact ⟨_, _, rfl⟩
   | some a => simp only [renV] at h; exact slR_form h
  obtain ⟨x, z, rfl⟩ := hf
  exact ⟨Bi h rfl, rfl⟩
 case func fn f c =>
  refine ⟨?_, ?_⟩
  ·cases v' <;> first | exact Bi h rfl | (exfalso; simp only [renV] at h; (try split at h) <;> cases h)
  ·simp only [renV] at h; (try split at h) <;> cases h <;> rfl
 case iface t x =>
  refine ⟨?_, ?_⟩
  ·cases v' <;> first | exact Bi h rfl | (exfalso; simp only [renV] at h; (try split at h) <;> cases h)
  ·simp only [renV] at h; (try split at h) <;> cases h <;> rfl
 case map r =>
  have h0 := h
  cases r with
  | none => simp only [renV] at h; cases h; exact ⟨Bi (by simp only [renV]) rfl, rfl⟩
  | some n =>
   simp only [renV] at h
   split at h
   ·cases h; exact ⟨Bi h0 rfl, rfl⟩
   ·cases h
 case chan r => cases r <;> simp only [renV] at h <;> cases h; exact ⟨Bi (by simp only [renV]) rfl, rfl⟩
 all_goals (simp only [renV] at h; cases h; exact ⟨Bi (by simp only [renV]) rfl, rfl⟩)
end

inductive DV where
 | fl (v : Value)
 | sl (len : Nat) (cap : Option Nat) (ds : List DV)
mutual
def DR (W w : World) (F : List Nat) : DV → Value → Prop
 | .fl v, u => u = v ∧ ∀ σ, renV σ v = some v
 | .sl len cap ds, u => (len = 0 ∧ ds = [] ∧ (cap = none ∨ cap = some 0) ∧ ∃ a, u = .slice a 0 0) ∨ (∃ b s c, u = .slice (some ⟨b, s, none⟩) len c ∧ (len ≤ c ∧ ∀ k, cap = some k → c = k ∧ len ≤ k ∧ k ≤ 9223372036854775807) ∧ (ds = [] ∨ DRs W w F b s ds))
def DRs (W w : World) (F : List Nat) (b s : Nat) : List DV → Prop
 | [] => b < W.heap.size ∨ b ∈ F
 | d :: ds => (∃ v, ((b < W.heap.size ∧ W.cell? ⟨b, s, none⟩ = some v) ∨ (b ∈ F ∧ w.cell? ⟨b, s, none⟩ = some v)) ∧ DR W w F d v) ∧ DRs W w F b (s + 1) ds
end
def DRv (W w : World) (F : List Nat) : List DV → List Value → Prop
 | [], us => us = []
 | d :: ds, us => ∃ u us', us = u :: us' ∧ DR W w F d u ∧ DRv W w F ds us'
inductive Kd where
 | sd (ds : List DV)
 | dp (size : Nat) (z : List Value) (ds : List DV)
 | df (size : Nat) (z : List Value) (ds : List DV)
 | dw (size : Nat) (z : List Value) (ds : List DV)
 | of
 | ow
 | ox
 | dx (d size : Nat) (z : List Value) (ds : List DV)
 | sw (ds : List DV)
 | shut
 | room (size : Nat) (z : List Value)
 | old
 | lent
 | held (m : Nat)
 | mp (es : List (Value × Value))
 | round (st : LoopState) (pe : Option Code) (tm : List Value) (ps : Array Tmp) (as bd : Code)
 | marks
structure Rw where
 kd : Kd
 cs : List Value
abbrev Hp := List (Nat × Rw)
def lk : Hp → Nat → Option Rw
 | [], _ => none
 | (m, r) :: t, n => bif Nat.beq m n then some r else lk t n
def setH : Hp → Nat → Rw → Hp
 | [], n, r => [(n, r)]
 | (m, s) :: t, n, r => bif Nat.beq m n then (m, r) :: t else (m, s) :: setH t n r
def delH : Hp → Nat → Hp
 | [], _ => []
 | (m, s) :: t, n => bif Nat.beq m n then delH t n else (m, s) :: delH t n
theorem Ca {m n : Nat} (h : m ≠ n) : Nat.beq m n = false := by
 cases hb : Nat.beq m n with
 | false => rfl
 | true => exact absurd (Nat.eq_of_beq_eq_true hb) h
theorem B3 (m : Nat) (r : Rw) (t : Hp) (n : Nat) : lk ((m, r) :: t) n = if m = n then some r else lk t n := by
 simp only [lk]
 by_cases h : m = n
 ·subst h; simp
 ·have : Nat.beq m n = false := Ca h
  simp [this, h]
theorem Bo : ∀ (h : Hp) (n : Nat) (r : Rw) (m : Nat), lk (setH h n r) m = if n = m then some r else lk h m
 | [], n, r, m => by simp only [setH, B3]
 | (k, s) :: t, n, r, m => by
   simp only [setH]
   by_cases h : k = n
   ·subst h
    simp only [Nat.beq_refl, cond_true, B3]
    split <;> rfl
   ·have hb : Nat.beq k n = false := Ca h
    simp only [hb, cond_false, B3, Bo t n r m]
    by_cases h1 : k = m
    ·subst h1; simp [Ne.symm h]
    ·simp [h1]
theorem Bf : ∀ (h : Hp) (n : Nat) (m : Nat), lk (delH h n) m = if n = m then none else lk h m
 | [], n, m => by simp [delH, lk]
 | (k, s) :: t, n, m => by
   simp only [delH]
   by_cases h : k = n
   ·subst h
    simp only [Nat.beq_refl, cond_true, B3, Bf t k m]
    split <;> rfl
   ·have hb : Nat.beq k n = false := Ca h
    simp only [hb, cond_false, B3, Bf t n m]
    by_cases h1 : k = m
    ·subst h1; simp [Ne.symm h]
    ·simp [h1]
inductive ShKd : Kd → Prop
 | old : ShKd .old
 | sd (ds : List DV) : ShKd (.sd ds)
 | of : ShKd .of
 | ow : ShKd .ow
 | ox : ShKd .ox
 | dx (d size : Nat) (z : List Value) (ds : List DV) : ShKd (.dx d size z ds)
 | sw (ds : List DV) : ShKd (.sw ds)
def Rw.own (r : Rw) : Prop := ¬ ShKd r.kd
def I1 : Kd → Bool
 | .shut => true
 | .room _ _ => true
 | _ => false
def Rw.wr (r : Rw) : Prop := I1 r.kd = true
theorem Rw.wr.own {r : Rw} (h : r.wr) : r.own := fun e => by
 obtain ⟨kd, cs⟩ := r
 unfold Rw.wr at h
 simp only at e h
 cases e <;> cases h

def FOk (W w : World) (F : List Nat) : Prop := ∀ k, k ∈ F → W.heap.size ≤ k ∧ ∃ cs t, w.heap[k]? = some (.cells cs t (0, 0))
theorem FOk.keep {W w w1 : World} {F : List Nat} (h : FOk W w F) (hF : ∀ k, k ∈ F → w1.heap[k]? = w.heap[k]?) : FOk W w1 F := fun k hk => by
 obtain ⟨h1, cs, t, h2⟩ := h k hk
 exact ⟨h1, cs, t, by rw [hF k hk]; exact h2⟩
def isU8 (v : Value) : Prop := ∃ n, v = .int .u8 n ∧ 0 ≤ n ∧ n < 256
def Sep (R : Value → List Nat → Prop) : List Value → List Nat → Prop
 | [], E => E = []
 | u :: us, E => ∃ E1 E2, E = E1 ++ E2 ∧ R u E1 ∧ Sep R us E2
def CX (w : World) : Nat → Value → List Nat → Prop
 | 0, u, E => E = [] ∧ isU8 u
 | d + 1, u, E => (E = [] ∧ ∀ σ, renV σ u = some u) ∨ (E = [] ∧ ∃ a, u = .slice a 0 0) ∨ ∃ b len c size t cs E', u = .slice (some ⟨b, 0, none⟩) len c ∧ len ≤ c ∧ c ≤ maxLen ∧ w.heap[b]? = some (.cells cs.toArray t (0, 0)) ∧ cs.length = c * size ∧ (d = 0 → size = 1) ∧ E = b :: E' ∧ Sep (CX w d) cs E'
def KdOk (W : World) (σ : Sg) (w : World) (n b s : Nat) (vs : List Value) : Kd → Prop
 | .old => vs = [] ∨ (b < W.heap.size ∧ ∀ j v, vs[j]? = some v → W.cell? ⟨b, s + j, none⟩ = some v) ∨ (b ∈ sh σ n ∧ ∀ j v, vs[j]? = some v → w.cell? ⟨b, s + j, none⟩ = some v)
 | .sd ds => vs = [] ∧ (ds = [] ∨ DRs W w (sh σ n) b s ds)
 | .dp size z ds => s = 0 ∧ W.heap.size ≤ b ∧ vs = [] ∧ ∃ us t rest c, σ.c n = some c ∧ w.heap[b]? = some (.cells (us ++ rest).toArray t (0, 0)) ∧ (us ++ rest).length = c * size ∧ c ≤ maxLen ∧ (∀ x ∈ rest, x ∈ z) ∧ DRv W w (sh σ n) ds us
 | .df size z ds => FOk W w (sh σ n) ∧ s = 0 ∧ W.heap.size ≤ b ∧ vs = [] ∧ ∃ us t rest c, σ.c n = some c ∧ w.heap[b]? = some (.cells (us ++ rest).toArray t (0, 0)) ∧ (us ++ rest).length = c * size ∧ c ≤ maxLen ∧ (∀ x ∈ rest, x ∈ z) ∧ ∀ V, DRv V w (sh σ n) ds us
 | .dw size z ds => sh σ n = [] ∧ s = 0 ∧ W.heap.size ≤ b ∧ vs = [] ∧ ∃ us t rest c, σ.c n = some c ∧ w.heap[b]? = some (.cells (us ++ rest).toArray t (0, 0)) ∧ (us ++ rest).length = c * size ∧ c ≤ maxLen ∧ (∀ x ∈ rest, x ∈ z) ∧ DRv W w [] ds us
 | .of => FOk W w (sh σ n) ∧ (vs = [] ∨ (b ∈ sh σ n ∧ ∀ j v, vs[j]? = some v → w.cell? ⟨b, s + j, none⟩ = some v))
 | .ow => sh σ n = [] ∧ (vs = [] ∨ (b < W.heap.size ∧ ∀ j v, vs[j]? = some v → W.cell? ⟨b, s + j, none⟩ = some v))
 | .sw ds => sh σ n = [] ∧ vs = [] ∧ (ds = [] ∨ DRs W w [] b s ds)
 | .ox => (σ.f n = none ∧ vs = []) ∨ (s = 0 ∧ W.heap.size ≤ b ∧ ex σ n = [b] ∧ ∃ t rest c, σ.c n = some c ∧ w.heap[b]? = some (.cells (vs ++ rest).toArray t (0, 0)) ∧ (vs ++ rest).length = c ∧ c ≤ maxLen ∧ ∀ x ∈ vs ++ rest, isU8 x)
 | .dx d size z ds => s = 0 ∧ vs = [] ∧ (∀ k ∈ ex σ n, W.heap.size ≤ k) ∧ (ex σ n).Nodup ∧ ∃ us t rest c E, σ.c n = some c ∧ w.heap[b]? = some (.cells (us ++ rest).toArray t (0, 0)) ∧ (us ++ rest).length = c * size ∧ c ≤ maxLen ∧ (∀ x ∈ rest, x ∈ z) ∧ ex σ n = b :: E ∧ Sep (CX w d) us E ∧ ∀ V, DRv V w E ds us
 | .shut => s = 0 ∧ W.heap.size ≤ b ∧ ∃ t, w.heap[b]? = some (.cells vs.toArray t (0, 0))
 | .lent => s = 0 ∧ W.heap.size ≤ b ∧ ∃ t rest fr, w.heap[b]? = some (.cells (vs ++ rest).toArray t fr)
 | .held m => s = 0 ∧ W.heap.size ≤ b ∧ ∃ t rest fr c, σ.c n = some c ∧ w.heap[b]? = some (.cells (vs ++ rest).toArray t fr) ∧ m ≤ c ∧ c ≤ maxLen
 | .mp es => s = 0 ∧ W.heap.size ≤ b ∧ vs = [] ∧ ∃ A k, w.heap[b]? = some (.map A k) ∧ A.toList.map (fun e => (e.key, e.val)) = es
 | .room size z => s = 0 ∧ W.heap.size ≤ b ∧ ∃ t rest c, σ.c n = some c ∧ w.heap[b]? = some (.cells (vs ++ rest).toArray t (0, 0)) ∧ (vs ++ rest).length = c * size ∧ c ≤ maxLen ∧ ∀ x ∈ rest, x ∈ z
 | .round st pe tm ps as bd => s = 0 ∧ W.heap.size ≤ b ∧ vs = [] ∧ ∃ fn D tv, renL σ tm = some tv ∧ w.heap[b]? = some (.loop { state := st, pending := pe, fn := fn, tmps := tv.toArray, params := ps, assign := as, body := bd, defers := D })
 | .marks => s = 0 ∧ W.heap.size ≤ b ∧ vs = [] ∧ w.heap[b]? = some (.deferred (some []))
def RowOk (W : World) (σ : Sg) (w : World) (n : Nat) (r : Rw) : Prop := ∃ b s vs, σ.b n = some (b, s) ∧ renL σ r.cs = some vs ∧ KdOk W σ w n b s vs r.kd

structure Rl0 (W : World) (σ : Sg) (h : Hp) (w : World) : Prop where
 ext : Ext W w
 row : ∀ n r, lk h n = some r → RowOk W σ w n r
 inj : ∀ n m r s p q, lk h n = some r → lk h m = some s → r.own → s.own → σ.b n = some p → σ.b m = some q → p.1 = q.1 → n = m
def Shr (σ : Sg) (h : Hp) (w : World) : Prop := (∀ n r, lk h n = some r → r.own → σ.f n ≠ none) ∧ (∀ n r k, lk h n = some r → k ∈ sh σ n → k < w.heap.size ∧ ∀ m s q, lk h m = some s → s.own → σ.b m = some q → q.1 ≠ k) ∧
 ∀ n r k, lk h n = some r → k ∈ ex σ n → k < w.heap.size ∧ (∀ m s q, lk h m = some s → s.own → σ.b m = some q → q.1 ≠ k) ∧ ∀ m s, lk h m = some s → k ∉ sh σ m ∧ (k ∈ ex σ m → m = n)
structure Rl (W : World) (σ : Sg) (h : Hp) (w : World) : Prop extends Rl0 W σ h w where
 wf : σ.w = true
 shr : Shr σ h w
def SrcO (σ : Sg) (h : Hp) (w : World) (σ' : Sg) (h' : Hp) : Prop := ∀ n r p, lk h' n = some r → r.own → σ'.b n = some p → w.heap.size ≤ p.1 ∨ ∃ m s q, lk h m = some s ∧ s.own ∧ σ.b m = some q ∧ q.1 = p.1
def SrcS (σ : Sg) (h : Hp) (w : World) (σ' : Sg) (h' : Hp) : Prop := ∀ n r k, lk h' n = some r → k ∈ sh σ' n → w.heap.size ≤ k ∨ (∃ m s q, lk h m = some s ∧ s.own ∧ σ.b m = some q ∧ q.1 = k) ∨ ∃ m s, lk h m = some s ∧ k ∈ sh σ m
def SrcX (σ : Sg) (h : Hp) (w : World) (σ' : Sg) (h' : Hp) : Prop := ∀ n r k, lk h' n = some r → k ∈ ex σ' n → w.heap.size ≤ k ∨ (∃ m s q, lk h m = some s ∧ s.own ∧ σ.b m = some q ∧ q.1 = k) ∨ ∃ m s, lk h m = some s ∧ k ∈ ex σ m
structure Stp0 (W : World) (lo hi : Nat) (σ : Sg) (h : Hp) (w : World) (σ' : Sg) (h' : Hp) (w' : World) : Prop where
 le : σ.le σ'
 only : ∀ n, (n < lo ∨ hi ≤ n) → σ'.b n = σ.b n ∧ σ'.c n = σ.c n
 rl : Rl0 W σ' h' w'
 size : w.heap.size ≤ w'.heap.size
 fr : ∀ b, b < w.heap.size → (∀ n r p, lk h n = some r → r.own → σ.b n = some p → p.1 ≠ b) → (∀ n r, lk h n = some r → b ∉ ex σ n) → w'.heap[b]? = w.heap[b]?
 src : ∀ n r p, lk h' n = some r → r.own → σ'.b n = some p → w.heap.size ≤ p.1 ∨ ∃ m s q, lk h m = some s ∧ s.own ∧ σ.b m = some q ∧ q.1 = p.1
structure Stp (W : World) (lo hi : Nat) (σ : Sg) (h : Hp) (w : World) (σ' : Sg) (h' : Hp) (w' : World) : Prop where
 le : σ.le σ'
 only : ∀ n, (n < lo ∨ hi ≤ n) → σ'.b n = σ.b n ∧ σ'.c n = σ.c n
 rl : Rl W σ' h' w'
 size : w.heap.size ≤ w'.heap.size
 fr : ∀ b, b < w.heap.size → (∀ n r p, lk h n = some r → r.own → σ.b n = some p → p.1 ≠ b) → (∀ n r, lk h n = some r → b ∉ ex σ n) → w'.heap[b]? = w.heap[b]?
 src : ∀ n r p, lk h' n = some r → r.own → σ'.b n = some p → w.heap.size ≤ p.1 ∨ ∃ m s q, lk h m = some s ∧ s.own ∧ σ.b m = some q ∧ q.1 = p.1
 ssrc : SrcS σ h w σ' h'
 xsrc : SrcX σ h w σ' h'
def Up (σ : Sg) (h : Hp) (τ : Sg) (h' : Hp) : Prop := ∀ n r, lk h' n = some r → (r.own → τ.f n ≠ none) ∧ (∀ k, k ∈ sh τ n → ∃ m s, lk h m = some s ∧ k ∈ sh σ m) ∧ ∀ k, k ∈ ex τ n → ∃ s, lk h n = some s ∧ k ∈ ex σ n
theorem Shr.of {σ τ : Sg} {h h' : Hp} {w w' : World} (hS : Shr σ h w) (hz : w.heap.size ≤ w'.heap.size) (hO : SrcO σ h w τ h') (hX : Up σ h τ h') : Shr τ h' w' := by
 refine ⟨fun n r hn ho => (hX n r hn).1 ho, fun n r k hn hk => ?_, fun n r k hn hk => ?_⟩
 ·obtain ⟨m, s, hm, hk'⟩ := (hX n r hn).2.1 k hk
  obtain ⟨h1, h2⟩ := hS.2.1 m s k hm hk'
  refine ⟨Nat.lt_of_lt_of_le h1 hz, fun m' s' q hm' hs' hq e => ?_⟩
  rcases hO m' s' q hm' hs' hq with h3 | ⟨m0, s0, q0, h4, h5, h6, h7⟩
  ·omega
  ·exact h2 m0 s0 q0 h4 h5 h6 (h7.trans e)
 ·obtain ⟨s, hm, hk'⟩ := (hX n r hn).2.2 k hk
  obtain ⟨h1, h2, h3⟩ := hS.2.2 n s k hm hk'
  refine ⟨Nat.lt_of_lt_of_le h1 hz, fun m' s' q hm' hs' hq e => ?_, fun m' s' hm' => ⟨fun hk2 => ?_, fun hk2 => ?_⟩⟩
  ·rcases hO m' s' q hm' hs' hq with h4 | ⟨m0, s0, q0, h4, h5, h6, h7⟩
   ·omega
   ·exact h2 m0 s0 q0 h4 h5 h6 (h7.trans e)
  ·obtain ⟨m0, s0, g1, g2⟩ := (hX m' s' hm').2.1 k hk2
   exact (h3 m0 s0 g1).1 g2
  ·obtain ⟨s0, g1, g2⟩ := (hX m' s' hm').2.2 k hk2
   exact (h3 m' s0 g1).2 g2
theorem Stp0.up {W : World} {lo hi : Nat} {σ : Sg} {h : Hp} {w : World} {σ' : Sg} {h' : Hp} {w' : World} (S : Stp0 W lo hi σ h w σ' h' w') (hR : Shr σ h w) (hw : σ'.w = true) (hX : Up σ h σ' h') : Stp W lo hi σ h w σ' h' w' :=
 ⟨S.le, S.only, ⟨S.rl, hw, hR.of S.size S.src hX⟩, S.size, S.fr, S.src, fun n r k h1 h2 => .inr (.inr ((hX n r h1).2.1 k h2)), fun n r k h1 h2 => .inr (.inr (let ⟨s, g1, g2⟩ := (hX n r h1).2.2 k h2; ⟨n, s, g1, g2⟩))⟩
theorem Shr.sub {σ : Sg} {h h' : Hp} {w : World} (hS : Shr σ h w) (hs : ∀ n r, lk h' n = some r → ∃ s, lk h n = some s ∧ (r.own → s.own)) : Up σ h σ h' := fun n r hn => by
 obtain ⟨s, h1, h2⟩ := hs n r hn
 exact ⟨fun ho => hS.1 n s h1 (h2 ho), fun k hk => ⟨n, s, h1, hk⟩, fun k hk => ⟨s, h1, hk⟩⟩
theorem Exc.of {σ τ : Sg} {h h' : Hp} {w w' : World} (hS : Shr σ h w) (hz : w.heap.size ≤ w'.heap.size) (hO : SrcO σ h w τ h') (hQ : SrcS σ h w τ h') (hX : ∀ n r, lk h' n = some r → ∀ k, k ∈ ex τ n → ∃ m s, lk h m = some s ∧ k ∈ ex σ m ∧ ∀ n' r', lk h' n' = some r' → ∀ m' s', lk h m' = some s' → k ∈ ex τ n' → k ∈ ex σ m' → m = m' → n' = n)
  (hY : ∀ n r, lk h' n = some r → ∀ k, k ∈ ex τ n → ∃ m s, lk h m = some s ∧ k ∈ ex σ m) : ∀ n r k, lk h' n = some r → k ∈ ex τ n → k < w'.heap.size ∧ (∀ m s q, lk h' m = some s → s.own → τ.b m = some q → q.1 ≠ k) ∧ ∀ m s, lk h' m = some s → k ∉ sh τ m ∧ (k ∈ ex τ m → m = n) := fun n r k hn hk => by
 obtain ⟨m0, s0, g1, g2, g3⟩ := hX n r hn k hk
 obtain ⟨x1, x2, x3⟩ := hS.2.2 m0 s0 k g1 g2
 refine ⟨Nat.lt_of_lt_of_le x1 hz, fun m s q hm hs hq e => ?_, fun m s hm => ⟨fun hk2 => ?_, fun hk2 => ?_⟩⟩
 ·rcases hO m s q hm hs hq with h1 | ⟨m1, s1, q1, h1, h2, h3, h4⟩
  ·omega
  ·exact x2 m1 s1 q1 h1 h2 h3 (h4.trans e)
 ·rcases hQ m s k hm hk2 with h1 | ⟨m1, s1, q1, h1, h2, h3, h4⟩ | ⟨m1, s1, h1, h2⟩
  ·omega
  ·exact x2 m1 s1 q1 h1 h2 h3 h4
  ·exact (x3 m1 s1 h1).1 h2
 ·obtain ⟨m1, s1, h1, h2⟩ := hY m s hm k hk2
  exact g3 m s hm m1 s1 h1 hk2 h2 ((x3 m1 s1 h1).2 h2).symm
theorem Exc.same {σ τ : Sg} {h h' : Hp} {w w' : World} (hS : Shr σ h w) (hz : w.heap.size ≤ w'.heap.size) (hO : SrcO σ h w τ h') (hQ : SrcS σ h w τ h') (hX : ∀ n r, lk h' n = some r → ∀ k, k ∈ ex τ n → ∃ s, lk h n = some s ∧ k ∈ ex σ n) : ∀ n r k, lk h' n = some r → k ∈ ex τ n → k < w'.heap.size ∧ (∀ m s q, lk h' m = some s → s.own → τ.b m = some q → q.1 ≠ k) ∧ ∀ m s, lk h' m = some s → k ∉ sh τ m ∧ (k ∈ ex τ m → m = n) :=
 Exc.of hS hz hO hQ (fun n r hn k hk => let ⟨s, h1, h2⟩ := hX n r hn k hk; ⟨n, s, h1, h2, fun n' r' hn' m' s' hm' hk' hk2 e => by
  obtain ⟨s1, h3, h4⟩ := hX n' r' hn' k hk'
  exact ((hS.2.2 n s k h1 h2).2.2 n' s1 h3).2 h4⟩) fun n r hn k hk => let ⟨s, h1, h2⟩ := hX n r hn k hk; ⟨n, s, h1, h2⟩
def Fresh (σ : Sg) (lo hi : Nat) : Prop := ∀ n, lo ≤ n → n < hi → σ.b n = none ∧ σ.c n = none

section
variable {W : World} {lo mid hi : Nat} {σ τ υ : Sg} {h h1 h2 : Hp} {w w1 w2 : World}
theorem Stp.refl (hR : Rl W σ h w) (lo : Nat) : Stp W lo lo σ h w σ h w :=
 ⟨Sg.le.refl σ, fun _ _ => ⟨rfl, rfl⟩, hR, Nat.le_refl _, fun _ _ _ _ => rfl, fun n r p hl ho hb => .inr ⟨n, r, p, hl, ho, hb, rfl⟩, fun n r k hl hk => .inr (.inr ⟨n, r, hl, hk⟩), fun n r k hl hk => .inr (.inr ⟨n, r, hl, hk⟩)⟩
theorem Stp.trans (a : Stp W lo mid σ h w τ h1 w1) (b : Stp W mid hi τ h1 w1 υ h2 w2) (hlm : lo ≤ mid) (hmh : mid ≤ hi) : Stp W lo hi σ h w υ h2 w2 where
 le := a.le.trans b.le
 only n hn := by
  have e1 := a.only n (by omega)
  have e2 := b.only n (by omega)
  exact ⟨e2.1.trans e1.1, e2.2.trans e1.2⟩
 rl := b.rl
 size := Nat.le_trans a.size b.size
 fr k hk hno hnx := by
  rw [b.fr k (Nat.lt_of_lt_of_le hk a.size) ?_ ?_, a.fr k hk hno hnx]
  ·intro n r p hl ho hb e
   rcases a.src n r p hl ho hb with hge | ⟨m, s, q, hm, hs, hq, e2⟩
   ·omega
   ·exact hno m s q hm hs hq (e2.trans e)
  ·intro n r hl e
   rcases a.xsrc n r k hl e with hge | ⟨m, s, q, hm, hs, hq, e2⟩ | ⟨m, s, hm, e2⟩
   ·omega
   ·exact hno m s q hm hs hq e2
   ·exact hnx m s hm e2
 src n r p hl ho hb := by
  rcases b.src n r p hl ho hb with hge | ⟨m, s, q, hm, hs, hq, e2⟩
  ·exact .inl (Nat.le_trans a.size hge)
  ·rcases a.src m s q hm hs hq with hge | ⟨m', s', q', hm', hs', hq', e3⟩
   ·exact .inl (by omega)
   ·exact .inr ⟨m', s', q', hm', hs', hq', e3.trans e2⟩
 ssrc n r k hl hk := by
  rcases b.ssrc n r k hl hk with hge | ⟨m, s, q, hm, hs, hq, e2⟩ | ⟨m, s, hm, hk'⟩
  ·exact .inl (Nat.le_trans a.size hge)
  ·rcases a.src m s q hm hs hq with hge | ⟨m', s', q', hm', hs', hq', e3⟩
   ·exact .inl (by omega)
   ·exact .inr (.inl ⟨m', s', q', hm', hs', hq', e3.trans e2⟩)
  ·exact a.ssrc m s k hm hk'
 xsrc n r k hl hk := by
  rcases b.xsrc n r k hl hk with hge | ⟨m, s, q, hm, hs, hq, e2⟩ | ⟨m, s, hm, hk'⟩
  ·exact .inl (Nat.le_trans a.size hge)
  ·rcases a.src m s q hm hs hq with hge | ⟨m', s', q', hm', hs', hq', e3⟩
   ·exact .inl (by omega)
   ·exact .inr (.inl ⟨m', s', q', hm', hs', hq', e3.trans e2⟩)
  ·exact a.xsrc m s k hm hk'
theorem Fresh.next (hf : Fresh σ lo hi) (a : Stp W lo mid σ h w τ h1 w1) (hlm : lo ≤ mid) : Fresh τ mid hi := fun n h1 h2 => by
 have e := a.only n (.inr h1)
 have f := hf n (by omega) h2
 exact ⟨e.1.trans f.1, e.2.trans f.2⟩
theorem Fresh.low (hf : Fresh σ lo hi) (h : mid ≤ hi) : Fresh σ lo mid := fun n a b => hf n a (Nat.lt_of_lt_of_le b h)
theorem Rl.lt (hR : Rl W σ h w) {n : Nat} {r : Rw} {p : Nat × Nat} (hl : lk h n = some r) (ho : r.own) (hb : σ.b n = some p) : p.1 < w.heap.size := by
 obtain ⟨b, s, vs, hb', _, hk⟩ := hR.row n r hl
 rw [hb] at hb'
 obtain rfl : p = (b, s) := by simpa using hb'
 obtain ⟨kd, cs⟩ := r
 cases kd with
 | old => exact (ho .old).elim
 | sd ds => exact (ho (.sd ds)).elim
 | of => exact (ho .of).elim
 | ow => exact (ho .ow).elim
 | ox => exact (ho .ox).elim
 | dx d sz zz ds => exact (ho (.dx d sz zz ds)).elim
 | sw ds => exact (ho (.sw ds)).elim
 | dp sz zz ds =>
  obtain ⟨_, _, _, us, t, rest, c, _, e, _⟩ := hk
  rcases Nat.lt_or_ge b w.heap.size with h | h
  ·exact h
  ·rw [Array.getElem?_eq_none h] at e; cases e
 | df sz zz ds =>
  obtain ⟨_, _, _, _, us, t, rest, c, _, e, _⟩ := hk
  rcases Nat.lt_or_ge b w.heap.size with h | h
  ·exact h
  ·rw [Array.getElem?_eq_none h] at e; cases e
 | dw sz zz ds =>
  obtain ⟨_, _, _, _, us, t, rest, c, _, e, _⟩ := hk
  rcases Nat.lt_or_ge b w.heap.size with h | h
  ·exact h
  ·rw [Array.getElem?_eq_none h] at e; cases e
 | shut =>
  obtain ⟨_, _, t, e⟩ := hk
  rcases Nat.lt_or_ge b w.heap.size with h | h
  ·exact h
  ·rw [Array.getElem?_eq_none h] at e; cases e
 | lent =>
  obtain ⟨_, _, t, rest, fr, e⟩ := hk
  rcases Nat.lt_or_ge b w.heap.size with h | h
  ·exact h
  ·rw [Array.getElem?_eq_none h] at e; cases e
 | held m =>
  obtain ⟨_, _, t, rest, fr, c, _, e, _⟩ := hk
  rcases Nat.lt_or_ge b w.heap.size with h | h
  ·exact h
  ·rw [Array.getElem?_eq_none h] at e; cases e
 | room sz zz =>
  obtain ⟨_, _, t, rest, c, _, e, _⟩ := hk
  rcases Nat.lt_or_ge b w.heap.size with h | h
  ·exact h
  ·rw [Array.getElem?_eq_none h] at e; cases e
 | round st pe tm ps as bd =>
  obtain ⟨_, _, _, fn, D, tv, _, e⟩ := hk
  rcases Nat.lt_or_ge b w.heap.size with h | h
  ·exact h
  ·rw [Array.getElem?_eq_none h] at e; cases e
 | marks =>
  obtain ⟨_, _, _, e⟩ := hk
  rcases Nat.lt_or_ge b w.heap.size with h | h
  ·exact h
  ·rw [Array.getElem?_eq_none h] at e; cases e
 | mp es =>
  obtain ⟨_, _, _, A, k, e, _⟩ := hk
  rcases Nat.lt_or_ge b w.heap.size with h | h
  ·exact h
  ·rw [Array.getElem?_eq_none h] at e; cases e
theorem Rl.ge (hR : Rl W σ h w) {n : Nat} {r : Rw} {p : Nat × Nat} (hl : lk h n = some r) (ho : r.own) (hb : σ.b n = some p) : W.heap.size ≤ p.1 ∧ p.2 = 0 := by
 obtain ⟨b, s, vs, hb', _, hk⟩ := hR.row n r hl
 rw [hb] at hb'
 obtain rfl : p = (b, s) := by simpa using hb'
 obtain ⟨kd, cs⟩ := r
 cases kd with
 | old => exact (ho .old).elim
 | sd ds => exact (ho (.sd ds)).elim
 | of => exact (ho .of).elim
 | ow => exact (ho .ow).elim
 | ox => exact (ho .ox).elim
 | dx d sz zz ds => exact (ho (.dx d sz zz ds)).elim
 | sw ds => exact (ho (.sw ds)).elim
 | dp sz zz ds => exact ⟨hk.2.1, hk.1⟩
 | df sz zz ds => exact ⟨hk.2.2.1, hk.2.1⟩
 | dw sz zz ds => exact ⟨hk.2.2.1, hk.2.1⟩
 | shut => exact ⟨hk.2.1, hk.1⟩
 | lent => exact ⟨hk.2.1, hk.1⟩
 | held m => exact ⟨hk.2.1, hk.1⟩
 | room sz zz => exact ⟨hk.2.1, hk.1⟩
 | round st pe tm ps as bd => exact ⟨hk.2.1, hk.1⟩
 | marks => exact ⟨hk.2.1, hk.1⟩
 | mp es => exact ⟨hk.2.1, hk.1⟩
theorem Rl.cell (hR : Rl W σ h w) {n : Nat} {r : Rw} (hl : lk h n = some r) : ∃ p vs, σ.b n = some p ∧ renL σ r.cs = some vs ∧ ∀ j v, vs[j]? = some v → w.cell? ⟨p.1, p.2 + j, none⟩ = some v := by
 obtain ⟨b, s, vs, hb, hv, hk⟩ := hR.row n r hl
 refine ⟨(b, s), vs, hb, hv, fun j v hj => ?_⟩
 obtain ⟨kd, cs⟩ := r
 cases kd with
 | old =>
  rcases hk with rfl | ⟨h1, h2⟩ | ⟨_, h2⟩
  ·simp at hj
  ·exact (hR.ext.cell b (s + j) h1).trans (h2 j v hj)
  ·exact h2 j v hj
 | sd ds => obtain ⟨rfl, _⟩ := hk; simp at hj
 | dp sz zz ds => obtain ⟨_, _, rfl, _⟩ := hk; simp at hj
 | df sz zz ds => obtain ⟨_, _, _, rfl, _⟩ := hk; simp at hj
 | dw sz zz ds => obtain ⟨_, _, _, rfl, _⟩ := hk; simp at hj
 | sw ds => obtain ⟨_, rfl, _⟩ := hk; simp at hj
 | ow =>
  obtain ⟨_, rfl | ⟨h1, h2⟩⟩ := hk
  ·simp at hj
  ·exact (hR.ext.cell b (s + j) h1).trans (h2 j v hj)
 | ox =>
  rcases hk with ⟨_, rfl⟩ | ⟨rfl, _, _, t, rest, c, _, e, _⟩
  ·simp at hj
  ·show w.cell? ⟨b, 0 + j, none⟩ = some v
   rw [cell_of_row w b (0 + j) _ t _ e]
   have hj2 : (vs ++ rest)[j]? = some v := by rw [List.getElem?_append_left (List.getElem?_eq_some_iff.1 hj).1]; exact hj
   simpa using hj2
 | dx d sz zz ds => obtain ⟨_, rfl, _⟩ := hk; simp at hj
 | of =>
  obtain ⟨_, rfl | ⟨_, h2⟩⟩ := hk
  ·simp at hj
  ·exact h2 j v hj
 | shut =>
  obtain ⟨rfl, _, t, e⟩ := hk
  have hj' : vs[0 + j]? = some v := by rw [Nat.zero_add]; exact hj
  show w.cell? ⟨b, 0 + j, none⟩ = some v
  rw [cell_of_row w b (0 + j) _ t _ e]
  simpa using hj'
 | lent =>
  obtain ⟨rfl, _, t, rest, fr, e⟩ := hk
  show w.cell? ⟨b, 0 + j, none⟩ = some v
  rw [cell_of_row w b (0 + j) _ t _ e]
  have hj2 : (vs ++ rest)[j]? = some v := by rw [List.getElem?_append_left (List.getElem?_eq_some_iff.1 hj).1]; exact hj
  simpa using hj2
 | held m =>
  obtain ⟨rfl, _, t, rest, fr, c, _, e, _⟩ := hk
  show w.cell? ⟨b, 0 + j, none⟩ = some v
  rw [cell_of_row w b (0 + j) _ t _ e]
  have hj2 : (vs ++ rest)[j]? = some v := by rw [List.getElem?_append_left (List.getElem?_eq_some_iff.1 hj).1]; exact hj
  simpa using hj2
 | room sz zz =>
  obtain ⟨rfl, _, t, rest, c, _, e, _⟩ := hk
  show w.cell? ⟨b, 0 + j, none⟩ = some v
  rw [cell_of_row w b (0 + j) _ t _ e]
  have hj2 : (vs ++ rest)[j]? = some v := by rw [List.getElem?_append_left (List.getElem?_eq_some_iff.1 hj).1]; exact hj
  simpa using hj2
 | round st pe tm ps as bd => obtain ⟨_, _, rfl, _⟩ := hk; simp at hj
 | marks => obtain ⟨_, _, rfl, _⟩ := hk; simp at hj
 | mp es => obtain ⟨_, _, rfl, _⟩ := hk; simp at hj
theorem Rl.free (hR : Rl W σ h w) {n : Nat} {r : Rw} (hl : lk h n = some r) (ho : r.wr) {p : Nat × Nat} (hb : σ.b n = some p) (j : Nat) : w.frozen? ⟨p.1, j, none⟩ = false := by
 obtain ⟨b, s, vs, hb', _, hk⟩ := hR.row n r hl
 rw [hb] at hb'
 obtain rfl : p = (b, s) := by simpa using hb'
 obtain ⟨kd, cs⟩ := r
 cases kd with
 | old => cases ho
 | sd ds => cases ho
 | dp sz zz ds => cases ho
 | df sz zz ds => cases ho
 | dw sz zz ds => cases ho
 | of => cases ho
 | ow => cases ho
 | ox => cases ho
 | dx d sz zz ds => cases ho
 | sw ds => cases ho
 | lent => cases ho
 | held m => cases ho
 | round st pe tm ps as bd => cases ho
 | marks => cases ho
 | mp es => cases ho
 | shut => obtain ⟨_, _, t, e⟩ := hk; exact frozen_of_row w b j _ t e
 | room sz zz => obtain ⟨_, _, t, rest, c, _, e, _⟩ := hk; exact frozen_of_row w b j _ t e
theorem Shr.less (hR : Shr σ h w) (hs : ∀ n r, lk h1 n = some r → lk h n = some r) : Shr σ h1 w := ⟨fun n r hn => hR.1 n r (hs _ _ hn), fun n r k hn hk =>
 ⟨(hR.2.1 n r k (hs _ _ hn) hk).1, fun m s q hm => (hR.2.1 n r k (hs _ _ hn) hk).2 m s q (hs _ _ hm)⟩, fun n r k hn hk =>
 ⟨(hR.2.2 n r k (hs _ _ hn) hk).1, fun m s q hm => (hR.2.2 n r k (hs _ _ hn) hk).2.1 m s q (hs _ _ hm), fun m s hm => (hR.2.2 n r k (hs _ _ hn) hk).2.2 m s (hs _ _ hm)⟩⟩
theorem Rl.less (hR : Rl W σ h w) (hs : ∀ n r, lk h1 n = some r → lk h n = some r) : Rl W σ h1 w :=
 ⟨⟨hR.ext, fun n r hl => hR.row n r (hs n r hl), fun n m r s p q a b c d e f g => hR.inj n m r s p q (hs _ _ a) (hs _ _ b) c d e f g⟩, hR.wf, hR.shr.less hs⟩
theorem Stp.less (a : Stp W lo hi σ h w τ h1 w1) (hs : ∀ n r, lk h2 n = some r → lk h1 n = some r) : Stp W lo hi σ h w τ h2 w1 :=
 ⟨a.le, a.only, a.rl.less hs, a.size, a.fr, fun n r p hl => a.src n r p (hs n r hl), fun n r k hl => a.ssrc n r k (hs n r hl), fun n r k hl => a.xsrc n r k (hs n r hl)⟩
theorem Lk {w w1 : World} {b j : Nat} (h : w1.heap[b]? = w.heap[b]?) : w1.cell? ⟨b, j, none⟩ = w.cell? ⟨b, j, none⟩ := by
 simp only [World.cell?, h]
mutual
theorem DR.keep {F : List Nat} (hF : ∀ k, k ∈ F → w1.heap[k]? = w.heap[k]?) : ∀ (d : DV) (u : Value), DR W w F d u → DR W w1 F d u
 | .fl v, u, hd => by simp only [DR] at hd ⊢; exact hd
 | .sl len cap ds, u, hd => by
   simp only [DR] at hd ⊢
   rcases hd with hd | ⟨b, s, c, h2, h5, h6⟩
   ·exact .inl hd
   ·exact .inr ⟨b, s, c, h2, h5, h6.imp (fun e => e) fun e => DRs.keep hF ds b s e⟩
theorem DRs.keep {F : List Nat} (hF : ∀ k, k ∈ F → w1.heap[k]? = w.heap[k]?) : ∀ (ds : List DV) (b s : Nat), DRs W w F b s ds → DRs W w1 F b s ds
 | [], b, s, hd => by simp only [DRs] at hd ⊢; exact hd
 | d :: ds, b, s, hd => by
   simp only [DRs] at hd ⊢
   obtain ⟨⟨v, h1, h2⟩, h3⟩ := hd
   refine ⟨⟨v, ?_, DR.keep hF d v h2⟩, DRs.keep hF ds b (s + 1) h3⟩
   rcases h1 with h1 | ⟨h1, h4⟩
   ·exact .inl h1
   ·exact .inr ⟨h1, by rw [Lk (hF b h1)]; exact h4⟩
end
theorem DRv.keep {F : List Nat} (hF : ∀ k, k ∈ F → w1.heap[k]? = w.heap[k]?) : ∀ (ds : List DV) (us : List Value), DRv W w F ds us → DRv W w1 F ds us
 | [], us, hd => hd
 | d :: ds, us, hd => by
   obtain ⟨u, us', h1, h2, h3⟩ := hd
   exact ⟨u, us', h1, DR.keep hF d u h2, DRv.keep hF ds us' h3⟩
theorem Sep.keep {R R' : Value → List Nat → Prop} : ∀ {us : List Value} {E : List Nat}, Sep R us E → (∀ u E', (∀ k, k ∈ E' → k ∈ E) → R u E' → R' u E') → Sep R' us E
 | [], E, h, _ => h
 | u :: us, E, h, H => by
   obtain ⟨E1, E2, rfl, h1, h2⟩ := h
   exact ⟨E1, E2, rfl, H u E1 (fun k hk => List.mem_append_left _ hk) h1, h2.keep fun u' E' hE hr => H u' E' (fun k hk => List.mem_append_right _ (hE k hk)) hr⟩
theorem CX.keep : ∀ {d : Nat} {u : Value} {E : List Nat}, CX w d u E → (∀ k, k ∈ E → w1.heap[k]? = w.heap[k]?) → CX w1 d u E
 | 0, u, E, h, _ => h
 | d + 1, u, E, h, hE => by
   rcases h with h | h | ⟨b, len, c, size, t, cs, E', h1, h2, h3, h4, h5, h6, rfl, h7⟩
   ·exact .inl h
   ·exact .inr (.inl h)
   ·exact .inr (.inr ⟨b, len, c, size, t, cs, E', h1, h2, h3, by rw [hE b (by simp)]; exact h4, h5, h6, rfl, h7.keep fun u' E2 hE2 hr => CX.keep hr fun k hk => hE k (by simp [hE2 k hk])⟩)
theorem KdOk.keep {n b s : Nat} {vs : List Value} {kd : Kd} (hk : KdOk W σ w n b s vs kd) (hle : σ.le τ) (hff : τ.f n = σ.f n) (hw : ¬ ShKd kd → w1.heap[b]? = w.heap[b]?) (hs : ∀ k, k ∈ sh σ n → w1.heap[k]? = w.heap[k]?) (hx : ∀ k, k ∈ ex σ n → w1.heap[k]? = w.heap[k]?) : KdOk W τ w1 n b s vs kd := by
 have hf : sh τ n = sh σ n := by unfold sh; rw [hff]
 have hxx : ex τ n = ex σ n := by unfold ex; rw [hff]
 cases kd with
 | old =>
  rcases hk with h1 | h1 | ⟨h1, h2⟩
  ·exact .inl h1
  ·exact .inr (.inl h1)
  ·exact .inr (.inr ⟨by rw [hf]; exact h1, fun j v hj => by rw [Lk (hs b h1)]; exact h2 j v hj⟩)
 | sd ds => exact ⟨hk.1, hk.2.imp (fun h => h) fun h => by rw [hf]; exact DRs.keep hs ds b s h⟩
 | of => exact ⟨by rw [hf]; exact hk.1.keep hs, hk.2.imp (fun e => e) fun ⟨h1, h2⟩ => ⟨by rw [hf]; exact h1, fun j v hj => by rw [Lk (hs b h1)]; exact h2 j v hj⟩⟩
 | ow => exact ⟨hf.trans hk.1, hk.2⟩
 | ox =>
  rcases hk with ⟨h1, h2⟩ | ⟨h1, h2, h3, t, rest, c, hc, e, h4⟩
  ·exact .inl ⟨hff.trans h1, h2⟩
  ·exact .inr ⟨h1, h2, hxx.trans h3, t, rest, c, hle.2.1 _ _ hc, by rw [hx b (by rw [h3]; exact List.mem_singleton.2 rfl)]; exact e, h4⟩
 | dx d sz zz ds =>
  obtain ⟨h1, h2, h3, h3n, us, t, rest, c, E, hc, e, h4, h5, h6, h7, h8, h9⟩ := hk
  have hE : ∀ k, k ∈ E → w1.heap[k]? = w.heap[k]? := fun k hk => hx k (by rw [h7]; exact List.mem_cons_of_mem _ hk)
  exact ⟨h1, h2, by rw [hxx]; exact h3, by rw [hxx]; exact h3n, us, t, rest, c, E, hle.2.1 _ _ hc, by rw [hx b (by rw [h7]; exact List.mem_cons_self ..)]; exact e, h4, h5, h6, hxx.trans h7, h8.keep fun u E' hE' hr => CX.keep hr fun k hk => hE k (hE' k hk), fun V => DRv.keep hE ds us (h9 V)⟩
 | sw ds => exact ⟨hf.trans hk.1, hk.2.1, hk.2.2.imp (fun h => h) fun h => DRs.keep (fun k hk => by cases hk) ds b s h⟩
 | df sz zz ds => obtain ⟨h0, h1, h2, h3, us, t, rest, c, hc, e, h4, h5, h6, h7⟩ := hk; exact ⟨by rw [hf]; exact h0.keep hs, h1, h2, h3, us, t, rest, c, hle.2.1 _ _ hc, by rw [hw (by intro e; cases e)]; exact e, h4, h5, h6, fun V => by rw [hf]; exact DRv.keep hs ds us (h7 V)⟩
 | dw sz zz ds => obtain ⟨h0, h1, h2, h3, us, t, rest, c, hc, e, h4, h5, h6, h7⟩ := hk; exact ⟨hf.trans h0, h1, h2, h3, us, t, rest, c, hle.2.1 _ _ hc, by rw [hw (by intro e; cases e)]; exact e, h4, h5, h6, DRv.keep (fun k hk => by cases hk) ds us h7⟩
 | dp sz zz ds => obtain ⟨h1, h2, h3, us, t, rest, c, hc, e, h4, h5, h6, h7⟩ := hk; exact ⟨h1, h2, h3, us, t, rest, c, hle.2.1 _ _ hc, by rw [hw (by intro e; cases e)]; exact e, h4, h5, h6, by rw [hf]; exact DRv.keep hs ds us h7⟩
 | shut => obtain ⟨h1, h2, t, e⟩ := hk; exact ⟨h1, h2, t, by rw [hw (by intro e; cases e)]; exact e⟩
 | lent => obtain ⟨h1, h2, t, rest, fr, e⟩ := hk; exact ⟨h1, h2, t, rest, fr, by rw [hw (by intro e; cases e)]; exact e⟩
 | held m => obtain ⟨h1, h2, t, rest, fr, c, hc, e, h3⟩ := hk; exact ⟨h1, h2, t, rest, fr, c, hle.2.1 _ _ hc, by rw [hw (by intro e; cases e)]; exact e, h3⟩
 | room sz zz => obtain ⟨h1, h2, t, rest, c, hc, e, h3⟩ := hk; exact ⟨h1, h2, t, rest, c, hle.2.1 _ _ hc, by rw [hw (by intro e; cases e)]; exact e, h3⟩
 | round st pe tm ps as bd => obtain ⟨h1, h2, h3, fn, D, tv, h4, e⟩ := hk; exact ⟨h1, h2, h3, fn, D, tv, Cf hle _ _ h4, by rw [hw (by intro e; cases e)]; exact e⟩
 | marks => obtain ⟨h1, h2, h3, e⟩ := hk; exact ⟨h1, h2, h3, by rw [hw (by intro e; cases e)]; exact e⟩
 | mp es => obtain ⟨h1, h2, h3, A, k, e, h4⟩ := hk; exact ⟨h1, h2, h3, A, k, by rw [hw (by intro e; cases e)]; exact e, h4⟩
theorem RowOk.keep {n : Nat} {r : Rw} (hk : RowOk W σ w n r) (hle : σ.le τ) (hw : r.own → ∀ p, σ.b n = some p → w1.heap[p.1]? = w.heap[p.1]?) (hs : ∀ k, k ∈ sh σ n → w1.heap[k]? = w.heap[k]?) (hx : ∀ k, k ∈ ex σ n → w1.heap[k]? = w.heap[k]?) : RowOk W τ w1 n r := by
 obtain ⟨b, s, vs, hb, hv, hk⟩ := hk
 exact ⟨b, s, vs, hle.1 _ _ hb, Cf hle _ _ hv, hk.keep hle (hle.2.2 _ _ hb).2.1 (fun ho => hw ho _ hb) hs hx⟩
theorem Rl.keepA (hR : Rl W σ h w) {n : Nat} {r : Rw} (hl : lk h n = some r) (hle : σ.le τ) (hb : ∀ b, b < w.heap.size → w1.heap[b]? = w.heap[b]?) : RowOk W τ w1 n r :=
 (hR.row n r hl).keep hle (fun ho p hp => hb _ (hR.lt hl ho hp)) (fun k hk => hb _ (hR.shr.2.1 n r k hl hk).1) fun k hk => hb _ (hR.shr.2.2 n r k hl hk).1
theorem Rl.keepW (hR : Rl W σ h w) {n m : Nat} {r s : Rw} {p : Nat × Nat} (hl : lk h n = some r) (ho : r.own) (hp : σ.b n = some p) (hm : lk h m = some s) (hne : m ≠ n) (hle : σ.le τ) (hb : ∀ b, b ≠ p.1 → w1.heap[b]? = w.heap[b]?) : RowOk W τ w1 m s :=
 (hR.row m s hm).keep hle (fun hs q hq => hb _ fun e => hne (hR.inj m n s r q p hm hl hs ho hq hp e)) (fun k hk => hb _ fun e => (hR.shr.2.1 m s k hm hk).2 n r p hl ho hp e.symm) fun k hk => hb _ fun e => (hR.shr.2.2 m s k hm hk).2.1 n r p hl ho hp e.symm

theorem Rl.keepV (hR : Rl W σ h w) {n m : Nat} {r s : Rw} {p : Nat × Nat} (hl : lk h n = some r) (ho : r.own) (hp : σ.b n = some p) (hm : lk h m = some s) (hne : m ≠ n) (hle : σ.le τ) (hb : ∀ b, b < w.heap.size → b ≠ p.1 → w1.heap[b]? = w.heap[b]?) : RowOk W τ w1 m s :=
 (hR.row m s hm).keep hle (fun hs q hq => hb _ (hR.lt hm hs hq) fun e => hne (hR.inj m n s r q p hm hl hs ho hq hp e)) (fun k hk => hb _ (hR.shr.2.1 m s k hm hk).1 fun e => (hR.shr.2.1 m s k hm hk).2 n r p hl ho hp e.symm) fun k hk => hb _ (hR.shr.2.2 m s k hm hk).1 fun e => (hR.shr.2.2 m s k hm hk).2.1 n r p hl ho hp e.symm
def Sg.bind (σ : Sg) (n : Nat) (p : Nat × Nat) : Sg := ⟨fun m => if m = n then some p else σ.b m, σ.c, fun m => if m = n then some ([], []) else σ.f m, σ.e, σ.w⟩
theorem Sg.le_bind {n : Nat} {p : Nat × Nat} (hf : σ.b n = none) : σ.le (σ.bind n p) := by
 refine ⟨fun m q e => ?_, fun _ _ e => e, fun m q e => ⟨rfl, ?_, rfl, rfl⟩⟩
 ·simp only [Sg.bind]
  split
  ·rename_i hm; subst hm; rw [hf] at e; cases e
  ·exact e
 ·simp only [Sg.bind]
  split
  ·rename_i hm; subst hm; rw [hf] at e; cases e
  ·rfl
theorem bind_shr {nx : Nat} {p : Nat × Nat} {r0 : Rw} {hp : Hp} (hS : Shr σ hp w) : Up σ hp (σ.bind nx p) ((nx, r0) :: hp) := fun n r hl => by
 simp only [sh, ex, Sg.bind]
 rw [B3] at hl
 split at hl
 ·rename_i e; rw [if_pos e.symm]; exact ⟨fun _ e => (by cases e), fun k hk => (by cases hk), fun k hk => (by cases hk)⟩
 ·rename_i e; rw [if_neg (Ne.symm e)]
  have hno : ¬ nx = n := e
  exact ⟨fun ho => hS.1 n r hl ho, fun k hk => ⟨n, r, hl, hk⟩, fun k hk => ⟨r, hl, hk⟩⟩
theorem Stp.alloc (hR : Rl W σ h w) {nx : Nat} (hf : Fresh σ nx (nx + 1)) {cs vs : List Value} (hv : renL σ cs = some vs) (t : TypeId) :
  Stp W nx (nx + 1) σ h w (σ.bind nx (w.heap.size, 0)) ((nx, ⟨.shut, cs⟩) :: h) (w.alloc (.cells vs.toArray t)) := by
 have hle : σ.le (σ.bind nx (w.heap.size, 0)) := Sg.le_bind (hf nx (Nat.le_refl _) (by omega)).1
 have hold : ∀ n r, lk h n = some r → n ≠ nx := fun n r hl e => by
  subst e
  obtain ⟨b, s, vs, hb, _⟩ := hR.row _ _ hl
  rw [(hf _ (Nat.le_refl _) (by omega)).1] at hb
  cases hb
 have hblk : ∀ b, b < w.heap.size → (w.alloc (.cells vs.toArray t)).heap[b]? = w.heap[b]? := fun b hb => by
  exact Below.block ((Ext.refl w).alloc _) b hb
 refine Stp0.up ⟨hle, fun n hn => ?_, ⟨hR.ext.alloc _, fun n r hl => ?_, fun n m r s p q hn hm hr hs hp hq e => ?_⟩, by simp, fun b hb _ _ => hblk b hb, fun n r p hl ho hb => ?_⟩ hR.shr hR.wf (bind_shr hR.shr)
 ·simp only [Sg.bind, and_true]; rw [if_neg (by omega)]
 ·rw [B3] at hl
  split at hl
  ·rename_i e; subst e
   cases hl
   exact ⟨w.heap.size, 0, vs, by simp [Sg.bind], Cf hle _ _ hv, rfl, hR.ext.size, t, heap_alloc_new w _⟩
  ·exact hR.keepA hl hle hblk
 ·rw [B3] at hn hm
  simp only [Sg.bind] at hp hq
  split at hn
  ·rename_i e1; subst e1
   split at hm
   ·assumption
   ·rename_i e2
    rw [if_neg (Ne.symm e2)] at hq
    rw [if_pos rfl] at hp
    have := hR.lt hm hs hq
    simp only [oI] at hp
    subst hp
    simp at e; omega
  ·rename_i e1
   rw [if_neg (Ne.symm e1)] at hp
   split at hm
   ·rename_i e2; subst e2
    rw [if_pos rfl] at hq
    have := hR.lt hn hr hp
    simp only [oI] at hq
    subst hq
    simp at e; omega
   ·rename_i e2
    rw [if_neg (Ne.symm e2)] at hq
    exact hR.inj n m r s p q hn hm hr hs hp hq e
 ·rw [B3] at hl
  simp only [Sg.bind] at hb
  split at hl
  ·rename_i e; subst e; rw [if_pos rfl] at hb; simp only [oI] at hb; subst hb; exact .inl (Nat.le_refl _)
  ·rename_i e; rw [if_neg (Ne.symm e)] at hb; exact .inr ⟨n, r, p, hl, ho, hb, rfl⟩
theorem Stp.drew (hR : Rl W σ h w) (lo : Nat) : Stp W lo lo σ h w σ h w.drew :=
 Stp0.up ⟨Sg.le.refl σ, fun _ _ => ⟨rfl, rfl⟩, ⟨hR.ext.drew, fun n r hl => hR.keepA hl (Sg.le.refl _) fun _ _ => rfl, hR.inj⟩, Nat.le_refl _, fun _ _ _ _ => rfl, fun n r p hl ho hb => .inr ⟨n, r, p, hl, ho, hb, rfl⟩⟩ hR.shr hR.wf (hR.shr.sub fun n r hl => ⟨r, hl, fun h => h⟩)
end
end
end Go.Proofs.Ytojakfnljopjbaa
