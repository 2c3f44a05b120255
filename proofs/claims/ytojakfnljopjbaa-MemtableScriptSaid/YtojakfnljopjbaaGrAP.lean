/-
  The told machine, part Zc: loops of any number of rounds; names are given anew at each round's beginning.
-/
import Derived.Test.YtojakfnljopjbaaGrAO
namespace Go.Proofs.Ytojakfnljopjbaa
section
set_option linter.unusedSimpArgs false
set_option linter.unusedVariables false
set_option linter.unusedSectionVars false
open Go Go.RowKit

def slL : List (Nat × Value) → Tm → Tm
 | [], ts => ts
 | (k, v) :: l, ts => slL l (tput ts k v)
def SL (n : Nat) (l : List (Nat × Value)) : Tm := slL l ⟨n, .e⟩
theorem slL_n : ∀ (l : List (Nat × Value)) (ts : Tm), (slL l ts).n = ts.n
 | [], ts => rfl
 | (k, v) :: l, ts => by simp only [slL]; rw [slL_n l, tput_n]
theorem slL_mem {k : Nat} {v : Value} : ∀ (l : List (Nat × Value)) (ts : Tm), ts.n ≤ 60000 → tg (slL l ts) k = some v → (k, v) ∈ l ∨ tg ts k = some v
 | [], ts, _, h => .inr h
 | (j, u) :: l, ts, hb, h => by
   rcases slL_mem l _ (by rw [tput_n]; exact hb) h with h1 | h1
   ·exact .inl (List.mem_cons_of_mem _ h1)
   ·rw [tg_put hb] at h1
    split at h1
    ·rename_i e; cases h1; rw [← e.1]; exact .inl (List.mem_cons_self ..)
    ·exact .inr h1
theorem SL_mem {n k : Nat} {v : Value} {l : List (Nat × Value)} (hb : n ≤ 60000) (h : tg (SL n l) k = some v) : (k, v) ∈ l := by
 rcases slL_mem l ⟨n, .e⟩ hb h with h1 | h1
 ·exact h1
 ·simp [tg, trG_e] at h1
def getS : List Nat → Tm → Option (List (Nat × Value))
 | [], _ => some []
 | k :: ks, ts => match tg ts k, getS ks ts with | some v, some l => some ((k, v) :: l) | _, _ => none
theorem getS_mem {ts : Tm} {k : Nat} {v : Value} : ∀ {ks : List Nat} {l : List (Nat × Value)}, getS ks ts = some l → (k, v) ∈ l → tg ts k = some v
 | [], l, h, hm => by simp only [getS, oI] at h; subst h; cases hm
 | j :: ks, l, h, hm => by
   simp only [getS] at h
   split at h
   ·rename_i u l' h1 h2
    simp only [oI] at h
    subst h
    rcases List.mem_cons.1 hm with e | hm
    ·cases e; exact h1
    ·exact getS_mem h2 hm
   ·cases h
structure RTL (σ : Sg) (nn : Nat) (l : List (Nat × Value)) (tmps : Array Value) : Prop where
 n : nn = tmps.size
 b : nn ≤ 60000
 s : ∀ k v, (k, v) ∈ l → renV σ v = some (tmps.getD k undef)
theorem RTL.rt {σ : Sg} {n : Nat} {l : List (Nat × Value)} {tmps : Array Value} (h : RTL σ n l tmps) : RT σ (SL n l) tmps :=
 ⟨(slL_n _ _).trans h.n, by rw [SL, slL_n]; exact h.b, fun t v e => h.s t v (SL_mem h.b e)⟩
theorem RT.rtl {σ : Sg} {ts : Tm} {tmps : Array Value} (h : RT σ ts tmps) {ks : List Nat} {l : List (Nat × Value)} (hg : getS ks ts = some l) : RTL σ ts.n l tmps := ⟨h.n, h.b, fun k v hm => h.s k v (getS_mem hg hm)⟩

abbrev PSt := Xt × Nat × List (Nat × Value) × Hp × Nat × List Nat × List Nat
def prjZ (ks : List Nat) : Res (St5 × Tape × List Prop) → Res (PSt × Tape × List Prop)
 | .ok ((x, ts, h, nx, d, ms), tp, ob) => match getS ks ts with
  | some l => .ok ((x, ts.n, l, h, nx, d, ms), tp, ob)
  | none => .no
 | .ask b => .ask b
 | .no => .no
def RunsL (inr : Bool) (wp : Fence → Nat → (Exit → Act → World → Prop) → Act → World → Prop) (ts : Tm) (h : Hp) (nx : Nat) (o : PSt) : Prop :=
 Tidy h nx o.2.2.2.1 o.2.2.2.2.1 o.2.2.2.2.2.1 ∧ (Bd h nx → ∀ W σ w a, Rl W σ h w → Fresh σ nx o.2.2.2.2.1 → RT σ ts a.tmps → ∀ ds, a.defers = ds → ∀ (F : Fence) (m : Nat), Wide F → (inr = false → F.round = none) → ∀ Q : Exit → Act → World → Prop,
   (∀ σ' w' a' es, Stp W nx o.2.2.2.2.1 σ h w σ' o.2.2.2.1 w' → RTL σ' o.2.1 o.2.2.1 a'.tmps → dfR σ' o.2.2.2.2.2.2 = some es → a'.defers = es ++ ds → Q o.1.toExit a' w') → wp F m Q a w)
theorem Runs.proj {inr : Bool} {wp : Fence → Nat → (Exit → Act → World → Prop) → Act → World → Prop} {ts : Tm} {h : Hp} {nx : Nat} {x : Xt} {ts1 : Tm} {h1 : Hp} {nx1 : Nat} {d ms : List Nat} (A : Runs inr wp ts h nx (x, ts1, h1, nx1, d, ms)) {ks : List Nat} {l : List (Nat × Value)} (hg : getS ks ts1 = some l) : RunsL inr wp ts h nx (x, ts1.n, l, h1, nx1, d, ms) :=
 ⟨A.1, fun hB W σ w a hR hf ht ds hd F m hF hr Q hQ => A.2 hB W σ w a hR hf ht ds hd F m hF hr Q fun σ' w' a' es b1 b2 b3 b4 => hQ σ' w' a' es b1 (b2.rtl hg) b3 b4⟩
theorem H7 {V : Tv} {P : Program} {call : Et} (hX : XOkZ V P) (hL : LOkZ V P) (hC : COkZ P call) (hm : P.follows .mixedOrders = true) {fid : FuncId} {inr : Bool} {ks : List Nat} {c : Code} {ts : Tm} {h : Hp} {nx : Nat} {tp tp' : Tape} {o : PSt} {ob : List Prop}
  (hr : prjZ ks (Bk V P call fid inr 100000 c ts h nx tp) = .ok (o, tp', ob)) (ho : Alls ob) : RunsL inr (fun F m Q => c.wpIn F m P Q) ts h nx o := by
 unfold prjZ at hr
 split at hr
 ·rename_i x ts1 h1 nx1 d ms tp1 ob1 hc
  split at hr
  ·rename_i l hl
   simp only [Res.ok.injEq, pI] at hr
   obtain ⟨rfl, rfl, rfl⟩ := hr
   exact ((Jf hX hL hC hm 100000).1 _ _ _ _ _ _ _ _ hc ho).proj hl
  ·cases hr
 ·cases hr
 ·cases hr

def fnN (lo N : Nat) (ρ : Nat → Nat) (n : Nat) : Option Nat := bif Nat.blt n lo then some n else bif Nat.blt n N then some (ρ n) else none
def sgf (lo N : Nat) (ρ : Nat → Nat) : Sg := ⟨fun n => match fnN lo N ρ n with | some m => some (m, 0) | none => none, fun n => match fnN lo N ρ n with | some m => some (B0 + m) | none => none, fun _ => some ([], []), fun _ => none, false⟩
section
variable {f σ τ : Sg}
theorem adR_via (hb : ∀ n m o p, f.b n = some (m, o) → σ.b m = some p → τ.b n = some (p.1, p.2 + o)) {a a1 u : Addr} (h1 : adR f a = some a1) (h2 : adR σ a1 = some u) : adR τ a = some u := by
 obtain ⟨n, o, s⟩ := a
 simp only [adR] at h1 ⊢
 cases hq : f.b n with
 | none => rw [hq] at h1; cases h1
 | some q =>
  obtain ⟨m, z⟩ := q
  rw [hq] at h1
  simp only [oI] at h1
  subst h1
  simp only [adR] at h2
  cases hp : σ.b m with
  | none => rw [hp] at h2; cases h2
  | some p =>
   rw [hp] at h2
   rw [hb _ _ _ _ hq hp]
   simpa [Nat.add_assoc] using h2
theorem cpR_via (hc : ∀ n q k, f.c n = some q → cpR σ q = some k → τ.c n = some k) {c c1 u : Nat} (h1 : cpR f c = some c1) (h2 : cpR σ c1 = some u) : cpR τ c = some u := by
 unfold cpR at h1 ⊢
 split at h1
 ·rename_i hlt
  cases h1
  rw [if_pos hlt]
  unfold cpR at h2
  rw [if_pos hlt] at h2
  exact h2
 ·rename_i hge
  rw [if_neg hge]
  exact hc _ _ _ h1 h2
theorem fnR_via (hb : ∀ n m o p, f.b n = some (m, o) → σ.b m = some p → τ.b n = some (p.1, p.2 + o)) {a a1 u : Fn} (h1 : fnR f a = some a1) (h2 : fnR σ a1 = some u) : fnR τ a = some u := by
 cases a with
 | yield n =>
  simp only [fnR] at h1 ⊢
  cases hq : f.b n with
  | none => rw [hq] at h1; cases h1
  | some q =>
   obtain ⟨m, z⟩ := q
   rw [hq] at h1
   simp only [oI] at h1
   subst h1
   simp only [fnR] at h2
   cases hp : σ.b m with
   | none => rw [hp] at h2; cases h2
   | some p =>
    rw [hp] at h2
    rw [hb _ _ _ _ hq hp]
    exact h2
 | _ => simp only [fnR, oI] at h1; subst h1; exact h2
theorem adR_blk {a a1 : Addr} (h1 : adR f a = some a1) : ∃ o, f.b a.block = some (a1.block, o) := by
 obtain ⟨n, o, s⟩ := a
 simp only [adR] at h1
 cases hq : f.b n with
 | none => rw [hq] at h1; cases h1
 | some q =>
  obtain ⟨m, z⟩ := q
  rw [hq] at h1
  simp only [oI] at h1
  subst h1
  exact ⟨z, rfl⟩
variable (hb : ∀ n m o p, f.b n = some (m, o) → σ.b m = some p → τ.b n = some (p.1, p.2 + o)) (hc : ∀ n q k, f.c n = some q → cpR σ q = some k → τ.c n = some k) (hn : ∀ n m o, f.b n = some (m, o) → f.f n ≠ none ∧ (τ.f n = none ↔ σ.f m = none) ∧ τ.e n = σ.e m ∧ τ.w = σ.w)
include hb hc hn
mutual
theorem J2 : ∀ (v v1 u : Value), renV f v = some v1 → renV σ v1 = some u → renV τ v = some u
 | .pointer (some a), v1, u, h1, h2 => by
   simp only [renV, ptR] at h1 ⊢
   split at h1
   ·rename_i a' ha'
    split at ha'
    ·cases ha'
    ·simp only [oI] at h1
     subst h1
     obtain ⟨o, hbl⟩ := adR_blk ha'
     simp only [renV, ptR] at h2
     split at h2
     ·rename_i a2 ha2
      split at ha2
      ·cases ha2
      ·rename_i hnn
       rw [if_neg (fun e => hnn ((hn _ _ _ hbl).2.1.1 e)), adR_via hb ha' ha2]
       exact h2
     ·cases h2
   ·cases h1
 | .slice (some a) l c, v1, u, h1, h2 => by
   simp only [renV, slR] at h1 ⊢
   split at h1
   ·rename_i a1 c1 ha hcc
    obtain ⟨o, hbl⟩ := adR_blk ha
    rw [if_neg (hn _ _ _ hbl).1] at h1
    split at h1
    case isFalse => cases h1
    simp only [oI] at h1
    subst h1
    simp only [renV, slR] at h2
    split at h2
    ·rename_i a2 c2 ha2 hc2
     rw [adR_via hb ha ha2, cpR_via hc hcc hc2]
     simp only [(hn _ _ _ hbl).2.1, (hn _ _ _ hbl).2.2.1, (hn _ _ _ hbl).2.2.2]
     exact h2
    ·cases h2
   ·cases h1
 | .agg cs, v1, u, h1, h2 => by
   simp only [renV] at h1 ⊢
   cases ha : renA f cs with
   | none => rw [ha] at h1; cases h1
   | some a1 =>
    rw [ha] at h1
    simp only [oI] at h1
    subst h1
    simp only [renV] at h2
    cases ha2 : renA σ a1 with
    | none => rw [ha2] at h2; cases h2
    | some a2 => rw [ha2] at h2; rw [Kf cs a1 a2 ha ha2]; exact h2
 | .tuple cs, v1, u, h1, h2 => by
   simp only [renV] at h1 ⊢
   cases ha : renA f cs with
   | none => rw [ha] at h1; cases h1
   | some a1 =>
    rw [ha] at h1
    simp only [oI] at h1
    subst h1
    simp only [renV] at h2
    cases ha2 : renA σ a1 with
    | none => rw [ha2] at h2; cases h2
    | some a2 => rw [ha2] at h2; rw [Kf cs a1 a2 ha ha2]; exact h2
 | .func fn g c, v1, u, h1, h2 => by
   simp only [renV] at h1 ⊢
   cases hfn : fnR f fn with
   | none => rw [hfn] at h1; cases h1
   | some fn1 =>
    cases ha : renA f g with
    | none => rw [hfn, ha] at h1; cases h1
    | some a1 =>
     cases hcc : renA f c with
     | none => rw [hfn, ha, hcc] at h1; cases h1
     | some c1 =>
      rw [hfn, ha, hcc] at h1
      simp only [oI] at h1
      subst h1
      simp only [renV] at h2
      cases hfn2 : fnR σ fn1 with
      | none => rw [hfn2] at h2; cases h2
      | some fn2 =>
       cases ha2 : renA σ a1 with
       | none => rw [hfn2, ha2] at h2; cases h2
       | some a2 =>
        cases hc2 : renA σ c1 with
        | none => rw [hfn2, ha2, hc2] at h2; cases h2
        | some c2 => rw [hfn2, ha2, hc2] at h2; rw [fnR_via hb hfn hfn2, Kf g a1 a2 ha ha2, Kf c c1 c2 hcc hc2]; exact h2
 | .iface t v, v1, u, h1, h2 => by
   simp only [renV] at h1 ⊢
   cases ha : renV f v with
   | none => rw [ha] at h1; cases h1
   | some a1 =>
    rw [ha] at h1
    simp only [oI] at h1
    subst h1
    simp only [renV] at h2
    cases ha2 : renV σ a1 with
    | none => rw [ha2] at h2; cases h2
    | some a2 => rw [ha2] at h2; rw [J2 v a1 a2 ha ha2]; exact h2
 | .map (some n), v1, u, h1, h2 => by
   simp only [renV] at h1 ⊢
   cases hq : f.b n with
   | none => rw [hq] at h1; cases h1
   | some q =>
    obtain ⟨m, z⟩ := q
    rw [hq] at h1
    simp only [oI] at h1
    subst h1
    simp only [renV] at h2
    cases hp : σ.b m with
    | none => rw [hp] at h2; cases h2
    | some p =>
     rw [hp] at h2
     rw [hb _ _ _ _ hq hp]
     exact h2
 | .chan (some _), v1, u, h1, h2 => by simp [renV] at h1
 | .bool b, v1, u, h1, h2 => by simp only [renV, oI] at h1; subst h1; simpa only [renV] using h2
 | .int k n, v1, u, h1, h2 => by simp only [renV, oI] at h1; subst h1; simpa only [renV] using h2
 | .float k n, v1, u, h1, h2 => by simp only [renV, oI] at h1; subst h1; simpa only [renV] using h2
 | .complex k a b, v1, u, h1, h2 => by simp only [renV, oI] at h1; subst h1; simpa only [renV] using h2
 | .string s, v1, u, h1, h2 => by simp only [renV, oI] at h1; subst h1; simpa only [renV] using h2
 | .pointer none, v1, u, h1, h2 => by simp only [renV, oI] at h1; subst h1; simpa only [renV] using h2
 | .slice none l c, v1, u, h1, h2 => by simp only [renV, oI] at h1; subst h1; simpa only [renV] using h2
 | .map none, v1, u, h1, h2 => by simp only [renV, oI] at h1; subst h1; simpa only [renV] using h2
 | .chan none, v1, u, h1, h2 => by simp only [renV, oI] at h1; subst h1; simpa only [renV] using h2
 | .nilFunc, v1, u, h1, h2 => by simp only [renV, oI] at h1; subst h1; simpa only [renV] using h2
 | .nilIface, v1, u, h1, h2 => by simp only [renV, oI] at h1; subst h1; simpa only [renV] using h2
theorem Kf : ∀ (v v1 u : Array Value), renA f v = some v1 → renA σ v1 = some u → renA τ v = some u
 | ⟨l⟩, v1, u, h1, h2 => by
   simp only [renA] at h1 ⊢
   cases ha : renL f l with
   | none => rw [ha] at h1; cases h1
   | some a1 =>
    rw [ha] at h1
    simp only [oI] at h1
    subst h1
    simp only [renA] at h2
    cases ha2 : renL σ a1 with
    | none => rw [ha2] at h2; cases h2
    | some a2 => rw [ha2] at h2; rw [El l a1 a2 ha ha2]; exact h2
theorem El : ∀ (v v1 u : List Value), renL f v = some v1 → renL σ v1 = some u → renL τ v = some u
 | [], v1, u, h1, h2 => by simp only [renL, oI] at h1; subst h1; simpa only [renL] using h2
 | v :: vs, v1, u, h1, h2 => by
   simp only [renL] at h1 ⊢
   cases ha : renV f v with
   | none => rw [ha] at h1; cases h1
   | some a1 =>
    cases hcc : renL f vs with
    | none => rw [ha, hcc] at h1; cases h1
    | some c1 =>
     rw [ha, hcc] at h1
     simp only [oI] at h1
     subst h1
     simp only [renL] at h2
     cases ha2 : renV σ a1 with
     | none => rw [ha2] at h2; cases h2
     | some a2 =>
      cases hc2 : renL σ c1 with
      | none => rw [ha2, hc2] at h2; cases h2
      | some c2 => rw [ha2, hc2] at h2; rw [J2 v a1 a2 ha ha2, El vs c1 c2 hcc hc2]; exact h2
end
end
def plainKd : Kd → Bool
 | .shut => true
 | .room _ _ => true
 | .old => true
 | .of => true
 | .ox => true
 | .dx _ _ _ _ => true
 | .lent => true
 | .held _ => true
 | .mp _ => true
 | _ => false
def recKd (f : Sg) : Kd → Prop
 | .round _ _ tm _ _ _ => renL f tm = some tm
 | .marks => True
 | .sd _ => True
 | .dp _ _ _ => True
 | .df _ _ _ => True
 | .dw _ _ _ => True
 | .sw _ => True
 | .ow => True
 | kd => plainKd kd = true
def He (lo N : Nat) (ρ : Nat → Nat) (h0 h1 : Hp) (n : Nat) (r : Rw) : Prop :=
 ∃ m s, fnN lo N ρ n = some m ∧ lk h1 m = some s ∧ s.kd = r.kd ∧ recKd (sgf lo N ρ) r.kd ∧ (renL (sgf lo N ρ) r.cs = some s.cs ∨ (n < lo ∧ s = r ∧ lk h0 n = some r))
def RbL (lo N : Nat) (ρ : Nat → Nat) (h0 h1 : Hp) : Hp → Prop
 | [] => True
 | (n, r) :: t => He lo N ρ h0 h1 n r ∧ RbL lo N ρ h0 h1 t
theorem Ec {lo N : Nat} {ρ : Nat → Nat} {h0 h1 : Hp} : ∀ {h2 : Hp}, RbL lo N ρ h0 h1 h2 → ∀ n r, lk h2 n = some r → He lo N ρ h0 h1 n r
 | [], _, n, r, h => by simp [lk] at h
 | (m, s) :: t, hh, n, r, h => by
   rw [B3] at h
   split at h
   ·rename_i e; cases h; subst e; exact hh.1
   ·exact Ec hh.2 n r h
def K5 : List Nat → Bool
 | [] => true
 | x :: l => bif memN x l then false else K5 l
theorem K4 {g : Nat → Nat} : ∀ {l : List Nat}, K5 (l.map g) = true → ∀ n m, n ∈ l → m ∈ l → g n = g m → n = m
 | [], _, n, m, hn, _, _ => by cases hn
 | x :: l, h, n, m, hn, hm, e => by
   simp only [List.map_cons, K5] at h
   rcases Be h with ⟨_, h2⟩ | ⟨h1, h2⟩
   ·cases h2
   have hx := En h1
   rcases List.mem_cons.1 hn with rfl | hn <;> rcases List.mem_cons.1 hm with rfl | hm
   ·rfl
   ·exact (hx (by rw [e]; exact List.mem_map_of_mem hm)).elim
   ·rename_i hn'
    exact (hx (by rw [← e]; exact List.mem_map_of_mem hn')).elim
   ·exact K4 h2 n m hn hm e
def fnG (lo N : Nat) (ρ : Nat → Nat) (n : Nat) : Nat := match fnN lo N ρ n with | some m => m | none => 0
def injN (lo N : Nat) (ρ : Nat → Nat) (h2 : Hp) : Bool := K5 ((h2.map (·.1)).map (fnG lo N ρ))
theorem fnN_lt {lo N : Nat} {ρ : Nat → Nat} {n m : Nat} (h : fnN lo N ρ n = some m) : (n < lo ∧ m = n) ∨ (lo ≤ n ∧ n < N ∧ m = ρ n) := by
 unfold fnN at h
 by_cases hlo : n < lo
 ·rw [Dd hlo] at h; cases h; exact .inl ⟨hlo, rfl⟩
 ·rw [show Nat.blt n lo = false from Dp (by omega)] at h
  by_cases hN : n < N
  ·rw [Dd hN] at h; cases h; exact .inr ⟨by omega, hN, rfl⟩
  ·rw [show Nat.blt n N = false from Dp (by omega)] at h; cases h
theorem Stp.rebase {W : World} {lo nx1 : Nat} {σ0 σ : Sg} {h0 h1 h2 : Hp} {w0 w : World} (S : Stp W lo nx1 σ0 h0 w0 σ h1 w) (hR0 : Rl W σ0 h0 w0) {M N : Nat} (hf : Fresh σ0 lo M) (hlN : lo ≤ N) (hNM : N ≤ M) {ρ : Nat → Nat} (hH : RbL lo N ρ h0 h1 h2) (hI : injN lo N ρ h2 = true) :
  ∃ τ, Stp W lo N σ0 h0 w0 τ h2 w ∧ ∀ v v1 u, renV (sgf lo N ρ) v = some v1 → renV σ v1 = some u → renV τ v = some u := by
 obtain ⟨τ, hτ⟩ : ∃ τ : Sg, τ = ⟨fun n => if n < lo then σ.b n else if n < N then σ.b (ρ n) else σ0.b n, fun n => if n < lo then σ.c n else if n < N then σ.c (ρ n) else σ0.c n, fun n => if n < lo then σ.f n else if n < N then σ.f (ρ n) else σ0.f n, fun n => if n < lo then σ.e n else if n < N then σ.e (ρ n) else σ0.e n, true⟩ := ⟨_, rfl⟩
 have tw : τ.w = true := by subst hτ; rfl
 have te : ∀ n m, fnN lo N ρ n = some m → τ.e n = σ.e m := fun n m h => by
  rcases fnN_lt h with ⟨h1, rfl⟩ | ⟨h1, h2, rfl⟩
  ·subst hτ; simp only [if_pos h1]
  ·subst hτ; simp only [if_neg (Nat.not_lt.2 h1), if_pos h2]
 have tf : ∀ n m, fnN lo N ρ n = some m → τ.f n = σ.f m := fun n m h => by
  rcases fnN_lt h with ⟨h1, rfl⟩ | ⟨h1, h2, rfl⟩
  ·subst hτ; simp only [if_pos h1]
  ·subst hτ; simp only [if_neg (Nat.not_lt.2 h1), if_pos h2]
 have tb : ∀ n m, fnN lo N ρ n = some m → τ.b n = σ.b m ∧ τ.c n = σ.c m := fun n m h => by
  rcases fnN_lt h with ⟨h1, rfl⟩ | ⟨h1, h2, rfl⟩
  ·subst hτ; simp only [if_pos h1, and_self]
  ·subst hτ; simp only [if_neg (Nat.not_lt.2 h1), if_pos h2, and_self]
 have ab : ∀ n m o p, (sgf lo N ρ).b n = some (m, o) → σ.b m = some p → τ.b n = some (p.1, p.2 + o) := fun n m o p h hp => by
  simp only [sgf] at h
  split at h
  ·rename_i k hk
   cases h
   rw [(tb n _ hk).1]; exact hp
  ·cases h
 have ac : ∀ n q k, (sgf lo N ρ).c n = some q → cpR σ q = some k → τ.c n = some k := fun n q k h hp => by
  simp only [sgf] at h
  split at h
  ·rename_i j hj
   simp only [oI] at h
   subst h
   rw [(tb n _ hj).2]
   rw [Bq] at hp
   exact hp
  ·cases h
 have an : ∀ n m o, (sgf lo N ρ).b n = some (m, o) → (sgf lo N ρ).f n ≠ none ∧ (τ.f n = none ↔ σ.f m = none) ∧ τ.e n = σ.e m ∧ τ.w = σ.w := fun n m o h => by
  simp only [sgf] at h
  split at h
  ·rename_i k hk
   cases h
   exact ⟨by simp [sgf], by rw [tf n _ hk], te n _ hk, tw.trans S.rl.wf.symm⟩
  ·cases h
 have hle : σ0.le τ := by
  refine ⟨fun n p e => ?_, fun n p e => ?_, fun n p e => ?_⟩
  rotate_left 2
  ·by_cases h1 : n < lo
   ·obtain ⟨a1, a2, a3, _⟩ := S.le.2.2 n p e
    refine ⟨?_, ?_, ?_, tw.trans hR0.wf.symm⟩ <;> (subst hτ; simp only [if_pos h1]; assumption)
   ·by_cases h2 : n < N
    ·rw [(hf n (by omega) (by omega)).1] at e; cases e
    ·refine ⟨?_, ?_, ?_, tw.trans hR0.wf.symm⟩ <;> (subst hτ; simp only [if_neg h1, if_neg h2])
  ·by_cases h1 : n < lo
   ·subst hτ; simp only [if_pos h1]; exact S.le.1 n p e
   ·by_cases h2 : n < N
    ·rw [(hf n (by omega) (by omega)).1] at e; cases e
    ·subst hτ; simp only [if_neg h1, if_neg h2]; exact e
  ·by_cases h1 : n < lo
   ·subst hτ; simp only [if_pos h1]; exact S.le.2.1 n p e
   ·by_cases h2 : n < N
    ·rw [(hf n (by omega) (by omega)).2] at e; cases e
    ·subst hτ; simp only [if_neg h1, if_neg h2]; exact e
 have hvia := J2 ab ac an
 have tsh : ∀ n m, fnN lo N ρ n = some m → sh τ n = sh σ m := fun n m h => by unfold sh; rw [tf n m h]
 have tex : ∀ n m, fnN lo N ρ n = some m → ex τ n = ex σ m := fun n m h => by unfold ex; rw [tf n m h]
 refine ⟨τ, ⟨hle, fun n hn => ?_, ⟨⟨S.rl.ext, fun n r hl => ?_, fun n m r s p q hn hm ho hs hp hq e => ?_⟩, tw, fun n r hl ho => ?_, fun n r k hl hk => ?_, fun n r k hl hk => ?_⟩, S.size, S.fr, fun n r p hn ho hp => ?_, fun n r k hl hk => ?_, fun n r k hl hk => ?_⟩, hvia⟩
 ·rcases hn with hn | hn
  ·subst hτ; simp only [if_pos hn]; exact S.only n (.inl hn)
  ·subst hτ; simp only [if_neg (Nat.not_lt.2 (Nat.le_trans hlN hn)), if_neg (Nat.not_lt.2 hn), and_self]
 ·obtain ⟨m, s, e1, e2, e3, e4, e5⟩ := Ec hH n r hl
  obtain ⟨b, c, vs, h1, h2, h3⟩ := S.rl.row m s e2
  obtain ⟨t1, t2⟩ := tb n m e1
  refine ⟨b, c, vs, t1.trans h1, ?_, ?_⟩
  ·rcases e5 with e5 | ⟨e6, e7, e8⟩
   ·exact El ab ac an _ _ _ e5 h2
   ·subst e7
    obtain ⟨b', c', vs', g1, g2, g3⟩ := hR0.row n s e8
    have := Cf S.le _ _ g2
    rw [h2] at this
    cases this
    exact Cf hle _ _ g2
  ·rw [e3] at h3
   obtain ⟨kd, cs⟩ := r
   simp only at h3 e4 ⊢
   cases kd with
   | shut => exact h3
   | old =>
    unfold KdOk at h3 ⊢
    rw [tsh n m e1]
    exact h3
   | of =>
    unfold KdOk at h3 ⊢
    rw [tsh n m e1]
    exact h3
   | ow =>
    unfold KdOk at h3 ⊢
    rw [tsh n m e1]
    exact h3
   | sw ds =>
    unfold KdOk at h3 ⊢
    rw [tsh n m e1]
    exact h3
   | ox =>
    rcases h3 with ⟨g1, g2⟩ | ⟨g1, g2, g3, t, rest, k, g4, g5⟩
    ·exact .inl ⟨(tf n m e1).trans g1, g2⟩
    ·exact .inr ⟨g1, g2, (tex n m e1).trans g3, t, rest, k, t2.trans g4, g5⟩
   | dx d2 size zz ds =>
    obtain ⟨g1, g2, g3, g3n, us, t, rest, k, E, g4, g5⟩ := h3
    exact ⟨g1, g2, by rw [tex n m e1]; exact g3, by rw [tex n m e1]; exact g3n, us, t, rest, k, E, t2.trans g4, by rw [tex n m e1]; exact g5⟩
   | df size zz ds =>
    obtain ⟨g0, g1, g2, g3, us, t, rest, k, g4, g5, g6, g7, g8, g9⟩ := h3
    exact ⟨by rw [tsh n m e1]; exact g0, g1, g2, g3, us, t, rest, k, t2.trans g4, g5, g6, g7, g8, by rw [tsh n m e1]; exact g9⟩
   | dw size zz ds =>
    obtain ⟨g0, g1, g2, g3, us, t, rest, k, g4, g5⟩ := h3
    exact ⟨(tsh n m e1).trans g0, g1, g2, g3, us, t, rest, k, t2.trans g4, g5⟩
   | sd ds => exact ⟨h3.1, h3.2.imp (fun h => h) fun h => by rw [tsh n m e1]; exact h⟩
   | dp size zz ds =>
    obtain ⟨g1, g2, g3, us, t, rest, k, g4, g5, g6, g7, g8, g9⟩ := h3
    exact ⟨g1, g2, g3, us, t, rest, k, t2.trans g4, g5, g6, g7, g8, by rw [tsh n m e1]; exact g9⟩
   | lent => exact h3
   | held m =>
    obtain ⟨g1, g2, t, rest, fr, k, g3, g4⟩ := h3
    exact ⟨g1, g2, t, rest, fr, k, t2.trans g3, g4⟩
   | room size zz =>
    obtain ⟨g1, g2, t, rest, k, g3, g4⟩ := h3
    exact ⟨g1, g2, t, rest, k, t2.trans g3, g4⟩
   | round st pe tm ps as bd =>
    obtain ⟨g1, g2, g3, fn, D, tv, g4, g5⟩ := h3
    exact ⟨g1, g2, g3, fn, D, tv, El ab ac an _ _ _ e4 g4, g5⟩
   | marks => exact h3
   | mp es => exact h3
 ·obtain ⟨m1, s1, e1, e2, e3, e4, _⟩ := Ec hH n r hn
  obtain ⟨m2, s2, f1, f2, f3, f4, _⟩ := Ec hH m s hm
  rw [(tb n _ e1).1] at hp
  rw [(tb m _ f1).1] at hq
  have := S.rl.inj m1 m2 s1 s2 p q e2 f2 (by unfold Rw.own; rw [e3]; exact ho) (by unfold Rw.own; rw [f3]; exact hs) hp hq e
  subst this
  refine K4 hI n m (Hz hn) (Hz hm) ?_
  unfold fnG
  rw [e1, f1]
 ·obtain ⟨m, s, e1, e2, e3, e4, _⟩ := Ec hH n r hl
  rw [tf n m e1]
  exact S.rl.shr.1 m s e2 (by unfold Rw.own; rw [e3]; exact ho)
 ·obtain ⟨m, s, e1, e2, e3, e4, _⟩ := Ec hH n r hl
  rw [tsh n m e1] at hk
  refine ⟨(S.rl.shr.2.1 m s k e2 hk).1, fun m' s' q hm' hs' hq => ?_⟩
  obtain ⟨m2, s2, f1, f2, f3, f4, _⟩ := Ec hH m' s' hm'
  rw [(tb m' _ f1).1] at hq
  exact (S.rl.shr.2.1 m s k e2 hk).2 m2 s2 q f2 (by unfold Rw.own; rw [f3]; exact hs') hq
 ·obtain ⟨m, s, e1, e2, e3, e4, _⟩ := Ec hH n r hl
  rw [tex n m e1] at hk
  obtain ⟨x1, x2, x3⟩ := S.rl.shr.2.2 m s k e2 hk
  refine ⟨x1, fun m' s' q hm' hs' hq => ?_, fun m' s' hm' => ?_⟩
  ·obtain ⟨m2, s2, f1, f2, f3, f4, _⟩ := Ec hH m' s' hm'
   rw [(tb m' _ f1).1] at hq
   exact x2 m2 s2 q f2 (by unfold Rw.own; rw [f3]; exact hs') hq
  ·obtain ⟨m2, s2, f1, f2, f3, f4, _⟩ := Ec hH m' s' hm'
   rw [tsh m' m2 f1, tex m' m2 f1]
   refine ⟨(x3 m2 s2 f2).1, fun hk2 => ?_⟩
   have := (x3 m2 s2 f2).2 hk2
   subst this
   refine K4 hI m' n (Hz hm') (Hz hl) ?_
   unfold fnG
   rw [e1, f1]
 ·obtain ⟨m, s, e1, e2, e3, e4, _⟩ := Ec hH n r hn
  rw [(tb n _ e1).1] at hp
  exact S.src m s p e2 (by unfold Rw.own; rw [e3]; exact ho) hp
 ·obtain ⟨m, s, e1, e2, e3, e4, _⟩ := Ec hH n r hl
  rw [tsh n m e1] at hk
  exact S.ssrc m s k e2 hk
 ·obtain ⟨m, s, e1, e2, e3, e4, _⟩ := Ec hH n r hl
  rw [tex n m e1] at hk
  exact S.xsrc m s k e2 hk
def RbT (f : Sg) : List (Nat × Value) → List (Nat × Value) → Prop
 | [], _ => True
 | (k, v) :: l2, (k1, v1) :: l1 => k = k1 ∧ renV f v = some v1 ∧ RbT f l2 l1
 | _ :: _, [] => False
theorem RbT_ok {f : Sg} : ∀ {l2 l1 : List (Nat × Value)}, RbT f l2 l1 → ∀ k v, (k, v) ∈ l2 → ∃ v1, (k, v1) ∈ l1 ∧ renV f v = some v1
 | [], _, _, k, v, h => by cases h
 | _ :: _, [], hh, k, v, h => hh.elim
 | (j, u) :: l2, (j1, u1) :: l1, hh, k, v, h => by
   obtain ⟨rfl, h1, h2⟩ := hh
   rcases List.mem_cons.1 h with e | h
   ·cases e; exact ⟨u1, List.mem_cons_self .., h1⟩
   ·obtain ⟨v1, a, b⟩ := RbT_ok h2 k v h
    exact ⟨v1, List.mem_cons_of_mem _ a, b⟩
theorem RTL.via {f σ τ : Sg} {n : Nat} {l1 l2 : List (Nat × Value)} {tmps : Array Value} (h : RTL σ n l1 tmps) (hT : RbT f l2 l1) (hv : ∀ v v1 u, renV f v = some v1 → renV σ v1 = some u → renV τ v = some u) : RTL τ n l2 tmps :=
 ⟨h.n, h.b, fun k v hm => by obtain ⟨v1, a, b⟩ := RbT_ok hT k v hm; exact hv _ _ _ b (h.s k v1 a)⟩

abbrev LO := Xt × List (Nat × Value) × Hp
def LRuns (inr : Bool) (P : Program) (x : Code) (lo M : Nat) (h0 : Hp) (n : Nat) (l : List (Nat × Value)) (h : Hp) (N : Nat) (o : LO) : Prop :=
 ∀ W σ0 w0 σ w a, Rl W σ0 h0 w0 → Fresh σ0 lo M → Stp W lo N σ0 h0 w0 σ h w → RTL σ n l a.tmps → ∀ ds, a.defers = ds → ∀ (F : Fence) (m : Nat), Wide F → (inr = false → F.round = none) → ∀ Q : Exit → Act → World → Prop,
  (∀ σ' w' a', Stp W lo M σ0 h0 w0 σ' o.2.2 w' → RTL σ' n o.2.1 a'.tmps → a'.defers = ds → Q o.1.toExit a' w') → Code.againIn F m P x Q a w
def bdB (h : Hp) (N : Nat) : Bool := ltAll (h.map (·.1)) N
theorem Ln {h : Hp} {N : Nat} (hb : bdB h N = true) : Bd h N := fun n hn => by
 cases hl : lk h n with
 | none => rfl
 | some r => have := Kj hb n (Hz hl); omega
section
variable {inr : Bool} {P : Program} {x : Code} {lo M N n : Nat} {h0 h h1 h2 : Hp} {l l1 l2 : List (Nat × Value)} {nx1 : Nat} {d1 : List Nat} {o : LO} {xt : Xt}
theorem LRuns.step (hrun : RunsL inr (fun F m Q => x.wpIn F m P Q) (SL n l) h N (.normal, n, l1, h1, nx1, d1, [])) (hB : bdB h N = true) (hlN : lo ≤ N) (hM : nx1 ≤ M) (ρ : Nat → Nat) (hT : RbT (sgf lo N ρ) l2 l1) (hH : RbL lo N ρ h0 h1 h2) (hI : injN lo N ρ h2 = true) (hnext : LRuns inr P x lo M h0 n l2 h2 N o) :
  LRuns inr P x lo M h0 n l h N o := by
 intro W σ0 w0 σ w a hR0 hf S ht ds hd F m hF hr Q hQ
 have hNx : N ≤ nx1 := hrun.1.1
 refine Kz (hrun.2 (Ln hB) W σ w a S.rl (fun k h1 h2 => by simp only at h2; rw [(S.only k (.inr h1)).1, (S.only k (.inr h1)).2]; exact hf k (by omega) (by omega)) ht.rt ds hd F m hF hr _ fun σ1 w1 a1 es S1 t1 he hd1 => ?_)
 simp only [dfR, oI] at he
 subst he
 obtain ⟨τ, S2, hv⟩ := (S.trans S1 hlN hNx).rebase hR0 hf hlN (by omega) hH hI
 exact hnext W σ0 w0 τ w1 a1 hR0 hf S2 (t1.via hT hv) ds (by simpa using hd1) F m hF hr Q hQ
theorem LRuns.exit (hrun : RunsL inr (fun F m Q => x.wpIn F m P Q) (SL n l) h N (xt, n, l1, h1, nx1, d1, [])) (hx : xt ≠ .normal) (hB : bdB h N = true) (hlN : lo ≤ N) (hM : nx1 ≤ M) (ρ : Nat → Nat) (hT : RbT (sgf lo M ρ) l2 l1) (hH : RbL lo M ρ h0 h1 h2) (hI : injN lo M ρ h2 = true) :
  LRuns inr P x lo M h0 n l h N (xt, l2, h2) := by
 intro W σ0 w0 σ w a hR0 hf S ht ds hd F m hF hr Q hQ
 have hNx : N ≤ nx1 := hrun.1.1
 refine Kz (hrun.2 (Ln hB) W σ w a S.rl (fun k h1 h2 => by simp only at h2; rw [(S.only k (.inr h1)).1, (S.only k (.inr h1)).2]; exact hf k (by omega) (by omega)) ht.rt ds hd F m hF hr _ fun σ1 w1 a1 es S1 t1 he hd1 => ?_)
 simp only [dfR, oI] at he
 subst he
 obtain ⟨τ, S2, hv⟩ := (S.trans S1 hlN hNx).rebase hR0 hf (by omega) (Nat.le_refl M) hH hI
 have := hQ τ w1 a1 S2 (t1.via hT hv) (by simpa using hd1)
 cases xt with
 | normal => exact (hx rfl).elim
 | exit i => exact this
 | ret => exact this
theorem LRuns.enter {ts : Tm} {nx : Nat} {ks : List Nat} {d : List Nat} (hn : ts.n = n) (hg : getS ks ts = some l) (hN : nx ≤ N) (hNM : N ≤ M) (ρ : Nat → Nat) (hT : RbT (sgf nx N ρ) l2 l) (hH : RbL nx N ρ h h h2) (hI : injN nx N ρ h2 = true) (hl : LRuns inr P x nx M h n l2 h2 N o) (htd : Tidy h nx o.2.2 M d) :
  Runs inr (fun F m Q => Code.againIn F m P x Q) ts h nx (o.1, SL n o.2.1, o.2.2, M, d, []) := by
 refine ⟨htd, fun hB W σ w a hR hf ht ds hd F m hF hr Q hQ => ?_⟩
 obtain ⟨τ, S2, hv⟩ := (Stp.refl hR nx).rebase hR hf hN hNM hH hI
 have t := ht.rtl hg
 rw [hn] at t
 exact hl W σ w τ w a hR hf S2 (t.via hT hv) ds hd F m hF hr Q fun σ' w' a' S' t' hd' => hQ σ' w' a' [] S' t'.rt rfl (by simpa using hd')
end

def keyC : Code → Nat
 | .region id _ _ => id
 | .seq x _ => keyC x
 | .block _ x => keyC x
 | .loop x => keyC x
 | .scope x => keyC x
 | .cond _ x _ => keyC x
 | _ => 1000000
def Ko (k : Nat) : Code → Option Code
 | .seq x y => match Ko k x with | some c => some c | none => Ko k y
 | .block _ x => Ko k x
 | .scope x => Ko k x
 | .cond _ x y => match Ko k x with | some c => some c | none => Ko k y
 | .rangeFunc _ _ _ y => Ko k y
 | .loop x => bif Nat.beq (keyC x) k then some x else Ko k x
 | _ => none
def bodyAt (f : Func) (k : Nat) : Code := match f.body with
 | some c => (match Ko k c with | some x => x | none => .skip)
 | none => .skip
def B6 (P : Program) (f : FuncId) (k : Nat) : Code := match P.funcs[f]? with
 | some fn => bodyAt fn k
 | none => .skip
abbrev I9 := List (Nat × Value) → Hp → Nat → Tape → Option ((Xt × List (Nat × Value) × Hp × Nat × List Nat) × Tape × List Prop)
abbrev LFun := FuncId → Code → Tm → Hp → Nat → Tape → Option (Res (St5 × Tape × List Prop))
def noL : LFun := fun _ _ _ _ _ _ => none
def mkL (f0 key n : Nat) (ks : List Nat) (body : Code) (spec : I9) : LFun := fun fid x ts h nx tp =>
 bif Nat.blt fid Hf && (Nat.beq fid f0 && Nat.beq (keyC x) key) then some (bif Nat.beq ts.n n then (match getS ks ts with
  | some live => (match spec live h nx tp with
   | some ((xt, l2, h2, nx2, d), tp', ob) => .ok ((xt, SL n l2, h2, nx2, d, []), tp', (x = body) :: ob)
   | none => .no)
  | none => .no) else .no) else none
def orL (a b : LFun) : LFun := fun fid x ts h nx tp => match a fid x ts h nx tp with | some r => some r | none => b fid x ts h nx tp
def LOne (P : Program) (L : LFun) : Prop := ∀ fid x ts h nx tp o tp' ob, L fid x ts h nx tp = some (.ok (o, tp', ob)) → Alls ob → ∀ inr, (fid < Hf → Runs inr (fun F m Q => Code.againIn F m P x Q) ts h nx o) ∧ (Hf ≤ fid → Runs inr (fun F m Q => x.wpIn F m P Q) ts h nx o)
theorem orL_ok {P : Program} {a b : LFun} (ha : LOne P a) (hb : LOne P b) : LOne P (orL a b) := fun fid x ts h nx tp o tp' ob e ho => by
 unfold orL at e
 split at e
 ·rename_i r hr; cases e; exact ha _ _ _ _ _ _ _ _ _ hr ho
 ·exact hb _ _ _ _ _ _ _ _ _ e ho
def LSOk (P : Program) (n : Nat) (ks : List Nat) (body : Code) (spec : I9) : Prop := ∀ live h nx tp xt l2 h2 nx2 d tp' ob, spec live h nx tp = some ((xt, l2, h2, nx2, d), tp', ob) → Alls ob → ∀ inr ts, ts.n = n → getS ks ts = some live → Runs inr (fun F m Q => Code.againIn F m P body Q) ts h nx (xt, SL n l2, h2, nx2, d, [])
theorem Hm {P : Program} {f0 key n : Nat} {ks : List Nat} {body : Code} {spec : I9} (H : LSOk P n ks body spec) : LOne P (mkL f0 key n ks body spec) := fun fid x ts h nx tp o tp' ob e ho inr => by
 unfold mkL at e
 rcases Be e with ⟨hc, e⟩ | ⟨_, e⟩
 case inr => cases e
 simp only [Bool.and_eq_true] at hc
 have hlt : fid < Hf := Nat.le_of_ble_eq_true hc.1
 simp only [oI] at e
 obtain ⟨hn, e⟩ := Di e
 split at e
 ·rename_i live hg
  split at e
  ·rename_i xt l2 h2 nx2 d tp2 ob2 hs
   simp only [Res.ok.injEq, pI] at e
   obtain ⟨rfl, rfl, rfl⟩ := e
   obtain ⟨rfl, ho⟩ := ho
   exact ⟨fun _ => H _ _ _ _ _ _ _ _ _ _ _ hs ho inr ts (Nat.eq_of_beq_eq_true hn) hg, fun h => absurd hlt (Nat.not_lt.2 h)⟩
  ·cases e
 ·cases e
section
variable {inr : Bool} {P : Program} {x : Code} {lo M N n : Nat} {h0 h h1 h2 : Hp} {l l1 l2 : List (Nat × Value)} {nx1 : Nat} {d1 : List Nat} {o : LO} {xt : Xt}
end
theorem Bt {f : Sg} {n m o l c : Nat} (hb : f.b n = some (m, 0)) (hc : c < B0) (hn : f.f n ≠ none := by intro e; cases e) (hw : f.w = false := by rfl) : renV f (.slice (some ⟨n, o, none⟩) l c) = some (.slice (some ⟨m, o, none⟩) l c) := by
 have := B5 (l := l) (c := c) (o := o) hb (by unfold cpR; rw [if_pos hc]) hn (.inl hw)
 simpa using this
theorem Bj {f : Sg} {n m o l : Nat} (hb : f.b n = some (m, 0)) (hc : f.c n = some (B0 + m)) (hn : f.f n ≠ none := by intro e; cases e) (hw : f.w = false := by rfl) : renV f (.slice (some ⟨n, o, none⟩) l (B0 + n)) = some (.slice (some ⟨m, o, none⟩) l (B0 + m)) := by
 have := B5 (l := l) (c := B0 + n) (o := o) hb (by rw [Bq]; exact hc) hn (.inl hw)
 simpa using this
theorem Bp {f : Sg} {n m o : Nat} (hb : f.b n = some (m, 0)) (hn : f.f n ≠ none := by intro e; cases e) : renV f (.pointer (some ⟨n, o, none⟩)) = some (.pointer (some ⟨m, o, none⟩)) := by
 have := Da (o := o) hb hn
 simpa using this
def Fl (cs : List Value) : Prop := ∀ σ, renL σ cs = some cs
theorem Fl.app {a b : List Value} (ha : Fl a) (hb : Fl b) : Fl (a ++ b) := fun σ => C7 (ha σ) (hb σ)
theorem Fl.map {α : Type} {f : α → Value} (h : ∀ σ x, renV σ (f x) = some (f x)) (l : List α) : Fl (l.map f) := fun σ => Jl f (h σ) l
theorem Fl.of {l : List Value} (h : D5 l = true) : Fl l := fun σ => Cj σ h
theorem Fl.ints (k : IntKind) (l : List Int) : Fl (l.map (Value.int k)) := Fl.map (fun σ x => by simp only [renV]) l
end
end Go.Proofs.Ytojakfnljopjbaa
