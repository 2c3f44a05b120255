/-
  The machine that runs in the kernel, part T: code and whole calls.
-/
import Derived.Test.YtojakfnljopjbaaGrAG
import Derived.Scope
import Derived.Laws.Externs
import Derived.Laws.Bits64
namespace Go.Proofs.Ytojakfnljopjbaa
set_option linter.unusedSimpArgs false
set_option linter.unusedVariables false
set_option linter.unusedSectionVars false
open Go Go.RowKit

inductive Xt where
 | normal
 | exit (id : Nat)
 | ret
def Xt.toExit : Xt → Exit
 | .normal => .normal
 | .exit id => .exit id
 | .ret => .ret
abbrev St5 := Xt × Tm × Hp × Nat × List Nat × List Nat
def itV : Option Value → Option (FuncId × List Value × List Value)
 | some (.func (.func g) f c) => some (g, f.toList, c.toList)
 | _ => none
def notBusy : LoopState → Bool
 | .busy => false
 | _ => true
section
variable {E : Env} {call : FuncId → List Value → Hp → Nat → Option Out}
def Runs (inr : Bool) (wp : Fence → Nat → (Exit → Act → World → Prop) → Act → World → Prop) (ts : Tm) (h : Hp) (nx : Nat) (o : St5) : Prop :=
 Tidy h nx o.2.2.1 o.2.2.2.1 o.2.2.2.2.1 ∧ (Bd h nx → ∀ W σ w a, Rl W σ h w → Fresh σ nx o.2.2.2.1 → RT σ ts a.tmps → ∀ ds, a.defers = ds → ∀ (F : Fence) (m : Nat), Wide F → (inr = false → F.round = none) → ∀ Q : Exit → Act → World → Prop,
   (∀ σ' w' a' es, Stp W nx o.2.2.2.1 σ h w σ' o.2.2.1 w' → RT σ' o.2.1 a'.tmps → dfR σ' o.2.2.2.2.2 = some es → a'.defers = es ++ ds → Q o.1.toExit a' w') → wp F m Q a w)
theorem Runs.seq {inr : Bool} {wp1 wp2 wp3 : Fence → Nat → (Exit → Act → World → Prop) → Act → World → Prop} {ts ts1 : Tm} {h h1 : Hp} {nx nx1 : Nat} {d1 ms1 : List Nat} {o : St5} {e ns : List Nat} (hd : o.2.2.2.2.1 = e ++ d1) (hms : o.2.2.2.2.2 = ns ++ ms1) (A : Runs inr wp1 ts h nx (.normal, ts1, h1, nx1, d1, ms1)) (B : Runs inr wp2 ts1 h1 nx1 (o.1, o.2.1, o.2.2.1, o.2.2.2.1, e, ns))
  (H : ∀ F m Q a w, wp1 F m (Exit.then (wp2 F m Q) Q) a w → wp3 F m Q a w) : Runs inr wp3 ts h nx o := by
 obtain ⟨x, ts2, h2, nx2, d2, ms2⟩ := o
 simp only at hd hms B
 subst hd
 subst hms
 obtain ⟨t1, s1⟩ := A
 obtain ⟨t2, s2⟩ := B
 refine ⟨t1.trans t2, fun hB W σ w a hR hf ht ds hdf F m hF hr Q hQ => H F m Q a w (s1 hB W σ w a hR (hf.low t2.1) ht ds hdf F m hF hr _ fun σ1 w1 a1 es1 b1 b2 b4 b3 => ?_)⟩
 exact s2 (t1.2.2 hB) W σ1 w1 a1 b1.rl (hf.next b1 t1.1) b2 (es1 ++ ds) b3 F m hF hr Q fun σ2 w2 a2 es2 c1 c2 c4 c3 => hQ σ2 w2 a2 (es2 ++ es1) (b1.trans c1 t1.1 t2.1) c2 (dfR_app c4 (dfR_le c1.le b4)) (by rw [c3, List.append_assoc])
theorem Runs.out {inr : Bool} {wp1 wp2 wp3 : Fence → Nat → (Exit → Act → World → Prop) → Act → World → Prop} {ts : Tm} {h : Hp} {nx : Nat} {o : St5} (hx : o.1 ≠ .normal) (A : Runs inr wp1 ts h nx o)
  (H : ∀ F m Q a w, wp1 F m (Exit.then (wp2 F m Q) Q) a w → wp3 F m Q a w) : Runs inr wp3 ts h nx o := by
 obtain ⟨t1, s1⟩ := A
 refine ⟨t1, fun hB W σ w a hR hf ht ds hdf F m hF hr Q hQ => H F m Q a w (s1 hB W σ w a hR hf ht ds hdf F m hF hr _ fun σ1 w1 a1 es b1 b2 b4 b3 => ?_)⟩
 have := hQ σ1 w1 a1 es b1 b2 b4 b3
 cases hx1 : o.1 with
 | normal => exact absurd hx1 hx
 | exit id => rw [hx1] at this; exact this
 | ret => rw [hx1] at this; exact this
theorem Runs.as {inr : Bool} {wp1 wp3 : Fence → Nat → (Exit → Act → World → Prop) → Act → World → Prop} {ts : Tm} {h : Hp} {nx : Nat} {o : St5} (A : Runs inr wp1 ts h nx o)
  (H : ∀ F m Q a w (σ : Sg), RT σ ts a.tmps → wp1 F m Q a w → wp3 F m Q a w) : Runs inr wp3 ts h nx o := by
 obtain ⟨t1, s1⟩ := A
 exact ⟨t1, fun hB W σ w a hR hf ht ds hdf F m hF hr Q hQ => H F m Q a w σ ht (s1 hB W σ w a hR hf ht ds hdf F m hF hr Q hQ)⟩
theorem Runs.here {inr : Bool} {wp : Fence → Nat → (Exit → Act → World → Prop) → Act → World → Prop} {ts : Tm} {h : Hp} {nx : Nat} {x : Xt} (H : ∀ F m (Q : Exit → Act → World → Prop) a w, Q x.toExit a w → wp F m Q a w) : Runs inr wp ts h nx (x, ts, h, nx, [], []) :=
 ⟨Tidy.refl _ _, fun _ W σ w a hR hf ht ds hdf F m hF hr Q hQ => H F m Q a w (hQ σ w a [] (Stp.refl hR nx) ht rfl hdf)⟩
theorem Ds {P : Program} {b : Frame} {a : Act} {c : Code} {k : List Item} {cs : List Frame} {w : World} : step P (lone (b.atR a (.code (.scope c) :: k)) cs w) = .next (lone (b.atR a (.code c :: .inScope c :: k)) cs w) :=
 step_lone_go (by simp [stepG, stepG.exec, Frame.atR])
theorem stepR_inScope {P : Program} {b : Frame} {a : Act} {c : Code} {k : List Item} {cs : List Frame} {w : World} : step P (lone (b.atR a (.inScope c :: k)) cs w) = .next (lone (b.atR a k) cs w) :=
 step_lone_go (by simp [stepG, stepG.exec, Frame.atR])
theorem scope_ok {F : Fence} {n : Nat} {P : Program} {c : Code} {Q : Exit → Act → World → Prop} {a : Act} {w : World} (h : c.wpIn F n P (Exit.noGoto Q) a w) : (Code.scope c).wpIn F n P Q a w := by
 intro b k cs hro hb hr
 have h0 : (lone (b.atR a (.code (.scope c) :: k)) cs w).fenced P F := fenced_calm hb hr rfl
 obtain ⟨e, a₁, w₁, hq, harr⟩ := h b (.inScope c :: k) cs hro hb hr
 cases e with
 | normal => exact ⟨.normal, a₁, w₁, hq, .head h0 Ds (StepsIn.trans harr (.one (fenced_calm hb hr rfl) stepR_inScope))⟩
 | exit id =>
  have hx : exitTo id (.inScope c :: k) = exitTo id k := by simp [exitTo]
  exact ⟨.exit id, a₁, w₁, hq, fun k' hk => .head h0 Ds (harr.1 k' (by rw [hx]; exact hk)),
    fun hr' hk => let ⟨k₁, h1, h2⟩ := harr.2 hr' (by rw [hx]; exact hk); ⟨k₁, h1, .head h0 Ds h2⟩⟩
 | goto l => exact hq.elim
 | ret => exact ⟨_, a₁, w₁, hq, .of_steps (.one h0 Ds) harr⟩
 | panic ch => exact ⟨_, a₁, w₁, hq, .of_steps (.one h0 Ds) harr⟩
 | outgrown => exact ⟨_, a₁, w₁, hq, .of_steps (.one h0 Ds) harr⟩
theorem lk_two {nx : Nat} {r s : Rw} {h : Hp} {n : Nat} (hn : n < nx) : lk ((nx + 1, r) :: (nx, s) :: h) n = lk h n := by
 rw [B3, if_neg (by omega), B3, if_neg (by omega)]
def jumpQ (P : Program) : Option Code → Fence → Nat → (Exit → Act → World → Prop) → Act → World → Prop
 | none, _, _, Q => fun a w => Q .normal a w
 | some cd, F, m, Q => cd.wpIn F m P Q
theorem range_ok {ts : Tm} {h : Hp} {nx : Nat} {g : Operand} {ps : Array Tmp} {as bd : Code} {gf : FuncId} {f c tm : List Value} {v : Value} {r : Value} {h2 : Hp} {nx2 : Nat} {d2 : List Nat}
  (hg : itV (evA ts g) = some (gf, f, c)) (hlt : Nat.blt gf yBig = true) (hent : entB E.P gf = true) (htm : tmL ts ts.n [] = v :: tm)
  (hcall : Tri E.P gf (f ++ [.func (.yield (nx + 1)) ⟨[]⟩ ⟨[]⟩] ++ c) ((nx + 1, ⟨.round .ready none (v :: tm) ps as bd, []⟩) :: (nx, ⟨.marks, []⟩) :: h) (nx + 2) (r, h2, nx2, d2))
  {st : LoopState} {pe : Option Code} {tm' : List Value} {ps' : Array Tmp} {as' bd' : Code} {cs' : List Value} (hl : lk h2 (nx + 1) = some ⟨.round st pe tm' ps' as' bd', cs'⟩) (hb : notBusy st = true) {o : St5}
  (ho : Runs false (jumpQ E.P pe) ts (delH h2 (nx + 1)) nx2 o) : Runs false (fun F m Q => (Code.rangeFunc g ps as bd).wpIn F m E.P Q) ts h nx (o.1, o.2.1, o.2.2.1, o.2.2.2.1, o.2.2.2.2.1 ++ d2, o.2.2.2.2.2 ++ [nx]) := by
 obtain ⟨t1, s1⟩ := hcall
 obtain ⟨t2, s2⟩ := ho
 simp only at t1 s1
 have hge : nx ≤ nx2 := Nat.le_trans (by omega) t1.1
 refine ⟨⟨Nat.le_trans hge t2.1, fun n hn hd => ?_, fun hB => t2.2.2 fun n hn => ?_⟩, fun hB W σ w a hR hf ht ds hdf F m hF hr Q hQ => ?_⟩
 ·simp only [List.mem_append, not_or] at hd
  rw [t2.2.1 n (by omega) hd.1, Bf, if_neg (by omega), t1.2.1 n (by omega) hd.2]
  exact lk_two hn
 ·rw [Bf]
  split
  ·rfl
  ·refine t1.2.2 (fun n hn => ?_) n hn
   rw [B3, if_neg (by omega), B3, if_neg (by omega)]
   exact hB n (by omega)
 ·have hB1 : Bd ((nx + 1, ⟨.round .ready none (v :: tm) ps as bd, []⟩) :: (nx, ⟨.marks, []⟩) :: h) (nx + 2) := fun n hn => by
   rw [B3, if_neg (by omega), B3, if_neg (by omega)]
   exact hB n (by omega)
  simp only at hf hQ
  have hf2 : Fresh σ nx nx2 := hf.low t2.1
  have hf0 : Fresh σ nx (nx + 2) := hf2.low t1.1
  have htl := tmL_ok ht ts.n [] [] (by rw [ht.n]; exact Nat.le_refl _) rfl htm
  rw [ht.n] at htl
  have htl' : renL σ (v :: tm) = some a.tmps.toList := by rw [List.take_of_length_le (by simp), List.append_nil] at htl; exact htl
  refine wpIn_rangeFunc fun fn hfn => ?_
  rw [hr rfl]
  have A1 := Stp.allocO hR (hf0.low (by omega)) (.deferred (some [])) .marks ⟨rfl, hR.ext.size, rfl, heap_alloc_new w _⟩
  have hf1 : Fresh (σ.bind nx (w.heap.size, 0)) (nx + 1) (nx + 1 + 1) := hf0.next A1 (by omega)
  have A2 := Stp.allocO A1.rl hf1 (.loop { state := .ready, pending := none, fn := fn, tmps := a.tmps, params := ps, assign := as, body := bd, defers := w.heap.size }) (.round .ready none (v :: tm) ps as bd)
   ⟨rfl, A1.rl.ext.size, rfl, fn, w.heap.size, a.tmps.toList, Cf ((A1.le).trans (Sg.le_bind (hf1 _ (Nat.le_refl _) (by omega)).1)) _ _ htl', by rw [heap_alloc_new]⟩
  have A := A1.trans A2 (by omega) (by omega)
  obtain ⟨σ2, hσ2⟩ : ∃ σ2, (σ.bind nx (w.heap.size, 0)).bind (nx + 1) ((w.alloc (.deferred (some []))).heap.size, 0) = σ2 := ⟨_, rfl⟩
  have hb1 : σ2.b nx = some (w.heap.size, 0) := by rw [← hσ2]; simp [Sg.bind]
  have hb2 : σ2.b (nx + 1) = some (w.heap.size + 1, 0) := by rw [← hσ2]; simp [Sg.bind]
  rw [hσ2] at A
  obtain ⟨w1, hw1⟩ : ∃ w1, (w.alloc (.deferred (some []))).alloc (.loop { state := .ready, pending := none, fn := fn, tmps := a.tmps, params := ps, assign := as, body := bd, defers := w.heap.size }) = w1 := ⟨_, rfl⟩
  rw [hw1] at A
  obtain ⟨gv, hgv, hgf⟩ : ∃ gv, evA ts g = some gv ∧ itV (some gv) = some (gf, f, c) := by
   cases he : evA ts g with
   | none => rw [he] at hg; cases hg
   | some gv => rw [he] at hg; exact ⟨gv, rfl, hg⟩
  have hren := evs_of ht g _ hgv
  unfold itV at hgf
  split at hgf
  case h_2 => cases hgf
  rename_i g0 f0 c0 e0
  cases e0
  cases hgf
  obtain ⟨fn', f', c', e1, hf', hc', hfn'⟩ := Du hren
  cases hfn'
  have hargs : renL σ2 (f0.toList ++ [.func (.yield (nx + 1)) ⟨[]⟩ ⟨[]⟩] ++ c0.toList) = some (f'.toList ++ [.func (.yield (w.heap.size + 1)) #[] #[]] ++ c'.toList) :=
   C7 (C7 (Cf A.le _ _ hf') (Bi (by simp only [renV, fnR, hb2, renA, renL]) rfl)) (Cf A.le _ _ hc')
  refine ⟨w.heap.size + 1, [{ target := .collected w.heap.size, args := #[] }], w1, { target := .fn (.func gf) c', args := f' ++ #[.func (.yield (w.heap.size + 1)) #[] #[]] }, w1, gf, f' ++ #[.func (.yield (w.heap.size + 1)) #[] #[]] ++ c', w1, ?_, ?_, fun f _ => by rw [hF.1]; trivial, ?_, fun h' => (by rw [hF.2.1] at h'; cases h'), hF.calls ?_⟩
  ·rw [← hw1]; exact run_enterLoop_outer _ _ _ _ _
  ·simp only [resolve, e1]
   simp [go_sem, Deferred.ofValue]
  ·simp only [invoke]; exact run_enter hent _ _
  ·have hS := s1 hB1 W σ2 w1 _ A.rl (hf2.next A (by omega)) hargs
   have e2 : (f'.toList ++ [Value.func (.yield (w.heap.size + 1)) #[] #[]] ++ c'.toList).toArray = f' ++ #[Value.func (.yield (w.heap.size + 1)) #[] #[]] ++ c' := by
    apply Array.toList_inj.1; simp
   rw [e2] at hS
   refine hS.mono ?_
   rintro e w2 ⟨σ3, u, S, hu, rfl⟩
   obtain ⟨b, s, vs, hbb, _, hk⟩ := S.rl.row _ _ hl
   have hbb' := S.le.1 _ _ hb2
   rw [hbb'] at hbb
   cases hbb
   obtain ⟨_, _, _, fn2, D2, tv2, _, hrec⟩ := hk
   have Wp := Stp.wipe S.rl hl (fun e => by cases e) hbb' (.loop { state := .exhausted, pending := pe, fn := fn2, tmps := tv2.toArray, params := ps', assign := as', body := bd', defers := D2 }) nx2
   have SS := S.trans Wp t1.1 (Nat.le_refl _)
   have SA := A.trans SS (by omega) t1.1
   refine ⟨pe, _, run_endLoop hrec (by rintro rfl; cases hb), ?_⟩
   have key := s2 (fun n hn => by
    rw [Bf]
    split
    ·rfl
    ·exact t1.2.2 hB1 n hn) W σ3 _ { a with defers := [{ target := .collected w.heap.size, args := #[] }] ++ a.defers } SA.rl (hf.next SA hge) (ht.le SA.le) _ rfl F m hF hr Q fun σ4 w4 a4 es b1 b2 b4 b3 => hQ σ4 w4 a4 (es ++ [{ target := .collected w.heap.size, args := #[] }]) (SA.trans b1 hge t2.1) b2
     (dfR_app b4 (by simp only [dfR, b1.le.1 _ _ (S.le.1 _ _ hb1)])) (by rw [b3]; simp [hdf])
   cases pe with
   | none => exact key
   | some cd => exact key
end

def resV1 (P : Program) (ts : Tm) (h : Hp) : ResultVar → Option Value
 | .tmp t => tg ts t
 | .cell p t => match tg ts p with
  | some (.pointer (some ⟨n, o, none⟩)) => match lk h n with
   | some r => Is P t r.cs o
   | none => none
  | _ => none
def resVL (P : Program) (ts : Tm) (h : Hp) : List ResultVar → Option (List Value)
 | [] => some []
 | x :: xs => match resV1 P ts h x, resVL P ts h xs with | some v, some vs => some (v :: vs) | _, _ => none
def one? : List Value → Value
 | [v] => v
 | vs => .tuple ⟨vs⟩
def flat1 : Value → Bool
 | .agg c => D5 c.toList
 | v => noAd v
def flats : List Value → Bool
 | [] => true
 | v :: vs => bif flat1 v then flats vs else false
def oldD (nx : Nat) : List Nat → List Nat
 | [] => []
 | n :: d => bif Nat.blt n nx then n :: oldD nx d else oldD nx d
def leave (h : Hp) (nx : Nat) (vs : List Value) (h' : Hp) (nx' : Nat) (d : List Nat) : Out :=
 match oldD nx d with
 | [] => bif flats vs then (one? vs, h, nx', []) else (one? vs, h', nx', [])
 | d' => (one? vs, h', nx', d')
section
variable {P : Program} {W : World} {σ : Sg} {h : Hp} {w : World}
def resOf (tmps : Array Value) : ResultVar → Sem Value
 | .tmp t => pure (tmps.getD t undef)
 | .cell a t => do loadVar t (← asAddr (tmps.getD a undef))
theorem resV1_ok (hR : Rl W σ h w) {ts : Tm} {tmps : Array Value} (ht : RT σ ts tmps) {x : ResultVar} {v : Value} (hv : resV1 P ts h x = some v) : ∃ v', renV σ v = some v' ∧ (resOf tmps x).run P w = .ok v' w := by
 have hg : ∀ (t : Nat) (u : Value), tg ts t = some u → renV σ u = some (tmps.getD t undef) := ht.s
 cases x with
 | tmp t => exact ⟨_, hg t v hv, rfl⟩
 | cell p t =>
  simp only [resV1] at hv
  split at hv
  ·rename_i n o hp
   split at hv
   ·rename_i r hr
    obtain ⟨q, hb, hq, _⟩ := E4 (hg p _ hp)
    obtain ⟨q', vs, hb', h2, h3⟩ := hR.cell hr
    rw [hb] at hb'
    cases hb'
    obtain ⟨v', h4, h5⟩ := loadV_ok (P := P) h2 h3 hv
    refine ⟨v', h4, ?_⟩
    simp only [resOf]
    rw [hq]
    simpa [asAddr] using h5
   ·cases hv
  ·cases hv
theorem resVL_ok (hR : Rl W σ h w) {ts : Tm} {tmps : Array Value} (ht : RT σ ts tmps) : ∀ {xs : List ResultVar} {vs : List Value}, resVL P ts h xs = some vs → ∃ vs', renL σ vs = some vs' ∧ (xs.mapM (resOf tmps)).run P w = .ok vs' w
 | [], vs, hv => by simp only [resVL, oI] at hv; subst hv; exact ⟨[], rfl, by simp⟩
 | x :: xs, vs, hv => by
   simp only [resVL] at hv
   split at hv
   ·rename_i u us h1 h2
    cases hv
    obtain ⟨u', e1, e2⟩ := resV1_ok hR ht h1
    obtain ⟨us', e3, e4⟩ := resVL_ok hR ht h2
    exact ⟨u' :: us', Bi e1 e3, by simp [List.mapM_cons, e2, e4]⟩
   ·cases hv
theorem one_ok {vs vs' : List Value} (hv : renL σ vs = some vs') : renV σ (one? vs) = some (if h : vs'.toArray.size = 1 then vs'.toArray[0] else .tuple vs'.toArray) := by
 have hl := Bn hv
 unfold one?
 split
 ·rename_i v
  obtain ⟨a, b, h1, h2, rfl⟩ := B9 hv
  simp only [renL, oI] at h2
  subst h2
  exact h1
 ·rename_i hno
  have : ¬ (vs'.toArray.size = 1) := fun e => by
   simp only [List.size_toArray] at e
   rw [hl] at e
   match vs, e, hno with
   | [v], _, hno => exact hno v rfl
  rw [dif_neg this]
  exact Jv hv
theorem results_run {fn : Func} (hR : Rl W σ h w) {ts : Tm} {tmps : Array Value} (ht : RT σ ts tmps) {vs : List Value} (hv : resVL P ts h fn.results.toList = some vs) : ∃ v', renV σ (one? vs) = some v' ∧ (results fn tmps).run P w = .ok v' w := by
 obtain ⟨vs', e1, e2⟩ := resVL_ok hR ht hv
 refine ⟨_, one_ok e1, ?_⟩
 have hm : (fn.results.mapM (resOf tmps)).run P w = .ok vs'.toArray w := by
  rw [Array.mapM_eq_mapM_toList]
  simp [e2]
 have hres : results fn tmps = (do let vs ← fn.results.mapM (resOf tmps); pure (if h : vs.size = 1 then vs[0] else .tuple vs)) := by
  unfold results
  congr 1
 rw [hres]
 simp only [Sem.run_bind, hm, Result.andThen_ok, Sem.run_pure]
theorem oldD_mem {nx n : Nat} (hn : n < nx) : ∀ {d : List Nat}, n ∈ d → n ∈ oldD nx d
 | [], h => by cases h
 | m :: d, h => by
   simp only [oldD]
   cases hm : Nat.blt m nx with
   | true =>
    simp only [cond_true, List.mem_cons] at h ⊢
    exact h.imp id fun h => oldD_mem hn h
   | false =>
    simp only [cond_false]
    rcases List.mem_cons.1 h with rfl | h
    ·have : Nat.blt n nx = true := Nat.ble_eq_true_of_le hn
     rw [this] at hm; cases hm
    ·exact oldD_mem hn h
end
theorem tri_leave {P : Program} {f : FuncId} {args : List Value} {h : Hp} {nx : Nat} {vs : List Value} {h' : Hp} {nx' : Nat} {d : List Nat} (T : Tri P f args h nx (one? vs, h', nx', d)) : Tri P f args h nx (leave h nx vs h' nx' d) := by
 obtain ⟨t, s⟩ := T
 have old : ∀ d', oldD nx d = d' → ∀ n, n < nx → n ∉ d' → n ∉ d := fun d' e n hn hd hm => hd (e ▸ oldD_mem hn hm)
 unfold leave
 split
 ·rename_i he
  have hkeep : ∀ n, n < nx → lk h' n = lk h n := fun n hn => t.2.1 n hn (old [] he n hn (by simp))
  cases hf : flats vs with
  | true =>
   refine ⟨⟨t.1, fun _ _ _ => rfl, fun hb n hn => hb n (Nat.le_trans t.1 hn)⟩, fun hb W σ w args' hR hfr ha => (s hb W σ w args' hR hfr ha).mono fun e w' ⟨σ', v', S, hv, he'⟩ => ⟨σ', v', S.less fun n r hl => ?_, hv, he'⟩⟩
   have hn : n < nx := by
    rcases Nat.lt_or_ge n nx with h1 | h1
    ·exact h1
    ·have hl' : lk h n = some r := hl
     rw [hb n h1] at hl'; cases hl'
   show lk h' n = some r
   rw [hkeep n hn]; exact hl
  | false => exact ⟨⟨t.1, fun n hn _ => hkeep n hn, t.2.2⟩, s⟩
 ·rename_i d' hd
  exact ⟨⟨t.1, fun n hn hd' => t.2.1 n hn (old _ rfl n hn hd'), t.2.2⟩, s⟩
theorem wide_in {F : Fence} (hF : Wide F) (l : Nat) : Wide (F.inRound l) := ⟨hF.1, hF.2.1, hF.2.2⟩
theorem Rl.record {W : World} {σ : Sg} {h : Hp} {w : World} (hR : Rl W σ h w) {n : Nat} {st : LoopState} {pe : Option Code} {tm : List Value} {ps : Array Tmp} {as bd : Code} {cs : List Value} (hl : lk h n = some ⟨.round st pe tm ps as bd, cs⟩) {p : Nat × Nat} (hp : σ.b n = some p) :
  p.2 = 0 ∧ W.heap.size ≤ p.1 ∧ ∃ fn D tv, renL σ tm = some tv ∧ w.heap[p.1]? = some (.loop { state := st, pending := pe, fn := fn, tmps := tv.toArray, params := ps, assign := as, body := bd, defers := D }) := by
 obtain ⟨b, s, vs, hb, _, hk⟩ := hR.row _ _ hl
 rw [hp] at hb
 cases hb
 exact ⟨hk.1, hk.2.1, hk.2.2.2⟩
theorem Stp.record {W : World} {σ : Sg} {h : Hp} {w : World} (hR : Rl W σ h w) {n : Nat} {st : LoopState} {pe : Option Code} {tm : List Value} {ps : Array Tmp} {as bd : Code} {cs : List Value} (hl : lk h n = some ⟨.round st pe tm ps as bd, cs⟩) {p : Nat × Nat} (hp : σ.b n = some p) {fn D : Nat} {tv : List Value}
  (hv : renL σ tm = some tv) (st' : LoopState) (pe' : Option Code) (lo : Nat) :
  Stp W lo lo σ h w σ (setH h n ⟨.round st' pe' tm ps as bd, []⟩) (w.putObj p.1 (.loop { state := st', pending := pe', fn := fn, tmps := tv.toArray, params := ps, assign := as, body := bd, defers := D })) := by
 have hge := hR.ge hl (fun e => by cases e) hp
 exact Stp.turn hR hl (fun e => by cases e) hp _ (.round st' pe' tm ps as bd) (fun e => by cases e) ⟨hge.2, hge.1, rfl, fn, D, tv, hv, World.putObj_heap_same (hR.lt hl (fun e => by cases e) hp)⟩ lo
theorem Tidy.set {h : Hp} {nx : Nat} {h' : Hp} {nx' : Nat} {d : List Nat} (t : Tidy h nx h' nx' d) {n : Nat} (hn : Bd h nx → n < nx') (r : Rw) : Tidy h nx (setH h' n r) nx' (n :: d) :=
 ⟨t.1, fun m hm hd => by
  simp only [List.mem_cons, not_or] at hd
  rw [Bo, if_neg (Ne.symm hd.1)]; exact t.2.1 m hm hd.2, fun hB m hm => by
  have := hn hB
  rw [Bo, if_neg (by omega)]; exact t.2.2 hB m hm⟩
theorem Bd.set {h : Hp} {nx : Nat} (hB : Bd h nx) {n : Nat} (hn : n < nx) (r : Rw) : Bd (setH h n r) nx := fun m hm => by
 rw [Bo, if_neg (by omega)]; exact hB m hm
theorem Bd.lt {h : Hp} {nx : Nat} (hB : Bd h nx) {n : Nat} {r : Rw} (hl : lk h n = some r) : n < nx := by
 rcases Nat.lt_or_ge n nx with h1 | h1
 ·exact h1
 ·rw [hB n h1] at hl; cases hl
theorem Tidy.through {h : Hp} {nx : Nat} {h1 : Hp} {nx1 : Nat} {d1 : List Nat} {h3 : Hp} {nx3 : Nat} {d3 : List Nat} {n : Nat} {r r' : Rw} (t1 : Tidy h nx h1 nx1 d1) (hl : lk h1 n = some r) (t3 : Tidy (setH h1 n r') nx1 h3 nx3 d3) (s : Rw) : Tidy h nx (setH h3 n s) nx3 (n :: (d3 ++ d1)) := by
 refine ⟨Nat.le_trans t1.1 t3.1, fun m hm hd => ?_, fun hB => ?_⟩
 ·simp only [List.mem_cons, List.mem_append, not_or] at hd
  have hne : ¬ n = m := fun e => hd.1 e.symm
  rw [Bo, if_neg hne, t3.2.1 m (Nat.lt_of_lt_of_le hm t1.1) hd.2.1, Bo, if_neg hne]
  exact t1.2.1 m hm hd.2.2
 ·have hB1 := t1.2.2 hB
  have hlt := hB1.lt hl
  exact (t3.2.2 (hB1.set hlt _)).set (Nat.lt_of_lt_of_le hlt t3.1) _
def Hn : Xt → Option Code
 | .normal => none
 | .ret => some .ret
 | .exit i => some (.exit i)
theorem roundPost_of {P : Program} {l : Nat} {R : Ending → World → Prop} {x : Xt} {a : Act} {w : World} (h : ∃ v w', (Instr.endRound l (Hn x)).run P w = .ok v w' ∧ R (.returned v) w') : roundPost P l R x.toExit a w := by
 cases x <;> exact h
theorem roundR_ok {P : Program} {n : Nat} {args : List Value} {h : Hp} {nx : Nat} {tm : List Value} {ps : Array Tmp} {as bd : Code} {cs : List Value} (hl : lk h n = some ⟨.round .ready none tm ps as bd, cs⟩) (hg : Nat.beq args.length ps.size = true ∧ tm.length ≤ 60000)
  {ts1 : Tm} {h1 : Hp} {nx1 : Nat} {d1 ms1 : List Nat} (has : Runs true (fun F m Q => as.wpIn F m P Q) (putL (tinit tm tm.length) ps.toList args) h nx (.normal, ts1, h1, nx1, d1, ms1))
  {tm1 : List Value} {ps1 : Array Tmp} {as1 bd1 : Code} {cs1 : List Value} (hl1 : lk h1 n = some ⟨.round .ready none tm1 ps1 as1 bd1, cs1⟩)
  {x : Xt} {ts3 : Tm} {h3 : Hp} {nx3 : Nat} {d3 ms3 : List Nat} (hbd : Runs true (fun F m Q => bd.wpIn F m P Q) ts1 (setH h1 n ⟨.round .busy none tm1 ps1 as1 bd1, []⟩) nx1 (x, ts3, h3, nx3, d3, ms3))
  {st3 : LoopState} {pe3 : Option Code} {tm3 : List Value} {ps3 : Array Tmp} {as3 bd3 : Code} {cs3 : List Value} (hl3 : lk h3 n = some ⟨.round st3 pe3 tm3 ps3 as3 bd3, cs3⟩) :
  TriR P n args h nx (.bool (Hn x).isNone, setH h3 n ⟨.round (if (Hn x).isNone then .ready else .done) (Hn x) tm3 ps3 as3 bd3, []⟩, nx3, n :: (d3 ++ d1)) := by
 obtain ⟨t1, s1⟩ := has
 obtain ⟨t3, s3⟩ := hbd
 simp only at t1 t3 s1 s3
 refine ⟨t1.through hl1 t3 _, fun hB W σ w args' hR hf ha p hp => ?_⟩
 obtain ⟨e1, e2, fn, D, tv, hv, hrec⟩ := hR.record hl hp
 simp only at hf
 have hsz : args'.toArray.size = ps.size := by
  simp only [List.size_toArray]; rw [Bn ha]; exact Nat.eq_of_beq_eq_true hg.1
 refine ⟨fn, _, as, bd, run_yield hrec hsz, fun F m hF => roundIn_of_wpIn (by rw [hF.1]; trivial) ?_⟩
 have hR0 : RT σ (putL (tinit tm tm.length) ps.toList args) ((ps.zip args'.toArray).foldl (fun tmps x => tmps.setIfInBounds x.1 x.2) tv.toArray) := by
  have := putL_ok (l := ps.toList) (tinit_ok hv hg.2 (Nat.le_refl _)) ha
  have e3 : tv.toArray ++ Array.replicate (tm.length - tv.length) undef = tv.toArray := by
   simp [Bn hv]
  rw [e3] at this
  rw [← putA_eq] at this
  rw [← Array.foldl_toList, Array.toList_zip]
  exact this
 refine s1 hB W σ w { tmps := _, defers := [] } hR (hf.low t3.1) hR0 [] rfl (F.inRound p.1) m (wide_in hF _) (by intro e; cases e) _ fun σ1 w1 a1 es1 S1 b2 b4 b3 => ?_
 have hp1 := S1.le.1 _ _ hp
 obtain ⟨_, _, fn1, D1, tv1, hv1, hrec1⟩ := S1.rl.record hl1 hp1
 refine ⟨_, run_beginRound hrec1 rfl, ?_⟩
 have T1 := Stp.record S1.rl hl1 hp1 hv1 (fn := fn1) (D := D1) .busy none nx1
 have ST := S1.trans T1 t1.1 (Nat.le_refl _)
 have hB1 := t1.2.2 hB
 refine s3 (hB1.set (hB1.lt hl1) _) W σ1 _ a1 T1.rl (hf.next ST t1.1) b2 a1.defers rfl (F.inRound p.1) m (wide_in hF _) (by intro e; cases e) _ fun σ3 w3 a3 es3 S3 c2 c4 c3 => ?_
 have hp3 := S3.le.1 _ _ hp1
 obtain ⟨_, _, fn3, D3, tv3, hv3, hrec3⟩ := S3.rl.record hl3 hp3
 have T3 := Stp.record S3.rl hl3 hp3 hv3 (fn := fn3) (D := D3) (if (Hn x).isNone then .ready else .done) (Hn x) nx3
 refine roundPost_of ⟨_, _, run_endRound _ hrec3, σ3, .bool (Hn x).isNone, (ST.trans S3 t1.1 t3.1).trans T3 (Nat.le_trans t1.1 t3.1) (Nat.le_refl _), rfl, rfl⟩
def noX : FuncId → List Value → Hp → Option Value := fun _ _ _ => none
def noT : FuncId → List Value → Hp → Nat → Option Out := fun _ _ _ _ => none
theorem Stp.ext {W : World} {σ : Sg} {h : Hp} {w w' : World} (hR : Rl W σ h w) (hx : Ext w w') (lo : Nat) : Stp W lo lo σ h w σ h w' :=
 Stp0.up ⟨Sg.le.refl σ, fun _ _ => ⟨rfl, rfl⟩, ⟨hR.ext.trans hx, fun n r hl => hR.keepA hl (Sg.le.refl _) fun b hb => Below.block hx b hb, hR.inj⟩, hx.size, fun b hb _ _ => Below.block hx b hb, fun n r p hl ho hb => .inr ⟨n, r, p, hl, ho, hb, rfl⟩⟩ hR.shr hR.wf (hR.shr.sub fun n r hl => ⟨r, hl, fun h => h⟩)
theorem L9 {P : Program} {f : FuncId} {args : List Value} {h : Hp} {nx : Nat} {v : Value} (ha : ∀ σ args', renL σ args = some args' → args' = args) (hv : ∀ σ, renV σ v = some v) (hC : ∀ w, Calls P f args.toArray w fun e w' => e = .returned v ∧ Ext w w') : Tri P f args h nx (v, h, nx, []) := by
 refine ⟨Tidy.refl _ _, fun _ W σ w args' hR _ hr => ?_⟩
 obtain rfl := ha σ args' hr
 exact (hC w).mono fun e w' ⟨he, hx⟩ => ⟨σ, v, Stp.ext hR hx nx, hv σ, he⟩
def XOne (P : Program) (g : FuncId → List Value → Hp → Option Value) : Prop := ∀ f args h v, g f args h = some v → ∀ W σ w args', Rl W σ h w → renL σ args = some args' → renV σ v = some v ∧ (callFunc f args'.toArray).run P w = .ok (.value v) w
def sg0 : Sg := ⟨fun _ => none, fun _ => none, fun _ => none, fun _ => none, true⟩
end Go.Proofs.Ytojakfnljopjbaa
