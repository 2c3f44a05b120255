/-
  The machine that runs in the kernel, part T: code and whole calls.
-/
import Derived.Test.YtmoflcoijmmpjaaVmTa
import Derived.Scope
namespace Go.Proofs.Ytmoflcoijmmpjaa
set_option linter.unusedSimpArgs false
set_option linter.unusedVariables false
set_option linter.unusedSectionVars false
open Go Go.RowKit

inductive Xt where
  | normal
  | exit (id : Nat)
  | ret
def Xt.toExit : Xt → Exit
  | .normal => .normal
  | .exit id => .exit id
  | .ret => .ret
abbrev St5 := Xt × Tm × Hp × Nat × List Nat × List Nat
def nrm : Option St4 → Option St5
  | some (ts, h, nx, d) => some (.normal, ts, h, nx, d, [])
  | none => none
def addD (d ms : List Nat) : Option St5 → Option St5
  | some (x, ts, h, nx, e, ns) => some (x, ts, h, nx, e ++ d, ns ++ ms)
  | none => none
def unB (id : Nat) : Option St5 → Option St5
  | some (.exit i, ts, h, nx, d, ms) => bif Nat.beq i id then some (.normal, ts, h, nx, d, ms) else some (.exit i, ts, h, nx, d, ms)
  | r => r
def itV : Option Value → Option (FuncId × List Value × List Value)
  | some (.func (.func g) f c) => some (g, f.toList, c.toList)
  | _ => none
def notBusy : LoopState → Bool
  | .busy => false
  | _ => true
def codeV (E : Env) (call : FuncId → List Value → Hp → Nat → Option Out) (inr : Bool) : Nat → Code → Tm → Hp → Nat → Option St5
  | 0, _, _, _, _ => none
  | k + 1, c, ts, h, nx => match c with
    | .skip => some (.normal, ts, h, nx, [], [])
    | .label _ => some (.normal, ts, h, nx, [], [])
    | .exit id => some (.exit id, ts, h, nx, [], [])
    | .ret => some (.ret, ts, h, nx, [], [])
    | .region _ ops draw => bif draw then nrm (drawV E call ops ts h nx) else nrm (seqV E call ops ops.toList ts h nx)
    | .seq x y => match codeV E call inr k x ts h nx with
      | some (.normal, ts, h, nx, d, ms) => addD d ms (codeV E call inr k y ts h nx)
      | r => r
    | .cond c x y => match evA ts c with
      | some (.bool b) => bif b then codeV E call inr k x ts h nx else codeV E call inr k y ts h nx
      | _ => none
    | .block id x => unB id (codeV E call inr k x ts h nx)
    | .scope x => codeV E call inr k x ts h nx
    | .loop x => match codeV E call inr k x ts h nx with
      | some (.normal, ts, h, nx, d, ms) => addD d ms (codeV E call inr k (.loop x) ts h nx)
      | r => r
    | .rangeFunc g ps as bd => bif inr then none else (match itV (evA ts g) with
      | some (gf, f, c) => bif Nat.blt gf yBig && entB E.P gf then (match tmL ts ts.n [] with
        | [] => none
        | v :: tm => match call gf (f ++ [.func (.yield (nx + 1)) ⟨[]⟩ ⟨[]⟩] ++ c) ((nx + 1, ⟨.round .ready none (v :: tm) ps as bd, []⟩) :: (nx, ⟨.marks, []⟩) :: h) (nx + 2) with
          | some (_, h2, nx2, d2) => match lk h2 (nx + 1) with
            | some ⟨.round st pe _ _ _ _, _⟩ => bif notBusy st then (match pe with
              | none => some (.normal, ts, delH h2 (nx + 1), nx2, d2, [nx])
              | some cd => addD d2 [nx] (codeV E call inr k cd ts (delH h2 (nx + 1)) nx2)) else none
            | _ => none
          | none => none) else none
      | none => none)
    | _ => none

section
variable {E : Env} {call : FuncId → List Value → Hp → Nat → Option Out}
def Runs (inr : Bool) (wp : Fence → Nat → (Exit → Act → World → Prop) → Act → World → Prop) (ts : Tm) (h : Hp) (nx : Nat) (o : St5) : Prop :=
  Tidy h nx o.2.2.1 o.2.2.2.1 o.2.2.2.2.1 ∧ (Bd h nx → ∀ W σ w a, Rl W σ h w → Fresh σ nx o.2.2.2.1 → RT σ ts a.tmps → ∀ ds, a.defers = ds → ∀ (F : Fence) (m : Nat), Wide F → (inr = false → F.round = none) → ∀ Q : Exit → Act → World → Prop,
      (∀ σ' w' a' es, Stp W nx o.2.2.2.1 σ h w σ' o.2.2.1 w' → RT σ' o.2.1 a'.tmps → dfR σ' o.2.2.2.2.2 = some es → a'.defers = es ++ ds → Q o.1.toExit a' w') → wp F m Q a w)
theorem addD_of {d ms : List Nat} {r : Option St5} {o : St5} (h : addD d ms r = some o) : ∃ e ns, r = some (o.1, o.2.1, o.2.2.1, o.2.2.2.1, e, ns) ∧ o.2.2.2.2.1 = e ++ d ∧ o.2.2.2.2.2 = ns ++ ms := by
  unfold addD at h
  split at h
  · cases h; exact ⟨_, _, rfl, rfl, rfl⟩
  · cases h
theorem nrm_of {r : Option St4} {o : St5} (h : nrm r = some o) : o.1 = .normal ∧ o.2.2.2.2.2 = [] ∧ r = some (o.2.1, o.2.2.1, o.2.2.2.1, o.2.2.2.2.1) := by
  unfold nrm at h
  split at h
  · cases h; exact ⟨rfl, rfl, rfl⟩
  · cases h
theorem Runs.seq {inr : Bool} {wp1 wp2 wp3 : Fence → Nat → (Exit → Act → World → Prop) → Act → World → Prop} {ts ts1 : Tm} {h h1 : Hp} {nx nx1 : Nat} {d1 ms1 : List Nat} {o : St5} {e ns : List Nat} (hd : o.2.2.2.2.1 = e ++ d1) (hms : o.2.2.2.2.2 = ns ++ ms1) (A : Runs inr wp1 ts h nx (.normal, ts1, h1, nx1, d1, ms1)) (B : Runs inr wp2 ts1 h1 nx1 (o.1, o.2.1, o.2.2.1, o.2.2.2.1, e, ns))
    (H : ∀ F m Q a w, wp1 F m (Exit.then (wp2 F m Q) Q) a w → wp3 F m Q a w) : Runs inr wp3 ts h nx o := by
  obtain ⟨x, ts2, h2, nx2, d2, ms2⟩ := o
  simp only at hd hms B
  subst hd
  subst hms
  obtain ⟨t1, s1⟩ := A
  obtain ⟨t2, s2⟩ := B
  refine ⟨t1.trans t2, fun hB W σ w a hR hf ht ds hdf F m hF hr Q hQ => H F m Q a w (s1 hB W σ w a hR (hf.low t2.1) ht ds hdf F m hF hr _ fun σ1 w1 a1 es1 b1 b2 b4 b3 => ?_)⟩
  exact s2 (t1.2.2 hB) W σ1 w1 a1 b1.rl (hf.next b1 t1.1) b2 (es1 ++ ds) b3 F m hF hr Q fun σ2 w2 a2 es2 c1 c2 c4 c3 => hQ σ2 w2 a2 (es2 ++ es1) (b1.trans c1 t1.1 t2.1) c2 (dfR_app c4 (dfR_le c1.le b4)) (by rw [c3, List.append_assoc])
theorem Runs.out {inr : Bool} {wp1 wp2 wp3 : Fence → Nat → (Exit → Act → World → Prop) → Act → World → Prop} {ts : Tm} {h : Hp} {nx : Nat} {o : St5} (hx : o.1 ≠ .normal) (A : Runs inr wp1 ts h nx o)
    (H : ∀ F m Q a w, wp1 F m (Exit.then (wp2 F m Q) Q) a w → wp3 F m Q a w) : Runs inr wp3 ts h nx o := by
  obtain ⟨t1, s1⟩ := A
  refine ⟨t1, fun hB W σ w a hR hf ht ds hdf F m hF hr Q hQ => H F m Q a w (s1 hB W σ w a hR hf ht ds hdf F m hF hr _ fun σ1 w1 a1 es b1 b2 b4 b3 => ?_)⟩
  have := hQ σ1 w1 a1 es b1 b2 b4 b3
  cases hx1 : o.1 with
  | normal => exact absurd hx1 hx
  | exit id => rw [hx1] at this; exact this
  | ret => rw [hx1] at this; exact this
theorem Runs.as {inr : Bool} {wp1 wp3 : Fence → Nat → (Exit → Act → World → Prop) → Act → World → Prop} {ts : Tm} {h : Hp} {nx : Nat} {o : St5} (A : Runs inr wp1 ts h nx o)
    (H : ∀ F m Q a w (σ : Sg), RT σ ts a.tmps → wp1 F m Q a w → wp3 F m Q a w) : Runs inr wp3 ts h nx o := by
  obtain ⟨t1, s1⟩ := A
  exact ⟨t1, fun hB W σ w a hR hf ht ds hdf F m hF hr Q hQ => H F m Q a w σ ht (s1 hB W σ w a hR hf ht ds hdf F m hF hr Q hQ)⟩
theorem Runs.here {inr : Bool} {wp : Fence → Nat → (Exit → Act → World → Prop) → Act → World → Prop} {ts : Tm} {h : Hp} {nx : Nat} {x : Xt} (H : ∀ F m (Q : Exit → Act → World → Prop) a w, Q x.toExit a w → wp F m Q a w) : Runs inr wp ts h nx (x, ts, h, nx, [], []) :=
  ⟨Tidy.refl _ _, fun _ W σ w a hR hf ht ds hdf F m hF hr Q hQ => H F m Q a w (hQ σ w a [] (Stp.refl hR nx) ht rfl hdf)⟩
theorem stepR_scope {P : Program} {b : Frame} {a : Act} {c : Code} {k : List Item} {cs : List Frame} {w : World} : step P (lone (b.atR a (.code (.scope c) :: k)) cs w) = .next (lone (b.atR a (.code c :: .inScope c :: k)) cs w) :=
  step_lone_go (by simp [stepG, stepG.exec, Frame.atR])
theorem stepR_inScope {P : Program} {b : Frame} {a : Act} {c : Code} {k : List Item} {cs : List Frame} {w : World} : step P (lone (b.atR a (.inScope c :: k)) cs w) = .next (lone (b.atR a k) cs w) :=
  step_lone_go (by simp [stepG, stepG.exec, Frame.atR])
theorem scope_ok {F : Fence} {n : Nat} {P : Program} {c : Code} {Q : Exit → Act → World → Prop} {a : Act} {w : World} (h : c.wpIn F n P (Exit.noGoto Q) a w) : (Code.scope c).wpIn F n P Q a w := by
  intro b k cs hro hb hr
  have h0 : (lone (b.atR a (.code (.scope c) :: k)) cs w).fenced P F := fenced_calm hb hr rfl
  obtain ⟨e, a₁, w₁, hq, harr⟩ := h b (.inScope c :: k) cs hro hb hr
  cases e with
  | normal => exact ⟨.normal, a₁, w₁, hq, .head h0 stepR_scope (StepsIn.trans harr (.one (fenced_calm hb hr rfl) stepR_inScope))⟩
  | exit id =>
    have hx : exitTo id (.inScope c :: k) = exitTo id k := by simp [exitTo]
    exact ⟨.exit id, a₁, w₁, hq, fun k' hk => .head h0 stepR_scope (harr.1 k' (by rw [hx]; exact hk)),
        fun hr' hk => let ⟨k₁, h1, h2⟩ := harr.2 hr' (by rw [hx]; exact hk); ⟨k₁, h1, .head h0 stepR_scope h2⟩⟩
  | goto l => exact hq.elim
  | ret => exact ⟨_, a₁, w₁, hq, .of_steps (.one h0 stepR_scope) harr⟩
  | panic ch => exact ⟨_, a₁, w₁, hq, .of_steps (.one h0 stepR_scope) harr⟩
  | outgrown => exact ⟨_, a₁, w₁, hq, .of_steps (.one h0 stepR_scope) harr⟩
theorem lk_two {nx : Nat} {r s : Rw} {h : Hp} {n : Nat} (hn : n < nx) : lk ((nx + 1, r) :: (nx, s) :: h) n = lk h n := by
  rw [lk_cons, if_neg (by omega), lk_cons, if_neg (by omega)]
def jumpQ (P : Program) : Option Code → Fence → Nat → (Exit → Act → World → Prop) → Act → World → Prop
  | none, _, _, Q => fun a w => Q .normal a w
  | some cd, F, m, Q => cd.wpIn F m P Q
theorem range_ok {ts : Tm} {h : Hp} {nx : Nat} {g : Operand} {ps : Array Tmp} {as bd : Code} {gf : FuncId} {f c tm : List Value} {v : Value} {r : Value} {h2 : Hp} {nx2 : Nat} {d2 : List Nat}
    (hg : itV (evA ts g) = some (gf, f, c)) (hlt : Nat.blt gf yBig = true) (hent : entB E.P gf = true) (htm : tmL ts ts.n [] = v :: tm)
    (hcall : Tri E.P gf (f ++ [.func (.yield (nx + 1)) ⟨[]⟩ ⟨[]⟩] ++ c) ((nx + 1, ⟨.round .ready none (v :: tm) ps as bd, []⟩) :: (nx, ⟨.marks, []⟩) :: h) (nx + 2) (r, h2, nx2, d2))
    {st : LoopState} {pe : Option Code} {tm' : List Value} {ps' : Array Tmp} {as' bd' : Code} {cs' : List Value} (hl : lk h2 (nx + 1) = some ⟨.round st pe tm' ps' as' bd', cs'⟩) (hb : notBusy st = true) {o : St5}
    (ho : Runs false (jumpQ E.P pe) ts (delH h2 (nx + 1)) nx2 o) : Runs false (fun F m Q => (Code.rangeFunc g ps as bd).wpIn F m E.P Q) ts h nx (o.1, o.2.1, o.2.2.1, o.2.2.2.1, o.2.2.2.2.1 ++ d2, o.2.2.2.2.2 ++ [nx]) := by
  obtain ⟨t1, s1⟩ := hcall
  obtain ⟨t2, s2⟩ := ho
  simp only at t1 s1
  have hge : nx ≤ nx2 := Nat.le_trans (by omega) t1.1
  refine ⟨⟨Nat.le_trans hge t2.1, fun n hn hd => ?_, fun hB => t2.2.2 fun n hn => ?_⟩, fun hB W σ w a hR hf ht ds hdf F m hF hr Q hQ => ?_⟩
  · simp only [List.mem_append, not_or] at hd
    rw [t2.2.1 n (by omega) hd.1, lk_delH, if_neg (by omega), t1.2.1 n (by omega) hd.2]
    exact lk_two hn
  · rw [lk_delH]
    split
    · rfl
    · refine t1.2.2 (fun n hn => ?_) n hn
      rw [lk_cons, if_neg (by omega), lk_cons, if_neg (by omega)]
      exact hB n (by omega)
  · have hB1 : Bd ((nx + 1, ⟨.round .ready none (v :: tm) ps as bd, []⟩) :: (nx, ⟨.marks, []⟩) :: h) (nx + 2) := fun n hn => by
      rw [lk_cons, if_neg (by omega), lk_cons, if_neg (by omega)]
      exact hB n (by omega)
    simp only at hf hQ
    have hf2 : Fresh σ nx nx2 := hf.low t2.1
    have hf0 : Fresh σ nx (nx + 2) := hf2.low t1.1
    have htl := tmL_ok ht ts.n [] [] (by rw [ht.n]; exact Nat.le_refl _) rfl htm
    rw [ht.n] at htl
    have htl' : renL σ (v :: tm) = some a.tmps.toList := by rw [List.take_of_length_le (by simp), List.append_nil] at htl; exact htl
    refine wpIn_rangeFunc fun fn hfn => ?_
    rw [hr rfl]
    have A1 := Stp.allocO hR (hf0.low (by omega)) (.deferred (some [])) .marks ⟨rfl, hR.ext.size, rfl, heap_alloc_new w _⟩
    have hf1 : Fresh (σ.bind nx (w.heap.size, 0)) (nx + 1) (nx + 1 + 1) := hf0.next A1 (by omega)
    have A2 := Stp.allocO A1.rl hf1 (.loop { state := .ready, pending := none, fn := fn, tmps := a.tmps, params := ps, assign := as, body := bd, defers := w.heap.size }) (.round .ready none (v :: tm) ps as bd)
      ⟨rfl, A1.rl.ext.size, rfl, fn, w.heap.size, a.tmps.toList, renL_le ((A1.le).trans (Sg.le_bind (hf1 _ (Nat.le_refl _) (by omega)).1)) _ _ htl', by rw [heap_alloc_new]⟩
    have A := A1.trans A2 (by omega) (by omega)
    obtain ⟨σ2, hσ2⟩ : ∃ σ2, (σ.bind nx (w.heap.size, 0)).bind (nx + 1) ((w.alloc (.deferred (some []))).heap.size, 0) = σ2 := ⟨_, rfl⟩
    have hb1 : σ2.b nx = some (w.heap.size, 0) := by rw [← hσ2]; simp [Sg.bind]
    have hb2 : σ2.b (nx + 1) = some (w.heap.size + 1, 0) := by rw [← hσ2]; simp [Sg.bind]
    rw [hσ2] at A
    obtain ⟨w1, hw1⟩ : ∃ w1, (w.alloc (.deferred (some []))).alloc (.loop { state := .ready, pending := none, fn := fn, tmps := a.tmps, params := ps, assign := as, body := bd, defers := w.heap.size }) = w1 := ⟨_, rfl⟩
    rw [hw1] at A
    obtain ⟨gv, hgv, hgf⟩ : ∃ gv, evA ts g = some gv ∧ itV (some gv) = some (gf, f, c) := by
      cases he : evA ts g with
      | none => rw [he] at hg; cases hg
      | some gv => rw [he] at hg; exact ⟨gv, rfl, hg⟩
    have hren := evs_of ht g _ hgv
    unfold itV at hgf
    split at hgf
    case h_2 => cases hgf
    rename_i g0 f0 c0 e0
    cases e0
    cases hgf
    obtain ⟨fn', f', c', e1, hf', hc', hfn'⟩ := renV_func hren
    cases hfn'
    have hargs : renL σ2 (f0.toList ++ [.func (.yield (nx + 1)) ⟨[]⟩ ⟨[]⟩] ++ c0.toList) = some (f'.toList ++ [.func (.yield (w.heap.size + 1)) #[] #[]] ++ c'.toList) :=
      renL_app (renL_app (renL_le A.le _ _ hf') (renL_mk (by simp only [renV, fnR, hb2, renA, renL]) rfl)) (renL_le A.le _ _ hc')
    refine ⟨w.heap.size + 1, [{ target := .collected w.heap.size, args := #[] }], w1, { target := .fn (.func gf) c', args := f' ++ #[.func (.yield (w.heap.size + 1)) #[] #[]] }, w1, gf, f' ++ #[.func (.yield (w.heap.size + 1)) #[] #[]] ++ c', w1, ?_, ?_, fun f _ => by rw [hF.1]; trivial, ?_, fun h' => (by rw [hF.2.1] at h'; cases h'), hF.calls ?_⟩
    · rw [← hw1]; exact run_enterLoop_outer _ _ _ _ _
    · simp only [resolve, e1]
      simp [go_sem, Deferred.ofValue]
    · simp only [invoke]; exact run_enter hent _ _
    · have hS := s1 hB1 W σ2 w1 _ A.rl (hf2.next A (by omega)) hargs
      have e2 : (f'.toList ++ [Value.func (.yield (w.heap.size + 1)) #[] #[]] ++ c'.toList).toArray = f' ++ #[Value.func (.yield (w.heap.size + 1)) #[] #[]] ++ c' := by
        apply Array.toList_inj.1; simp
      rw [e2] at hS
      refine hS.mono ?_
      rintro e w2 ⟨σ3, u, S, hu, rfl⟩
      obtain ⟨b, s, vs, hbb, _, hk⟩ := S.rl.row _ _ hl
      have hbb' := S.le.1 _ _ hb2
      rw [hbb'] at hbb
      cases hbb
      obtain ⟨_, _, _, fn2, D2, tv2, _, hrec⟩ := hk
      have Wp := Stp.wipe S.rl hl (fun e => by cases e) hbb' (.loop { state := .exhausted, pending := pe, fn := fn2, tmps := tv2.toArray, params := ps', assign := as', body := bd', defers := D2 }) nx2
      have SS := S.trans Wp t1.1 (Nat.le_refl _)
      have SA := A.trans SS (by omega) t1.1
      refine ⟨pe, _, run_endLoop hrec (by rintro rfl; cases hb), ?_⟩
      have key := s2 (fun n hn => by
        rw [lk_delH]
        split
        · rfl
        · exact t1.2.2 hB1 n hn) W σ3 _ { a with defers := [{ target := .collected w.heap.size, args := #[] }] ++ a.defers } SA.rl (hf.next SA hge) (ht.le SA.le) _ rfl F m hF hr Q fun σ4 w4 a4 es b1 b2 b4 b3 => hQ σ4 w4 a4 (es ++ [{ target := .collected w.heap.size, args := #[] }]) (SA.trans b1 hge t2.1) b2
          (dfR_app b4 (by simp only [dfR, b1.le.1 _ _ (S.le.1 _ _ hb1)])) (by rw [b3]; simp [hdf])
      cases pe with
      | none => exact key
      | some cd => exact key
theorem codeV_ok (hX : XOk E) (hC : COk E.P call) (hm : E.P.follows .mixedOrders = true) {inr : Bool} : ∀ (k : Nat),
    (∀ (c : Code) (ts : Tm) (h : Hp) (nx : Nat) (o : St5), codeV E call inr k c ts h nx = some o → Runs inr (fun F m Q => c.wpIn F m E.P Q) ts h nx o) ∧
    (∀ (x : Code) (ts : Tm) (h : Hp) (nx : Nat) (o : St5), codeV E call inr k (.loop x) ts h nx = some o → Runs inr (fun F m Q => Code.roundsIn F m E.P x Q k) ts h nx o)
  | 0 => ⟨fun c ts h nx o hs => by simp [codeV] at hs, fun c ts h nx o hs => by simp [codeV] at hs⟩
  | k + 1 => by
      obtain ⟨ih, ihl⟩ := codeV_ok hX hC hm (inr := inr) k
      have loopK : ∀ (x : Code) (ts : Tm) (h : Hp) (nx : Nat) (o : St5), codeV E call inr (k + 1) (.loop x) ts h nx = some o → Runs inr (fun F m Q => Code.roundsIn F m E.P x Q (k + 1)) ts h nx o := by
        intro x ts h nx o hs
        simp only [codeV] at hs
        split at hs
        · rename_i ts1 h1 nx1 d1 ms1 h2
          obtain ⟨e, ns, he, hd, hms⟩ := addD_of hs
          exact Runs.seq hd hms (ih _ _ _ _ _ h2) (ihl _ _ _ _ _ he) fun F m Q a w hh => by rw [roundsIn_succ]; exact hh
        · rename_i hno
          refine Runs.out (wp2 := fun F m Q => Code.roundsIn F m E.P x Q k) (fun e => ?_) (ih _ _ _ _ _ hs) fun F m Q a w hh => by rw [roundsIn_succ]; exact hh
          obtain ⟨x1, ts1, h1, nx1, d1, ms1⟩ := o
          simp only at e
          subst e
          exact hno _ _ _ _ _ hs
      refine ⟨fun c ts h nx o hs => ?_, loopK⟩
      cases c with
      | loop x => exact (loopK x ts h nx o hs).as fun F m Q a w σ ht hh => wpIn_loop_rounds (k + 1) hh
      | skip => simp only [codeV, Option.some.injEq] at hs; subst hs; exact Runs.here fun F m Q a w => wpIn_skip
      | label l => simp only [codeV, Option.some.injEq] at hs; subst hs; exact Runs.here fun F m Q a w => wpIn_label
      | exit id => simp only [codeV, Option.some.injEq] at hs; subst hs; exact Runs.here fun F m Q a w => wpIn_exit
      | ret => simp only [codeV, Option.some.injEq] at hs; subst hs; exact Runs.here fun F m Q a w => wpIn_ret
      | region id ops draw =>
        simp only [codeV] at hs
        cases draw with
        | true =>
          simp only [cond_true] at hs
          obtain ⟨e1, e3, e2⟩ := nrm_of hs
          obtain ⟨x, ts', h', nx', d, ms⟩ := o
          simp only at e1 e2 e3
          subst e1
          subst e3
          obtain ⟨t1, s1⟩ := drawV_ok (id := id) hX hC hm e2
          exact ⟨t1, fun hB W σ w a hR hf ht ds hdf F m hF _ Q hQ => s1 hB W σ w a hR hf ht ds hdf F m hF Q fun σ' w' a' b1 b2 b3 => hQ σ' w' a' [] b1 b2 rfl b3⟩
        | false =>
          simp only [cond_false] at hs
          obtain ⟨e1, e3, e2⟩ := nrm_of hs
          obtain ⟨x, ts', h', nx', d, ms⟩ := o
          simp only at e1 e2 e3
          subst e1
          subst e3
          obtain ⟨t1, s1⟩ := seqV_ok hX hC ops.toList ts h nx ts' h' nx' d e2
          exact ⟨t1, fun hB W σ w a hR hf ht ds hdf F m hF _ Q hQ => wpIn_region_list (s1 hB W σ w a hR hf ht ds hdf F m hF Q fun σ' w' a' b1 b2 b3 => hQ σ' w' a' [] b1 b2 rfl b3)⟩
      | seq x y =>
        simp only [codeV] at hs
        split at hs
        · rename_i ts1 h1 nx1 d1 ms1 h2
          obtain ⟨e, ns, he, hd, hms⟩ := addD_of hs
          exact Runs.seq hd hms (ih _ _ _ _ _ h2) (ih _ _ _ _ _ he) fun F m Q a w hh => wpIn_seq hh
        · rename_i hno
          refine Runs.out (wp2 := fun F m Q => y.wpIn F m E.P Q) (fun e => ?_) (ih _ _ _ _ _ hs) fun F m Q a w hh => wpIn_seq hh
          obtain ⟨x1, ts1, h1, nx1, d1, ms1⟩ := o
          simp only at e
          subst e
          exact hno _ _ _ _ _ hs
      | cond c x y =>
        simp only [codeV] at hs
        split at hs
        · rename_i b hc
          have hev : ∀ (σ : Sg) (a : Act), RT σ ts a.tmps → a.eval c = .bool b := fun σ a ht => by
            have := evs_of ht c _ hc
            simp only [renV, Option.some.injEq] at this
            exact this.symm
          cases b with
          | true => exact (ih x _ _ _ _ hs).as fun F m Q a w σ ht hh => wpIn_cond_true (hev σ a ht) hh
          | false => exact (ih y _ _ _ _ hs).as fun F m Q a w σ ht hh => wpIn_cond_false (hev σ a ht) hh
        · cases hs
      | scope x =>
        simp only [codeV] at hs
        obtain ⟨t1, s1⟩ := ih x _ _ _ _ hs
        refine ⟨t1, fun hB W σ w a hR hf ht ds hdf F m hF hr Q hQ => scope_ok (s1 hB W σ w a hR hf ht ds hdf F m hF hr _ fun σ' w' a' es b1 b2 b4 b3 => ?_)⟩
        have := hQ σ' w' a' es b1 b2 b4 b3
        cases hx : o.1 <;> rw [hx] at this <;> exact this
      | block id x =>
        simp only [codeV] at hs
        unfold unB at hs
        split at hs
        · rename_i i ts1 h1 nx1 d1 ms1 he
          obtain ⟨t1, s1⟩ := ih x _ _ _ _ he
          rcases bif_or hs with ⟨hb, hs⟩ | ⟨hb, hs⟩
          · cases hs
            have := Nat.eq_of_beq_eq_true hb
            subst this
            refine ⟨t1, fun hB W σ w a hR hf ht ds hdf F m hF hr Q hQ => wpIn_block (s1 hB W σ w a hR hf ht ds hdf F m hF hr _ fun σ' w' a' es b1 b2 b4 b3 => ?_)⟩
            simp only [Xt.toExit, Exit.inBlock, if_true]
            exact hQ σ' w' a' es b1 b2 b4 b3
          · cases hs
            have hne : i ≠ id := fun e => by subst e; simp at hb
            refine ⟨t1, fun hB W σ w a hR hf ht ds hdf F m hF hr Q hQ => wpIn_block (s1 hB W σ w a hR hf ht ds hdf F m hF hr _ fun σ' w' a' es b1 b2 b4 b3 => ?_)⟩
            simp only [Xt.toExit, Exit.inBlock, if_neg hne]
            exact hQ σ' w' a' es b1 b2 b4 b3
        · rename_i hno
          obtain ⟨t1, s1⟩ := ih x _ _ _ _ hs
          refine ⟨t1, fun hB W σ w a hR hf ht ds hdf F m hF hr Q hQ => wpIn_block (s1 hB W σ w a hR hf ht ds hdf F m hF hr _ fun σ' w' a' es b1 b2 b4 b3 => ?_)⟩
          have := hQ σ' w' a' es b1 b2 b4 b3
          obtain ⟨x1, ts1, h1, nx1, d1, ms1⟩ := o
          cases x1 with
          | exit i => exact (hno _ _ _ _ _ _ hs).elim
          | normal => exact this
          | ret => exact this
      | rangeFunc g ps as bd =>
        simp only [codeV] at hs
        rcases bif_or hs with ⟨hb, hs⟩ | ⟨hb, hs⟩
        · cases hs
        subst hb
        split at hs
        case h_2 => cases hs
        rename_i gf f c hg
        obtain ⟨hc, hs⟩ := bif_of hs
        simp only [Bool.and_eq_true] at hc
        split at hs
        case h_1 => cases hs
        rename_i v tm htm
        split at hs
        case h_2 => cases hs
        rename_i r h2 nx2 d2 hcall
        split at hs
        case h_2 => cases hs
        rename_i st pe tm' ps' as' bd' cs' hl
        obtain ⟨hnb, hs⟩ := bif_of hs
        cases pe with
        | none =>
          simp only [Option.some.injEq] at hs
          subst hs
          exact range_ok hg hc.1 hc.2 htm (hC.fn gf _ _ _ _ hcall (Nat.le_of_ble_eq_true hc.1)) hl hnb (o := (.normal, ts, delH h2 (nx + 1), nx2, [], [])) (Runs.here fun F m Q a w hq => hq)
        | some cd =>
          obtain ⟨e, ns, he, hd, hms⟩ := addD_of hs
          obtain ⟨x1, ts1, h1, nx1, d1, ms1⟩ := o
          simp only at hd hms he
          subst hd
          subst hms
          exact range_ok hg hc.1 hc.2 htm (hC.fn gf _ _ _ _ hcall (Nat.le_of_ble_eq_true hc.1)) hl hnb (o := (x1, ts1, h1, nx1, e, ns)) (ih cd _ _ _ _ he)
      | _ => simp [codeV] at hs
end

def resV1 (P : Program) (ts : Tm) (h : Hp) : ResultVar → Option Value
  | .tmp t => tg ts t
  | .cell p t => match tg ts p with
    | some (.pointer (some ⟨n, o, none⟩)) => match lk h n with
      | some r => loadV P t r.cs o
      | none => none
    | _ => none
def resVL (P : Program) (ts : Tm) (h : Hp) : List ResultVar → Option (List Value)
  | [] => some []
  | x :: xs => match resV1 P ts h x, resVL P ts h xs with | some v, some vs => some (v :: vs) | _, _ => none
def one? : List Value → Value
  | [v] => v
  | vs => .tuple ⟨vs⟩
def flat1 : Value → Bool
  | .agg c => noAdL c.toList
  | v => noAd v
def flats : List Value → Bool
  | [] => true
  | v :: vs => bif flat1 v then flats vs else false
def oldD (nx : Nat) : List Nat → List Nat
  | [] => []
  | n :: d => bif Nat.blt n nx then n :: oldD nx d else oldD nx d
def leave (h : Hp) (nx : Nat) (vs : List Value) (h' : Hp) (nx' : Nat) (d : List Nat) : Out :=
  match oldD nx d with
  | [] => bif flats vs then (one? vs, h, nx', []) else (one? vs, h', nx', [])
  | d' => (one? vs, h', nx', d')
def roundF (E : Env) (call : FuncId → List Value → Hp → Nat → Option Out) (n : Nat) (args : List Value) (h : Hp) (nx : Nat) : Option Out :=
  match lk h n with
  | some ⟨.round .ready none tm ps as bd, _⟩ => bif Nat.beq args.length ps.size && Nat.ble tm.length 60000 then (match codeV E call true 100000 as (putL (tinit tm tm.length) ps.toList args) h nx with
    | some (.normal, ts1, h1, nx1, d1, _) => match lk h1 n with
      | some ⟨.round .ready none tm1 ps1 as1 bd1, _⟩ => match codeV E call true 100000 bd ts1 (setH h1 n ⟨.round .busy none tm1 ps1 as1 bd1, []⟩) nx1 with
        | some (x, _, h3, nx3, d3, _) => match lk h3 n with
          | some ⟨.round _ _ tm3 ps3 as3 bd3, _⟩ => match x with
            | .normal => some (.bool true, setH h3 n ⟨.round .ready none tm3 ps3 as3 bd3, []⟩, nx3, n :: (d3 ++ d1))
            | .ret => some (.bool false, setH h3 n ⟨.round .done (some .ret) tm3 ps3 as3 bd3, []⟩, nx3, n :: (d3 ++ d1))
            | .exit i => some (.bool false, setH h3 n ⟨.round .done (some (.exit i)) tm3 ps3 as3 bd3, []⟩, nx3, n :: (d3 ++ d1))
          | _ => none
        | none => none
      | _ => none
    | _ => none) else none
  | _ => none
def runF (E : Env) : Nat → FuncId → List Value → Hp → Nat → Option Out
  | 0, _, _, _, _ => none
  | k + 1, f, args, h, nx => bif Nat.ble yBig f then roundF E (runF E k) (f - yBig) args h nx else match E.T f args h nx with
    | some r => some r
    | none => match E.P.funcs[f]? with
      | none => none
      | some fn => match fn.body with
        | none => none
        | some c => bif Nat.ble fn.ntmps 60000 && Nat.ble args.length fn.ntmps then (match codeV E (runF E k) false 100000 c (tinit args fn.ntmps) h nx with
          | some (.exit _, _) => none
          | some (_, ts, h', nx', d, ms) => match dropM ms h' with
            | some h'' => match resVL E.P ts h'' fn.results.toList with
              | some vs => some (leave h nx vs h'' nx' (ms ++ d))
              | none => none
            | none => none
          | none => none) else none
end Go.Proofs.Ytmoflcoijmmpjaa
