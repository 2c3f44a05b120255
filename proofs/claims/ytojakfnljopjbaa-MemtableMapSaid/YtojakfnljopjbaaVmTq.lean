/-
  The machine that runs in the kernel, part Ta: loops over iterators: their records, the blocks for the rounds' deferred calls.
-/
import Derived.Test.YtojakfnljopjbaaVmMq
import Derived.LoopNIn
import Derived.Scope
import Derived.Laws.Externs
import Derived.Laws.Bits64
import Derived.Lib.BytesEntry
namespace Go.Proofs.Ytojakfnljopjbaa
set_option linter.unusedSimpArgs false
set_option linter.unusedVariables false
set_option linter.unusedSectionVars false
open Go Go.RowKit


/-! ### temporaries as a list, and the round's own -/
def tmL (ts : Tm) : Nat → List Value → List Value
  | 0, acc => acc
  | k + 1, acc => match tg ts k with
    | some v => tmL ts k (v :: acc)
    | none => []
theorem tmL_ok {σ : Sg} {ts : Tm} {tmps : Array Value} (ht : RT σ ts tmps) {v : Value} {tm : List Value} : ∀ (k : Nat) (acc acc' : List Value), k ≤ tmps.size → renL σ acc = some acc' → tmL ts k acc = v :: tm → renL σ (v :: tm) = some (tmps.toList.take k ++ acc')
  | 0, acc, acc', _, h, e => by simp only [tmL] at e; rw [← e]; simpa using h
  | k + 1, acc, acc', hk, h, he => by
      have hlt : k < tmps.size := by omega
      have e : tmps.toList.take (k + 1) ++ acc' = tmps.toList.take k ++ (tmps[k] :: acc') := by
        rw [List.take_add_one]; simp [hlt]
      rw [e]
      simp only [tmL] at he
      split at he
      · rename_i u hu
        have h1 := ht.s k u hu
        simp only [Array.getD_eq_getD_getElem?, Array.getElem?_eq_getElem hlt, Option.getD_some] at h1
        exact tmL_ok ht k _ _ (by omega) (renL_mk h1 h) he
      · cases he
def putL : Tm → List Tmp → List Value → Tm
  | ts, t :: l, v :: vs => putL (tput ts t v) l vs
  | ts, _, _ => ts
def putA : Array Value → List Tmp → List Value → Array Value
  | a, t :: l, v :: vs => putA (a.setIfInBounds t v) l vs
  | a, _, _ => a
theorem putL_ok {σ : Sg} : ∀ {l : List Tmp} {vs vs' : List Value} {ts : Tm} {tmps : Array Value}, RT σ ts tmps → renL σ vs = some vs' → RT σ (putL ts l vs) (putA tmps l vs')
  | [], vs, vs', ts, tmps, h, hv => by simpa [putL, putA] using h
  | t :: l, [], vs', ts, tmps, h, hv => by simp only [renL, Option.some.injEq] at hv; subst hv; simpa [putL, putA] using h
  | t :: l, v :: vs, vs', ts, tmps, h, hv => by
      obtain ⟨a, b, h1, h2, rfl⟩ := renL_cons hv
      show RT σ (putL (tput ts t v) l vs) (putA (tmps.setIfInBounds t a) l b)
      exact putL_ok (h.put t h1) h2
theorem putA_eq : ∀ (l : List Tmp) (vs : List Value) (a : Array Value), (l.zip vs).foldl (fun tmps x => tmps.setIfInBounds x.1 x.2) a = putA a l vs
  | [], vs, a => by simp [putA]
  | t :: l, [], a => by simp [putA]
  | t :: l, v :: vs, a => by simpa [putA] using putA_eq l vs _

/-! ### marks -/
def dfR (σ : Sg) : List Nat → Option (List Deferred)
  | [] => some []
  | n :: ms => match σ.b n, dfR σ ms with | some p, some ds => some ({ target := .collected p.1, args := #[] } :: ds) | _, _ => none
theorem dfR_le {σ τ : Sg} (h : σ.le τ) : ∀ {ms : List Nat} {ds : List Deferred}, dfR σ ms = some ds → dfR τ ms = some ds
  | [], ds, e => e
  | n :: ms, ds, e => by
      simp only [dfR] at e ⊢
      split at e
      · rename_i p ds' h1 h2; rw [h.1 n p h1, dfR_le h h2]; exact e
      · cases e
theorem dfR_app {σ : Sg} : ∀ {ms ms' : List Nat} {ds ds' : List Deferred}, dfR σ ms = some ds → dfR σ ms' = some ds' → dfR σ (ms ++ ms') = some (ds ++ ds')
  | [], ms', ds, ds', h, h' => by simp only [dfR, Option.some.injEq] at h; subst h; simpa using h'
  | n :: ms, ms', ds, ds', h, h' => by
      simp only [dfR, List.cons_append] at h ⊢
      split at h
      · rename_i p d h1 h2; cases h; rw [h1, dfR_app h2 h']; rfl
      · cases h
def dropM : List Nat → Hp → Option Hp
  | [], h => some h
  | n :: ms, h => match lk h n with
    | some ⟨.marks, _⟩ => dropM ms (delH h n)
    | _ => none
theorem dropM_tidy {nx : Nat} : ∀ {ms : List Nat} {h h' : Hp}, dropM ms h = some h' → (∀ n, lk h n = none → lk h' n = none) ∧ (∀ n, n ∉ ms → lk h' n = lk h n)
  | [], h, h', e => by cases e; exact ⟨fun _ e => e, fun _ _ => rfl⟩
  | m :: ms, h, h', e => by
      simp only [dropM] at e
      split at e
      · obtain ⟨a, b⟩ := dropM_tidy (nx := nx) e
        refine ⟨fun n hn => a n (by rw [lk_delH]; split <;> simp [hn]), fun n hn => ?_⟩
        rw [b n (fun hm => hn (by simp [hm])), lk_delH, if_neg (fun e => hn (by simp [e]))]
      · cases e
theorem leaves_marks {P : Program} {F : Fence} {m : Nat} {fn : Func} {tmps : Array Value} {R : Ending → World → Prop} {W : World} {σ : Sg} (lo : Nat) : ∀ {ms : List Nat} {ds : List Deferred} {h h' : Hp} {w : World}, dropM ms h = some h' → dfR σ ms = some ds → Rl W σ h w →
    (∀ w', Stp W lo lo σ h w σ h' w' → LeavesInM F m P fn tmps R [] .returning w') → LeavesInM F m P fn tmps R ds .returning w
  | [], ds, h, h', w, hd, hf, hR, H => by
      simp only [dfR, Option.some.injEq] at hf
      subst hf
      cases hd
      exact H w (Stp.refl hR lo)
  | n :: ms, ds, h, h', w, hd, hf, hR, H => by
      simp only [dropM] at hd
      split at hd
      · rename_i cs hl
        simp only [dfR] at hf
        split at hf
        · rename_i p ds' h1 h2
          cases hf
          obtain ⟨b, s, vs, hb, _, hk⟩ := hR.row _ _ hl
          rw [h1] at hb
          cases hb
          have S := Stp.wipe hR hl (fun e => by cases e) h1 (.deferred none) lo
          exact ⟨by simp, .inl ⟨b, _, rfl, run_takeDeferred hk.2.2.2, leaves_marks lo hd h2 S.rl fun w' S' => H w' (S.trans S' (Nat.le_refl _) (Nat.le_refl _))⟩⟩
        · cases hf
      · cases hd
end Go.Proofs.Ytojakfnljopjbaa
/-
  The machine that runs in the kernel, part T: code and whole calls.
-/
namespace Go.Proofs.Ytojakfnljopjbaa
set_option linter.unusedSimpArgs false
set_option linter.unusedVariables false
set_option linter.unusedSectionVars false
open Go Go.RowKit

inductive Xt where
  | normal
  | exit (id : Nat)
  | ret
def Xt.toExit : Xt → Exit
  | .normal => .normal
  | .exit id => .exit id
  | .ret => .ret
abbrev St5 := Xt × Tm × Hp × Nat × List Nat × List Nat
def nrm : Option St4 → Option St5
  | some (ts, h, nx, d) => some (.normal, ts, h, nx, d, [])
  | none => none
def addD (d ms : List Nat) : Option St5 → Option St5
  | some (x, ts, h, nx, e, ns) => some (x, ts, h, nx, e ++ d, ns ++ ms)
  | none => none
def unB (id : Nat) : Option St5 → Option St5
  | some (.exit i, ts, h, nx, d, ms) => bif Nat.beq i id then some (.normal, ts, h, nx, d, ms) else some (.exit i, ts, h, nx, d, ms)
  | r => r
def itV : Option Value → Option (FuncId × List Value × List Value)
  | some (.func (.func g) f c) => some (g, f.toList, c.toList)
  | _ => none
def notBusy : LoopState → Bool
  | .busy => false
  | _ => true
def codeV (E : Env) (call : FuncId → List Value → Hp → Nat → Option Out) (inr : Bool) : Nat → Code → Tm → Hp → Nat → Option St5
  | 0, _, _, _, _ => none
  | k + 1, c, ts, h, nx => match c with
    | .skip => some (.normal, ts, h, nx, [], [])
    | .label _ => some (.normal, ts, h, nx, [], [])
    | .exit id => some (.exit id, ts, h, nx, [], [])
    | .ret => some (.ret, ts, h, nx, [], [])
    | .region _ ops draw => bif draw then nrm (drawV E call ops ts h nx) else nrm (seqV E call ops ops.toList ts h nx)
    | .seq x y => match codeV E call inr k x ts h nx with
      | some (.normal, ts, h, nx, d, ms) => addD d ms (codeV E call inr k y ts h nx)
      | r => r
    | .cond c x y => match evA ts c with
      | some (.bool b) => bif b then codeV E call inr k x ts h nx else codeV E call inr k y ts h nx
      | _ => none
    | .block id x => unB id (codeV E call inr k x ts h nx)
    | .scope x => codeV E call inr k x ts h nx
    | .loop x => match codeV E call inr k x ts h nx with
      | some (.normal, ts, h, nx, d, ms) => addD d ms (codeV E call inr k (.loop x) ts h nx)
      | r => r
    | .rangeFunc g ps as bd => bif inr then none else (match itV (evA ts g) with
      | some (gf, f, c) => bif Nat.blt gf yBig && entB E.P gf then (match tmL ts ts.n [] with
        | [] => none
        | v :: tm => match call gf (f ++ [.func (.yield (nx + 1)) ⟨[]⟩ ⟨[]⟩] ++ c) ((nx + 1, ⟨.round .ready none (v :: tm) ps as bd, []⟩) :: (nx, ⟨.marks, []⟩) :: h) (nx + 2) with
          | some (_, h2, nx2, d2) => match lk h2 (nx + 1) with
            | some ⟨.round st pe _ _ _ _, _⟩ => bif notBusy st then (match pe with
              | none => some (.normal, ts, delH h2 (nx + 1), nx2, d2, [nx])
              | some cd => addD d2 [nx] (codeV E call inr k cd ts (delH h2 (nx + 1)) nx2)) else none
            | _ => none
          | none => none) else none
      | none => none)
    | _ => none

section
variable {E : Env} {call : FuncId → List Value → Hp → Nat → Option Out}
/-- What is said of code. -/
def Runs (inr : Bool) (wp : Fence → Nat → (Exit → Act → World → Prop) → Act → World → Prop) (ts : Tm) (h : Hp) (nx : Nat) (o : St5) : Prop :=
  Tidy h nx o.2.2.1 o.2.2.2.1 o.2.2.2.2.1 ∧ (Bd h nx → ∀ W σ w a, Rl W σ h w → Fresh σ nx o.2.2.2.1 → RT σ ts a.tmps → ∀ ds, a.defers = ds → ∀ (F : Fence) (m : Nat), Wide F → (inr = false → F.round = none) → ∀ Q : Exit → Act → World → Prop,
      (∀ σ' w' a' es, Stp W nx o.2.2.2.1 σ h w σ' o.2.2.1 w' → RT σ' o.2.1 a'.tmps → dfR σ' o.2.2.2.2.2 = some es → a'.defers = es ++ ds → Q o.1.toExit a' w') → wp F m Q a w)
theorem addD_of {d ms : List Nat} {r : Option St5} {o : St5} (h : addD d ms r = some o) : ∃ e ns, r = some (o.1, o.2.1, o.2.2.1, o.2.2.2.1, e, ns) ∧ o.2.2.2.2.1 = e ++ d ∧ o.2.2.2.2.2 = ns ++ ms := by
  unfold addD at h
  split at h
  · cases h; exact ⟨_, _, rfl, rfl, rfl⟩
  · cases h
theorem nrm_of {r : Option St4} {o : St5} (h : nrm r = some o) : o.1 = .normal ∧ o.2.2.2.2.2 = [] ∧ r = some (o.2.1, o.2.2.1, o.2.2.2.1, o.2.2.2.2.1) := by
  unfold nrm at h
  split at h
  · cases h; exact ⟨rfl, rfl, rfl⟩
  · cases h
/-- One behind the other. -/
theorem Runs.seq {inr : Bool} {wp1 wp2 wp3 : Fence → Nat → (Exit → Act → World → Prop) → Act → World → Prop} {ts ts1 : Tm} {h h1 : Hp} {nx nx1 : Nat} {d1 ms1 : List Nat} {o : St5} {e ns : List Nat} (hd : o.2.2.2.2.1 = e ++ d1) (hms : o.2.2.2.2.2 = ns ++ ms1) (A : Runs inr wp1 ts h nx (.normal, ts1, h1, nx1, d1, ms1)) (B : Runs inr wp2 ts1 h1 nx1 (o.1, o.2.1, o.2.2.1, o.2.2.2.1, e, ns))
    (H : ∀ F m Q a w, wp1 F m (Exit.then (wp2 F m Q) Q) a w → wp3 F m Q a w) : Runs inr wp3 ts h nx o := by
  obtain ⟨x, ts2, h2, nx2, d2, ms2⟩ := o
  simp only at hd hms B
  subst hd
  subst hms
  obtain ⟨t1, s1⟩ := A
  obtain ⟨t2, s2⟩ := B
  refine ⟨t1.trans t2, fun hB W σ w a hR hf ht ds hdf F m hF hr Q hQ => H F m Q a w (s1 hB W σ w a hR (hf.low t2.1) ht ds hdf F m hF hr _ fun σ1 w1 a1 es1 b1 b2 b4 b3 => ?_)⟩
  exact s2 (t1.2.2 hB) W σ1 w1 a1 b1.rl (hf.next b1 t1.1) b2 (es1 ++ ds) b3 F m hF hr Q fun σ2 w2 a2 es2 c1 c2 c4 c3 => hQ σ2 w2 a2 (es2 ++ es1) (b1.trans c1 t1.1 t2.1) c2 (dfR_app c4 (dfR_le c1.le b4)) (by rw [c3, List.append_assoc])
/-- It leaves by another way than its end. -/
theorem Runs.out {inr : Bool} {wp1 wp2 wp3 : Fence → Nat → (Exit → Act → World → Prop) → Act → World → Prop} {ts : Tm} {h : Hp} {nx : Nat} {o : St5} (hx : o.1 ≠ .normal) (A : Runs inr wp1 ts h nx o)
    (H : ∀ F m Q a w, wp1 F m (Exit.then (wp2 F m Q) Q) a w → wp3 F m Q a w) : Runs inr wp3 ts h nx o := by
  obtain ⟨t1, s1⟩ := A
  refine ⟨t1, fun hB W σ w a hR hf ht ds hdf F m hF hr Q hQ => H F m Q a w (s1 hB W σ w a hR hf ht ds hdf F m hF hr _ fun σ1 w1 a1 es b1 b2 b4 b3 => ?_)⟩
  have := hQ σ1 w1 a1 es b1 b2 b4 b3
  cases hx1 : o.1 with
  | normal => exact absurd hx1 hx
  | exit id => rw [hx1] at this; exact this
  | ret => rw [hx1] at this; exact this
theorem Runs.as {inr : Bool} {wp1 wp3 : Fence → Nat → (Exit → Act → World → Prop) → Act → World → Prop} {ts : Tm} {h : Hp} {nx : Nat} {o : St5} (A : Runs inr wp1 ts h nx o)
    (H : ∀ F m Q a w (σ : Sg), RT σ ts a.tmps → wp1 F m Q a w → wp3 F m Q a w) : Runs inr wp3 ts h nx o := by
  obtain ⟨t1, s1⟩ := A
  exact ⟨t1, fun hB W σ w a hR hf ht ds hdf F m hF hr Q hQ => H F m Q a w σ ht (s1 hB W σ w a hR hf ht ds hdf F m hF hr Q hQ)⟩
theorem Runs.here {inr : Bool} {wp : Fence → Nat → (Exit → Act → World → Prop) → Act → World → Prop} {ts : Tm} {h : Hp} {nx : Nat} {x : Xt} (H : ∀ F m (Q : Exit → Act → World → Prop) a w, Q x.toExit a w → wp F m Q a w) : Runs inr wp ts h nx (x, ts, h, nx, [], []) :=
  ⟨Tidy.refl _ _, fun _ W σ w a hR hf ht ds hdf F m hF hr Q hQ => H F m Q a w (hQ σ w a [] (Stp.refl hR nx) ht rfl hdf)⟩
theorem stepR_scope {P : Program} {b : Frame} {a : Act} {c : Code} {k : List Item} {cs : List Frame} {w : World} : step P (lone (b.atR a (.code (.scope c) :: k)) cs w) = .next (lone (b.atR a (.code c :: .inScope c :: k)) cs w) :=
  step_lone_go (by simp [stepG, stepG.exec, Frame.atR])
theorem stepR_inScope {P : Program} {b : Frame} {a : Act} {c : Code} {k : List Item} {cs : List Frame} {w : World} : step P (lone (b.atR a (.inScope c :: k)) cs w) = .next (lone (b.atR a k) cs w) :=
  step_lone_go (by simp [stepG, stepG.exec, Frame.atR])
theorem scope_ok {F : Fence} {n : Nat} {P : Program} {c : Code} {Q : Exit → Act → World → Prop} {a : Act} {w : World} (h : c.wpIn F n P (Exit.noGoto Q) a w) : (Code.scope c).wpIn F n P Q a w := by
  intro b k cs hro hb hr
  have h0 : (lone (b.atR a (.code (.scope c) :: k)) cs w).fenced P F := fenced_calm hb hr rfl
  obtain ⟨e, a₁, w₁, hq, harr⟩ := h b (.inScope c :: k) cs hro hb hr
  cases e with
  | normal => exact ⟨.normal, a₁, w₁, hq, .head h0 stepR_scope (StepsIn.trans harr (.one (fenced_calm hb hr rfl) stepR_inScope))⟩
  | exit id =>
    have hx : exitTo id (.inScope c :: k) = exitTo id k := by simp [exitTo]
    exact ⟨.exit id, a₁, w₁, hq, fun k' hk => .head h0 stepR_scope (harr.1 k' (by rw [hx]; exact hk)),
        fun hr' hk => let ⟨k₁, h1, h2⟩ := harr.2 hr' (by rw [hx]; exact hk); ⟨k₁, h1, .head h0 stepR_scope h2⟩⟩
  | goto l => exact hq.elim
  | ret => exact ⟨_, a₁, w₁, hq, .of_steps (.one h0 stepR_scope) harr⟩
  | panic ch => exact ⟨_, a₁, w₁, hq, .of_steps (.one h0 stepR_scope) harr⟩
  | outgrown => exact ⟨_, a₁, w₁, hq, .of_steps (.one h0 stepR_scope) harr⟩
theorem lk_two {nx : Nat} {r s : Rw} {h : Hp} {n : Nat} (hn : n < nx) : lk ((nx + 1, r) :: (nx, s) :: h) n = lk h n := by
  rw [lk_cons, if_neg (by omega), lk_cons, if_neg (by omega)]
/-- What follows when a round has left. -/
def jumpQ (P : Program) : Option Code → Fence → Nat → (Exit → Act → World → Prop) → Act → World → Prop
  | none, _, _, Q => fun a w => Q .normal a w
  | some cd, F, m, Q => cd.wpIn F m P Q
/-- A loop over an iterator. -/
theorem range_ok {ts : Tm} {h : Hp} {nx : Nat} {g : Operand} {ps : Array Tmp} {as bd : Code} {gf : FuncId} {f c tm : List Value} {v : Value} {r : Value} {h2 : Hp} {nx2 : Nat} {d2 : List Nat}
    (hg : itV (evA ts g) = some (gf, f, c)) (hlt : Nat.blt gf yBig = true) (hent : entB E.P gf = true) (htm : tmL ts ts.n [] = v :: tm)
    (hcall : Tri E.P gf (f ++ [.func (.yield (nx + 1)) ⟨[]⟩ ⟨[]⟩] ++ c) ((nx + 1, ⟨.round .ready none (v :: tm) ps as bd, []⟩) :: (nx, ⟨.marks, []⟩) :: h) (nx + 2) (r, h2, nx2, d2))
    {st : LoopState} {pe : Option Code} {tm' : List Value} {ps' : Array Tmp} {as' bd' : Code} {cs' : List Value} (hl : lk h2 (nx + 1) = some ⟨.round st pe tm' ps' as' bd', cs'⟩) (hb : notBusy st = true) {o : St5}
    (ho : Runs false (jumpQ E.P pe) ts (delH h2 (nx + 1)) nx2 o) : Runs false (fun F m Q => (Code.rangeFunc g ps as bd).wpIn F m E.P Q) ts h nx (o.1, o.2.1, o.2.2.1, o.2.2.2.1, o.2.2.2.2.1 ++ d2, o.2.2.2.2.2 ++ [nx]) := by
  obtain ⟨t1, s1⟩ := hcall
  obtain ⟨t2, s2⟩ := ho
  simp only at t1 s1
  have hge : nx ≤ nx2 := Nat.le_trans (by omega) t1.1
  refine ⟨⟨Nat.le_trans hge t2.1, fun n hn hd => ?_, fun hB => t2.2.2 fun n hn => ?_⟩, fun hB W σ w a hR hf ht ds hdf F m hF hr Q hQ => ?_⟩
  · simp only [List.mem_append, not_or] at hd
    rw [t2.2.1 n (by omega) hd.1, lk_delH, if_neg (by omega), t1.2.1 n (by omega) hd.2]
    exact lk_two hn
  · rw [lk_delH]
    split
    · rfl
    · refine t1.2.2 (fun n hn => ?_) n hn
      rw [lk_cons, if_neg (by omega), lk_cons, if_neg (by omega)]
      exact hB n (by omega)
  · have hB1 : Bd ((nx + 1, ⟨.round .ready none (v :: tm) ps as bd, []⟩) :: (nx, ⟨.marks, []⟩) :: h) (nx + 2) := fun n hn => by
      rw [lk_cons, if_neg (by omega), lk_cons, if_neg (by omega)]
      exact hB n (by omega)
    simp only at hf hQ
    have hf2 : Fresh σ nx nx2 := hf.low t2.1
    have hf0 : Fresh σ nx (nx + 2) := hf2.low t1.1
    have htl := tmL_ok ht ts.n [] [] (by rw [ht.n]; exact Nat.le_refl _) rfl htm
    rw [ht.n] at htl
    have htl' : renL σ (v :: tm) = some a.tmps.toList := by rw [List.take_of_length_le (by simp), List.append_nil] at htl; exact htl
    refine wpIn_rangeFunc fun fn hfn => ?_
    rw [hr rfl]
    -- the block for marks
    have A1 := Stp.allocO hR (hf0.low (by omega)) (.deferred (some [])) .marks ⟨rfl, hR.ext.size, rfl, heap_alloc_new w _⟩
    have hf1 : Fresh (σ.bind nx (w.heap.size, 0)) (nx + 1) (nx + 1 + 1) := hf0.next A1 (by omega)
    have A2 := Stp.allocO A1.rl hf1 (.loop { state := .ready, pending := none, fn := fn, tmps := a.tmps, params := ps, assign := as, body := bd, defers := w.heap.size }) (.round .ready none (v :: tm) ps as bd)
      ⟨rfl, A1.rl.ext.size, rfl, fn, w.heap.size, a.tmps.toList, renL_le ((A1.le).trans (Sg.le_bind (hf1 _ (Nat.le_refl _) (by omega)).1)) _ _ htl', by rw [heap_alloc_new]⟩
    have A := A1.trans A2 (by omega) (by omega)
    obtain ⟨σ2, hσ2⟩ : ∃ σ2, (σ.bind nx (w.heap.size, 0)).bind (nx + 1) ((w.alloc (.deferred (some []))).heap.size, 0) = σ2 := ⟨_, rfl⟩
    have hb1 : σ2.b nx = some (w.heap.size, 0) := by rw [← hσ2]; simp [Sg.bind]
    have hb2 : σ2.b (nx + 1) = some (w.heap.size + 1, 0) := by rw [← hσ2]; simp [Sg.bind]
    rw [hσ2] at A
    obtain ⟨w1, hw1⟩ : ∃ w1, (w.alloc (.deferred (some []))).alloc (.loop { state := .ready, pending := none, fn := fn, tmps := a.tmps, params := ps, assign := as, body := bd, defers := w.heap.size }) = w1 := ⟨_, rfl⟩
    rw [hw1] at A
    -- the iterator
    obtain ⟨gv, hgv, hgf⟩ : ∃ gv, evA ts g = some gv ∧ itV (some gv) = some (gf, f, c) := by
      cases he : evA ts g with
      | none => rw [he] at hg; cases hg
      | some gv => rw [he] at hg; exact ⟨gv, rfl, hg⟩
    have hren := evs_of ht g _ hgv
    unfold itV at hgf
    split at hgf
    case h_2 => cases hgf
    rename_i g0 f0 c0 e0
    cases e0
    cases hgf
    obtain ⟨fn', f', c', e1, hf', hc', hfn'⟩ := renV_func hren
    cases hfn'
    have hargs : renL σ2 (f0.toList ++ [.func (.yield (nx + 1)) ⟨[]⟩ ⟨[]⟩] ++ c0.toList) = some (f'.toList ++ [.func (.yield (w.heap.size + 1)) #[] #[]] ++ c'.toList) :=
      renL_app (renL_app (renL_le A.le _ _ hf') (renL_mk (by simp only [renV, fnR, hb2, renA, renL]) rfl)) (renL_le A.le _ _ hc')
    refine ⟨w.heap.size + 1, [{ target := .collected w.heap.size, args := #[] }], w1, { target := .fn (.func gf) c', args := f' ++ #[.func (.yield (w.heap.size + 1)) #[] #[]] }, w1, gf, f' ++ #[.func (.yield (w.heap.size + 1)) #[] #[]] ++ c', w1, ?_, ?_, fun f _ => by rw [hF.1]; trivial, ?_, fun h' => (by rw [hF.2.1] at h'; cases h'), hF.calls ?_⟩
    · rw [← hw1]; exact run_enterLoop_outer _ _ _ _ _
    · simp only [resolve, e1]
      simp [go_sem, Deferred.ofValue]
    · simp only [invoke]; exact run_enter hent _ _
    · have hS := s1 hB1 W σ2 w1 _ A.rl (hf2.next A (by omega)) hargs
      have e2 : (f'.toList ++ [Value.func (.yield (w.heap.size + 1)) #[] #[]] ++ c'.toList).toArray = f' ++ #[Value.func (.yield (w.heap.size + 1)) #[] #[]] ++ c' := by
        apply Array.toList_inj.1; simp
      rw [e2] at hS
      refine hS.mono ?_
      rintro e w2 ⟨σ3, u, S, hu, rfl⟩
      obtain ⟨b, s, vs, hbb, _, hk⟩ := S.rl.row _ _ hl
      have hbb' := S.le.1 _ _ hb2
      rw [hbb'] at hbb
      cases hbb
      obtain ⟨_, _, _, fn2, D2, tv2, _, hrec⟩ := hk
      have Wp := Stp.wipe S.rl hl (fun e => by cases e) hbb' (.loop { state := .exhausted, pending := pe, fn := fn2, tmps := tv2.toArray, params := ps', assign := as', body := bd', defers := D2 }) nx2
      have SS := S.trans Wp t1.1 (Nat.le_refl _)
      have SA := A.trans SS (by omega) t1.1
      refine ⟨pe, _, run_endLoop hrec (by rintro rfl; cases hb), ?_⟩
      have key := s2 (fun n hn => by
        rw [lk_delH]
        split
        · rfl
        · exact t1.2.2 hB1 n hn) W σ3 _ { a with defers := [{ target := .collected w.heap.size, args := #[] }] ++ a.defers } SA.rl (hf.next SA hge) (ht.le SA.le) _ rfl F m hF hr Q fun σ4 w4 a4 es b1 b2 b4 b3 => hQ σ4 w4 a4 (es ++ [{ target := .collected w.heap.size, args := #[] }]) (SA.trans b1 hge t2.1) b2
          (dfR_app b4 (by simp only [dfR, b1.le.1 _ _ (S.le.1 _ _ hb1)])) (by rw [b3]; simp [hdf])
      cases pe with
      | none => exact key
      | some cd => exact key
theorem codeV_ok (hX : XOk E) (hC : COk E.P call) (hm : E.P.follows .mixedOrders = true) {inr : Bool} : ∀ (k : Nat),
    (∀ (c : Code) (ts : Tm) (h : Hp) (nx : Nat) (o : St5), codeV E call inr k c ts h nx = some o → Runs inr (fun F m Q => c.wpIn F m E.P Q) ts h nx o) ∧
    (∀ (x : Code) (ts : Tm) (h : Hp) (nx : Nat) (o : St5), codeV E call inr k (.loop x) ts h nx = some o → Runs inr (fun F m Q => Code.roundsIn F m E.P x Q k) ts h nx o)
  | 0 => ⟨fun c ts h nx o hs => by simp [codeV] at hs, fun c ts h nx o hs => by simp [codeV] at hs⟩
  | k + 1 => by
      obtain ⟨ih, ihl⟩ := codeV_ok hX hC hm (inr := inr) k
      have loopK : ∀ (x : Code) (ts : Tm) (h : Hp) (nx : Nat) (o : St5), codeV E call inr (k + 1) (.loop x) ts h nx = some o → Runs inr (fun F m Q => Code.roundsIn F m E.P x Q (k + 1)) ts h nx o := by
        intro x ts h nx o hs
        simp only [codeV] at hs
        split at hs
        · rename_i ts1 h1 nx1 d1 ms1 h2
          obtain ⟨e, ns, he, hd, hms⟩ := addD_of hs
          exact Runs.seq hd hms (ih _ _ _ _ _ h2) (ihl _ _ _ _ _ he) fun F m Q a w hh => by rw [roundsIn_succ]; exact hh
        · rename_i hno
          refine Runs.out (wp2 := fun F m Q => Code.roundsIn F m E.P x Q k) (fun e => ?_) (ih _ _ _ _ _ hs) fun F m Q a w hh => by rw [roundsIn_succ]; exact hh
          obtain ⟨x1, ts1, h1, nx1, d1, ms1⟩ := o
          simp only at e
          subst e
          exact hno _ _ _ _ _ hs
      refine ⟨fun c ts h nx o hs => ?_, loopK⟩
      cases c with
      | loop x => exact (loopK x ts h nx o hs).as fun F m Q a w σ ht hh => wpIn_loop_rounds (k + 1) hh
      | skip => simp only [codeV, Option.some.injEq] at hs; subst hs; exact Runs.here fun F m Q a w => wpIn_skip
      | label l => simp only [codeV, Option.some.injEq] at hs; subst hs; exact Runs.here fun F m Q a w => wpIn_label
      | exit id => simp only [codeV, Option.some.injEq] at hs; subst hs; exact Runs.here fun F m Q a w => wpIn_exit
      | ret => simp only [codeV, Option.some.injEq] at hs; subst hs; exact Runs.here fun F m Q a w => wpIn_ret
      | region id ops draw =>
        simp only [codeV] at hs
        cases draw with
        | true =>
          simp only [cond_true] at hs
          obtain ⟨e1, e3, e2⟩ := nrm_of hs
          obtain ⟨x, ts', h', nx', d, ms⟩ := o
          simp only at e1 e2 e3
          subst e1
          subst e3
          obtain ⟨t1, s1⟩ := drawV_ok (id := id) hX hC hm e2
          exact ⟨t1, fun hB W σ w a hR hf ht ds hdf F m hF _ Q hQ => s1 hB W σ w a hR hf ht ds hdf F m hF Q fun σ' w' a' b1 b2 b3 => hQ σ' w' a' [] b1 b2 rfl b3⟩
        | false =>
          simp only [cond_false] at hs
          obtain ⟨e1, e3, e2⟩ := nrm_of hs
          obtain ⟨x, ts', h', nx', d, ms⟩ := o
          simp only at e1 e2 e3
          subst e1
          subst e3
          obtain ⟨t1, s1⟩ := seqV_ok hX hC ops.toList ts h nx ts' h' nx' d e2
          exact ⟨t1, fun hB W σ w a hR hf ht ds hdf F m hF _ Q hQ => wpIn_region_list (s1 hB W σ w a hR hf ht ds hdf F m hF Q fun σ' w' a' b1 b2 b3 => hQ σ' w' a' [] b1 b2 rfl b3)⟩
      | seq x y =>
        simp only [codeV] at hs
        split at hs
        · rename_i ts1 h1 nx1 d1 ms1 h2
          obtain ⟨e, ns, he, hd, hms⟩ := addD_of hs
          exact Runs.seq hd hms (ih _ _ _ _ _ h2) (ih _ _ _ _ _ he) fun F m Q a w hh => wpIn_seq hh
        · rename_i hno
          refine Runs.out (wp2 := fun F m Q => y.wpIn F m E.P Q) (fun e => ?_) (ih _ _ _ _ _ hs) fun F m Q a w hh => wpIn_seq hh
          obtain ⟨x1, ts1, h1, nx1, d1, ms1⟩ := o
          simp only at e
          subst e
          exact hno _ _ _ _ _ hs
      | cond c x y =>
        simp only [codeV] at hs
        split at hs
        · rename_i b hc
          have hev : ∀ (σ : Sg) (a : Act), RT σ ts a.tmps → a.eval c = .bool b := fun σ a ht => by
            have := evs_of ht c _ hc
            simp only [renV, Option.some.injEq] at this
            exact this.symm
          cases b with
          | true => exact (ih x _ _ _ _ hs).as fun F m Q a w σ ht hh => wpIn_cond_true (hev σ a ht) hh
          | false => exact (ih y _ _ _ _ hs).as fun F m Q a w σ ht hh => wpIn_cond_false (hev σ a ht) hh
        · cases hs
      | scope x =>
        simp only [codeV] at hs
        obtain ⟨t1, s1⟩ := ih x _ _ _ _ hs
        refine ⟨t1, fun hB W σ w a hR hf ht ds hdf F m hF hr Q hQ => scope_ok (s1 hB W σ w a hR hf ht ds hdf F m hF hr _ fun σ' w' a' es b1 b2 b4 b3 => ?_)⟩
        have := hQ σ' w' a' es b1 b2 b4 b3
        cases hx : o.1 <;> rw [hx] at this <;> exact this
      | block id x =>
        simp only [codeV] at hs
        unfold unB at hs
        split at hs
        · rename_i i ts1 h1 nx1 d1 ms1 he
          obtain ⟨t1, s1⟩ := ih x _ _ _ _ he
          rcases bif_or hs with ⟨hb, hs⟩ | ⟨hb, hs⟩
          · cases hs
            have := Nat.eq_of_beq_eq_true hb
            subst this
            refine ⟨t1, fun hB W σ w a hR hf ht ds hdf F m hF hr Q hQ => wpIn_block (s1 hB W σ w a hR hf ht ds hdf F m hF hr _ fun σ' w' a' es b1 b2 b4 b3 => ?_)⟩
            simp only [Xt.toExit, Exit.inBlock, if_true]
            exact hQ σ' w' a' es b1 b2 b4 b3
          · cases hs
            have hne : i ≠ id := fun e => by subst e; simp at hb
            refine ⟨t1, fun hB W σ w a hR hf ht ds hdf F m hF hr Q hQ => wpIn_block (s1 hB W σ w a hR hf ht ds hdf F m hF hr _ fun σ' w' a' es b1 b2 b4 b3 => ?_)⟩
            simp only [Xt.toExit, Exit.inBlock, if_neg hne]
            exact hQ σ' w' a' es b1 b2 b4 b3
        · rename_i hno
          obtain ⟨t1, s1⟩ := ih x _ _ _ _ hs
          refine ⟨t1, fun hB W σ w a hR hf ht ds hdf F m hF hr Q hQ => wpIn_block (s1 hB W σ w a hR hf ht ds hdf F m hF hr _ fun σ' w' a' es b1 b2 b4 b3 => ?_)⟩
          have := hQ σ' w' a' es b1 b2 b4 b3
          obtain ⟨x1, ts1, h1, nx1, d1, ms1⟩ := o
          cases x1 with
          | exit i => exact (hno _ _ _ _ _ _ hs).elim
          | normal => exact this
          | ret => exact this
      | rangeFunc g ps as bd =>
        simp only [codeV] at hs
        rcases bif_or hs with ⟨hb, hs⟩ | ⟨hb, hs⟩
        · cases hs
        subst hb
        split at hs
        case h_2 => cases hs
        rename_i gf f c hg
        obtain ⟨hc, hs⟩ := bif_of hs
        simp only [Bool.and_eq_true] at hc
        split at hs
        case h_1 => cases hs
        rename_i v tm htm
        split at hs
        case h_2 => cases hs
        rename_i r h2 nx2 d2 hcall
        split at hs
        case h_2 => cases hs
        rename_i st pe tm' ps' as' bd' cs' hl
        obtain ⟨hnb, hs⟩ := bif_of hs
        cases pe with
        | none =>
          simp only [Option.some.injEq] at hs
          subst hs
          exact range_ok hg hc.1 hc.2 htm (hC.fn gf _ _ _ _ hcall (Nat.le_of_ble_eq_true hc.1)) hl hnb (o := (.normal, ts, delH h2 (nx + 1), nx2, [], [])) (Runs.here fun F m Q a w hq => hq)
        | some cd =>
          obtain ⟨e, ns, he, hd, hms⟩ := addD_of hs
          obtain ⟨x1, ts1, h1, nx1, d1, ms1⟩ := o
          simp only at hd hms he
          subst hd
          subst hms
          exact range_ok hg hc.1 hc.2 htm (hC.fn gf _ _ _ _ hcall (Nat.le_of_ble_eq_true hc.1)) hl hnb (o := (x1, ts1, h1, nx1, e, ns)) (ih cd _ _ _ _ he)
      | _ => simp [codeV] at hs
end

/-! ### calls -/
def resV1 (P : Program) (ts : Tm) (h : Hp) : ResultVar → Option Value
  | .tmp t => tg ts t
  | .cell p t => match tg ts p with
    | some (.pointer (some ⟨n, o, none⟩)) => match lk h n with
      | some r => loadV P t r.cs o
      | none => none
    | _ => none
def resVL (P : Program) (ts : Tm) (h : Hp) : List ResultVar → Option (List Value)
  | [] => some []
  | x :: xs => match resV1 P ts h x, resVL P ts h xs with | some v, some vs => some (v :: vs) | _, _ => none
def one? : List Value → Value
  | [v] => v
  | vs => .tuple ⟨vs⟩
def flat1 : Value → Bool
  | .agg c => noAdL c.toList
  | v => noAd v
def flats : List Value → Bool
  | [] => true
  | v :: vs => bif flat1 v then flats vs else false
def oldD (nx : Nat) : List Nat → List Nat
  | [] => []
  | n :: d => bif Nat.blt n nx then n :: oldD nx d else oldD nx d
/-- What a call leaves: if it hands back no address and has written nothing older, memory is as it was. -/
def leave (h : Hp) (nx : Nat) (vs : List Value) (h' : Hp) (nx' : Nat) (d : List Nat) : Out :=
  match oldD nx d with
  | [] => bif flats vs then (one? vs, h, nx', []) else (one? vs, h', nx', [])
  | d' => (one? vs, h', nx', d')
end Go.Proofs.Ytojakfnljopjbaa
/-
  The machine that runs in the kernel, part U: a whole call, the law.
-/
namespace Go.Proofs.Ytojakfnljopjbaa
set_option linter.unusedSimpArgs false
set_option linter.unusedVariables false
set_option linter.unusedSectionVars false
open Go Go.RowKit

section
variable {P : Program} {W : World} {σ : Sg} {h : Hp} {w : World}
def resOf (tmps : Array Value) : ResultVar → Sem Value
  | .tmp t => pure (tmps.getD t undef)
  | .cell a t => do loadVar t (← asAddr (tmps.getD a undef))
theorem resV1_ok (hR : Rl W σ h w) {ts : Tm} {tmps : Array Value} (ht : RT σ ts tmps) {x : ResultVar} {v : Value} (hv : resV1 P ts h x = some v) : ∃ v', renV σ v = some v' ∧ (resOf tmps x).run P w = .ok v' w := by
  have hg : ∀ (t : Nat) (u : Value), tg ts t = some u → renV σ u = some (tmps.getD t undef) := ht.s
  cases x with
  | tmp t => exact ⟨_, hg t v hv, rfl⟩
  | cell p t =>
    simp only [resV1] at hv
    split at hv
    · rename_i n o hp
      split at hv
      · rename_i r hr
        obtain ⟨q, hb, hq, _⟩ := renV_ptr (hg p _ hp)
        obtain ⟨q', vs, hb', h2, h3⟩ := hR.cell hr
        rw [hb] at hb'
        cases hb'
        obtain ⟨v', h4, h5⟩ := loadV_ok (P := P) h2 h3 hv
        refine ⟨v', h4, ?_⟩
        simp only [resOf]
        rw [hq]
        simpa [asAddr] using h5
      · cases hv
    · cases hv
theorem resVL_ok (hR : Rl W σ h w) {ts : Tm} {tmps : Array Value} (ht : RT σ ts tmps) : ∀ {xs : List ResultVar} {vs : List Value}, resVL P ts h xs = some vs → ∃ vs', renL σ vs = some vs' ∧ (xs.mapM (resOf tmps)).run P w = .ok vs' w
  | [], vs, hv => by simp only [resVL, Option.some.injEq] at hv; subst hv; exact ⟨[], rfl, by simp⟩
  | x :: xs, vs, hv => by
      simp only [resVL] at hv
      split at hv
      · rename_i u us h1 h2
        cases hv
        obtain ⟨u', e1, e2⟩ := resV1_ok hR ht h1
        obtain ⟨us', e3, e4⟩ := resVL_ok hR ht h2
        exact ⟨u' :: us', renL_mk e1 e3, by simp [List.mapM_cons, e2, e4]⟩
      · cases hv
theorem one_ok {vs vs' : List Value} (hv : renL σ vs = some vs') : renV σ (one? vs) = some (if h : vs'.toArray.size = 1 then vs'.toArray[0] else .tuple vs'.toArray) := by
  have hl := renL_len hv
  unfold one?
  split
  · rename_i v
    obtain ⟨a, b, h1, h2, rfl⟩ := renL_cons hv
    simp only [renL, Option.some.injEq] at h2
    subst h2
    exact h1
  · rename_i hno
    have : ¬ (vs'.toArray.size = 1) := fun e => by
      simp only [List.size_toArray] at e
      rw [hl] at e
      match vs, e, hno with
      | [v], _, hno => exact hno v rfl
    rw [dif_neg this]
    exact renV_tuple_mk hv
theorem results_run {fn : Func} (hR : Rl W σ h w) {ts : Tm} {tmps : Array Value} (ht : RT σ ts tmps) {vs : List Value} (hv : resVL P ts h fn.results.toList = some vs) : ∃ v', renV σ (one? vs) = some v' ∧ (results fn tmps).run P w = .ok v' w := by
  obtain ⟨vs', e1, e2⟩ := resVL_ok hR ht hv
  refine ⟨_, one_ok e1, ?_⟩
  have hm : (fn.results.mapM (resOf tmps)).run P w = .ok vs'.toArray w := by
    rw [Array.mapM_eq_mapM_toList]
    simp [e2]
  have hres : results fn tmps = (do let vs ← fn.results.mapM (resOf tmps); pure (if h : vs.size = 1 then vs[0] else .tuple vs)) := by
    unfold results
    congr 1
  rw [hres]
  simp only [Sem.run_bind, hm, Result.andThen_ok, Sem.run_pure]
theorem oldD_mem {nx n : Nat} (hn : n < nx) : ∀ {d : List Nat}, n ∈ d → n ∈ oldD nx d
  | [], h => by cases h
  | m :: d, h => by
      simp only [oldD]
      cases hm : Nat.blt m nx with
      | true =>
        simp only [cond_true, List.mem_cons] at h ⊢
        exact h.imp id fun h => oldD_mem hn h
      | false =>
        simp only [cond_false]
        rcases List.mem_cons.1 h with rfl | h
        · have : Nat.blt n nx = true := Nat.ble_eq_true_of_le hn
          rw [this] at hm; cases hm
        · exact oldD_mem hn h
end
theorem tri_leave {P : Program} {f : FuncId} {args : List Value} {h : Hp} {nx : Nat} {vs : List Value} {h' : Hp} {nx' : Nat} {d : List Nat} (T : Tri P f args h nx (one? vs, h', nx', d)) : Tri P f args h nx (leave h nx vs h' nx' d) := by
  obtain ⟨t, s⟩ := T
  have old : ∀ d', oldD nx d = d' → ∀ n, n < nx → n ∉ d' → n ∉ d := fun d' e n hn hd hm => hd (e ▸ oldD_mem hn hm)
  unfold leave
  split
  · rename_i he
    have hkeep : ∀ n, n < nx → lk h' n = lk h n := fun n hn => t.2.1 n hn (old [] he n hn (by simp))
    cases hf : flats vs with
    | true =>
      refine ⟨⟨t.1, fun _ _ _ => rfl, fun hb n hn => hb n (Nat.le_trans t.1 hn)⟩, fun hb W σ w args' hR hfr ha => (s hb W σ w args' hR hfr ha).mono fun e w' ⟨σ', v', S, hv, he'⟩ => ⟨σ', v', S.less fun n r hl => ?_, hv, he'⟩⟩
      have hn : n < nx := by
        rcases Nat.lt_or_ge n nx with h1 | h1
        · exact h1
        · have hl' : lk h n = some r := hl
          rw [hb n h1] at hl'; cases hl'
      show lk h' n = some r
      rw [hkeep n hn]; exact hl
    | false => exact ⟨⟨t.1, fun n hn _ => hkeep n hn, t.2.2⟩, s⟩
  · rename_i d' hd
    exact ⟨⟨t.1, fun n hn hd' => t.2.1 n hn (old _ rfl n hn hd'), t.2.2⟩, s⟩
theorem wide_in {F : Fence} (hF : Wide F) (l : Nat) : Wide (F.inRound l) := ⟨hF.1, hF.2.1, hF.2.2⟩
/-- What a record's row says. -/
theorem Rl.record {W : World} {σ : Sg} {h : Hp} {w : World} (hR : Rl W σ h w) {n : Nat} {st : LoopState} {pe : Option Code} {tm : List Value} {ps : Array Tmp} {as bd : Code} {cs : List Value} (hl : lk h n = some ⟨.round st pe tm ps as bd, cs⟩) {p : Nat × Nat} (hp : σ.b n = some p) :
    p.2 = 0 ∧ W.heap.size ≤ p.1 ∧ ∃ fn D tv, renL σ tm = some tv ∧ w.heap[p.1]? = some (.loop { state := st, pending := pe, fn := fn, tmps := tv.toArray, params := ps, assign := as, body := bd, defers := D }) := by
  obtain ⟨b, s, vs, hb, _, hk⟩ := hR.row _ _ hl
  rw [hp] at hb
  cases hb
  exact ⟨hk.1, hk.2.1, hk.2.2.2⟩
/-- A record's row turns. -/
theorem Stp.record {W : World} {σ : Sg} {h : Hp} {w : World} (hR : Rl W σ h w) {n : Nat} {st : LoopState} {pe : Option Code} {tm : List Value} {ps : Array Tmp} {as bd : Code} {cs : List Value} (hl : lk h n = some ⟨.round st pe tm ps as bd, cs⟩) {p : Nat × Nat} (hp : σ.b n = some p) {fn D : Nat} {tv : List Value}
    (hv : renL σ tm = some tv) (st' : LoopState) (pe' : Option Code) (lo : Nat) :
    Stp W lo lo σ h w σ (setH h n ⟨.round st' pe' tm ps as bd, []⟩) (w.putObj p.1 (.loop { state := st', pending := pe', fn := fn, tmps := tv.toArray, params := ps, assign := as, body := bd, defers := D })) := by
  have hge := hR.ge hl (fun e => by cases e) hp
  exact Stp.turn hR hl (fun e => by cases e) hp _ (.round st' pe' tm ps as bd) (fun e => by cases e) ⟨hge.2, hge.1, rfl, fn, D, tv, hv, World.putObj_heap_same (hR.lt hl (fun e => by cases e) hp)⟩ lo
theorem Tidy.set {h : Hp} {nx : Nat} {h' : Hp} {nx' : Nat} {d : List Nat} (t : Tidy h nx h' nx' d) {n : Nat} (hn : Bd h nx → n < nx') (r : Rw) : Tidy h nx (setH h' n r) nx' (n :: d) :=
  ⟨t.1, fun m hm hd => by
    simp only [List.mem_cons, not_or] at hd
    rw [lk_setH, if_neg (Ne.symm hd.1)]; exact t.2.1 m hm hd.2, fun hB m hm => by
    have := hn hB
    rw [lk_setH, if_neg (by omega)]; exact t.2.2 hB m hm⟩
theorem Bd.set {h : Hp} {nx : Nat} (hB : Bd h nx) {n : Nat} (hn : n < nx) (r : Rw) : Bd (setH h n r) nx := fun m hm => by
  rw [lk_setH, if_neg (by omega)]; exact hB m hm
theorem Bd.lt {h : Hp} {nx : Nat} (hB : Bd h nx) {n : Nat} {r : Rw} (hl : lk h n = some r) : n < nx := by
  rcases Nat.lt_or_ge n nx with h1 | h1
  · exact h1
  · rw [hB n h1] at hl; cases hl
theorem Tidy.through {h : Hp} {nx : Nat} {h1 : Hp} {nx1 : Nat} {d1 : List Nat} {h3 : Hp} {nx3 : Nat} {d3 : List Nat} {n : Nat} {r r' : Rw} (t1 : Tidy h nx h1 nx1 d1) (hl : lk h1 n = some r) (t3 : Tidy (setH h1 n r') nx1 h3 nx3 d3) (s : Rw) : Tidy h nx (setH h3 n s) nx3 (n :: (d3 ++ d1)) := by
  refine ⟨Nat.le_trans t1.1 t3.1, fun m hm hd => ?_, fun hB => ?_⟩
  · simp only [List.mem_cons, List.mem_append, not_or] at hd
    have hne : ¬ n = m := fun e => hd.1 e.symm
    rw [lk_setH, if_neg hne, t3.2.1 m (Nat.lt_of_lt_of_le hm t1.1) hd.2.1, lk_setH, if_neg hne]
    exact t1.2.1 m hm hd.2.2
  · have hB1 := t1.2.2 hB
    have hlt := hB1.lt hl
    exact (t3.2.2 (hB1.set hlt _)).set (Nat.lt_of_lt_of_le hlt t3.1) _
def jumpOf : Xt → Option Code
  | .normal => none
  | .ret => some .ret
  | .exit i => some (.exit i)
theorem roundPost_of {P : Program} {l : Nat} {R : Ending → World → Prop} {x : Xt} {a : Act} {w : World} (h : ∃ v w', (Instr.endRound l (jumpOf x)).run P w = .ok v w' ∧ R (.returned v) w') : roundPost P l R x.toExit a w := by
  cases x <;> exact h
/-- A round, of what is said of its code. -/
theorem roundR_ok {P : Program} {n : Nat} {args : List Value} {h : Hp} {nx : Nat} {tm : List Value} {ps : Array Tmp} {as bd : Code} {cs : List Value} (hl : lk h n = some ⟨.round .ready none tm ps as bd, cs⟩) (hg : Nat.beq args.length ps.size = true ∧ tm.length ≤ 60000)
    {ts1 : Tm} {h1 : Hp} {nx1 : Nat} {d1 ms1 : List Nat} (has : Runs true (fun F m Q => as.wpIn F m P Q) (putL (tinit tm tm.length) ps.toList args) h nx (.normal, ts1, h1, nx1, d1, ms1))
    {tm1 : List Value} {ps1 : Array Tmp} {as1 bd1 : Code} {cs1 : List Value} (hl1 : lk h1 n = some ⟨.round .ready none tm1 ps1 as1 bd1, cs1⟩)
    {x : Xt} {ts3 : Tm} {h3 : Hp} {nx3 : Nat} {d3 ms3 : List Nat} (hbd : Runs true (fun F m Q => bd.wpIn F m P Q) ts1 (setH h1 n ⟨.round .busy none tm1 ps1 as1 bd1, []⟩) nx1 (x, ts3, h3, nx3, d3, ms3))
    {st3 : LoopState} {pe3 : Option Code} {tm3 : List Value} {ps3 : Array Tmp} {as3 bd3 : Code} {cs3 : List Value} (hl3 : lk h3 n = some ⟨.round st3 pe3 tm3 ps3 as3 bd3, cs3⟩) :
    TriR P n args h nx (.bool (jumpOf x).isNone, setH h3 n ⟨.round (if (jumpOf x).isNone then .ready else .done) (jumpOf x) tm3 ps3 as3 bd3, []⟩, nx3, n :: (d3 ++ d1)) := by
  obtain ⟨t1, s1⟩ := has
  obtain ⟨t3, s3⟩ := hbd
  simp only at t1 t3 s1 s3
  refine ⟨t1.through hl1 t3 _, fun hB W σ w args' hR hf ha p hp => ?_⟩
  obtain ⟨e1, e2, fn, D, tv, hv, hrec⟩ := hR.record hl hp
  simp only at hf
  have hsz : args'.toArray.size = ps.size := by
    simp only [List.size_toArray]; rw [renL_len ha]; exact Nat.eq_of_beq_eq_true hg.1
  refine ⟨fn, _, as, bd, run_yield hrec hsz, fun F m hF => roundIn_of_wpIn (by rw [hF.1]; trivial) ?_⟩
  have hR0 : RT σ (putL (tinit tm tm.length) ps.toList args) ((ps.zip args'.toArray).foldl (fun tmps x => tmps.setIfInBounds x.1 x.2) tv.toArray) := by
    have := putL_ok (l := ps.toList) (tinit_ok hv hg.2 (Nat.le_refl _)) ha
    have e3 : tv.toArray ++ Array.replicate (tm.length - tv.length) undef = tv.toArray := by
      simp [renL_len hv]
    rw [e3] at this
    rw [← putA_eq] at this
    rw [← Array.foldl_toList, Array.toList_zip]
    exact this
  refine s1 hB W σ w { tmps := _, defers := [] } hR (hf.low t3.1) hR0 [] rfl (F.inRound p.1) m (wide_in hF _) (by intro e; cases e) _ fun σ1 w1 a1 es1 S1 b2 b4 b3 => ?_
  have hp1 := S1.le.1 _ _ hp
  obtain ⟨_, _, fn1, D1, tv1, hv1, hrec1⟩ := S1.rl.record hl1 hp1
  refine ⟨_, run_beginRound hrec1 rfl, ?_⟩
  have T1 := Stp.record S1.rl hl1 hp1 hv1 (fn := fn1) (D := D1) .busy none nx1
  have ST := S1.trans T1 t1.1 (Nat.le_refl _)
  have hB1 := t1.2.2 hB
  refine s3 (hB1.set (hB1.lt hl1) _) W σ1 _ a1 T1.rl (hf.next ST t1.1) b2 a1.defers rfl (F.inRound p.1) m (wide_in hF _) (by intro e; cases e) _ fun σ3 w3 a3 es3 S3 c2 c4 c3 => ?_
  have hp3 := S3.le.1 _ _ hp1
  obtain ⟨_, _, fn3, D3, tv3, hv3, hrec3⟩ := S3.rl.record hl3 hp3
  have T3 := Stp.record S3.rl hl3 hp3 hv3 (fn := fn3) (D := D3) (if (jumpOf x).isNone then .ready else .done) (jumpOf x) nx3
  refine roundPost_of ⟨_, _, run_endRound _ hrec3, σ3, .bool (jumpOf x).isNone, (ST.trans S3 t1.1 t3.1).trans T3 (Nat.le_trans t1.1 t3.1) (Nat.le_refl _), rfl, rfl⟩
end Go.Proofs.Ytojakfnljopjbaa
/-
  The machine that runs in the kernel, part V: how it is used. Externs of math/bits; a closed run.
-/
namespace Go.Proofs.Ytojakfnljopjbaa
set_option linter.unusedSimpArgs false
set_option linter.unusedVariables false
set_option linter.unusedSectionVars false
open Go Go.RowKit

def noX : FuncId → List Value → Hp → Option Value := fun _ _ _ => none
def noT : FuncId → List Value → Hp → Nat → Option Out := fun _ _ _ _ => none
theorem noX_ok {P : Program} {T : FuncId → List Value → Hp → Nat → Option Out} : XOk ⟨P, noX, T⟩ := fun f args hp v h => by cases h
/-- Only new memory: names stand for what they stood for. -/
theorem Stp.ext {W : World} {σ : Sg} {h : Hp} {w w' : World} (hR : Rl W σ h w) (hx : Ext w w') (lo : Nat) : Stp W lo lo σ h w σ h w' :=
  Stp0.up ⟨Sg.le.refl σ, fun _ _ => ⟨rfl, rfl⟩, ⟨hR.ext.trans hx, fun n r hl => hR.keepA hl (Sg.le.refl _) fun b hb => Below.block hx b hb, hR.inj⟩, hx.size, fun b hb _ => Below.block hx b hb, fun n r p hl ho hb => .inr ⟨n, r, p, hl, ho, hb, rfl⟩⟩ hR.shr (hR.shr.sub fun n r hl => ⟨r, hl, fun h => h⟩)
/-- What is said of a function of other make. -/
def XOne (P : Program) (g : FuncId → List Value → Hp → Option Value) : Prop := ∀ f args h v, g f args h = some v → ∀ W σ w args', Rl W σ h w → renL σ args = some args' → renV σ v = some v ∧ (callFunc f args'.toArray).run P w = .ok (.value v) w
end Go.Proofs.Ytojakfnljopjbaa
/-
  The machine that runs in the kernel, part W: functions of other make that read memory.
-/
namespace Go.Proofs.Ytojakfnljopjbaa
set_option linter.unusedSimpArgs false
set_option linter.unusedVariables false
set_option linter.unusedSectionVars false
open Go Go.RowKit

/-- Bytes of a list of cells. -/
def intsV : Nat → List Value → Option (List Int)
  | 0, _ => some []
  | n + 1, .int .u8 x :: vs => bif decide (0 ≤ x ∧ x < 256) then (match intsV n vs with | some l => some (x :: l) | none => none) else none
  | _, _ => none
def bytesV (h : Hp) : Value → Option (List Int)
  | .slice none _ _ => some []
  | .slice (some ⟨n, o, none⟩) len _ => match lk h n with
    | some r => intsV len (r.cs.drop o)
    | none => none
  | _ => none
theorem intsV_ok {σ : Sg} : ∀ {n : Nat} {vs vs' : List Value} {l : List Int}, intsV n vs = some l → renL σ vs = some vs' → l.length = n ∧ (∀ (j : Nat) (x : Int), l[j]? = some x → vs'[j]? = some (Value.int .u8 x)) ∧ ∀ x ∈ l, 0 ≤ x ∧ x < 256
  | 0, vs, vs', l, h, hr => by simp only [intsV, Option.some.injEq] at h; subst h; exact ⟨rfl, fun j x e => by simp at e, fun x hx => by cases hx⟩
  | n + 1, [], vs', l, h, hr => by simp [intsV] at h
  | n + 1, v :: vs, vs', l, h, hr => by
      obtain ⟨a, b, h1, h2, rfl⟩ := renL_cons hr
      unfold intsV at h
      split at h
      · rename_i e; cases e
      · rename_i n' x us e1 e2
        cases e1
        cases e2
        obtain ⟨hb, h⟩ := bif_of h
        have hb := of_decide_eq_true hb
        split at h
        · rename_i l' hl
          cases h
          obtain ⟨i1, i2, i3⟩ := intsV_ok hl h2
          simp only [renV, Option.some.injEq] at h1
          subst h1
          refine ⟨by simp [i1], fun j y e => ?_, fun y hy => ?_⟩
          · cases j with
            | zero => simp at e; subst e; rfl
            | succ j => simp at e ⊢; exact i2 j y e
          · rcases List.mem_cons.1 hy with rfl | hy
            · exact hb
            · exact i3 y hy
        · cases h
      · cases h
theorem bytesV_ok {P : Program} {W : World} {σ : Sg} {h : Hp} {w : World} (hR : Rl W σ h w) {v v' : Value} {l : List Int} (hv : bytesV h v = some l) (hr : renV σ v = some v') : (Extern.Bytes.bytesOf v').run P w = .ok ⟨(Lib.bytesOf l).toArray⟩ w ∧ ∀ x ∈ l, 0 ≤ x ∧ x < 256 := by
  unfold bytesV at hv
  split at hv
  · simp only [renV, Option.some.injEq] at hr
    cases hv
    subst hr
    exact ⟨rfl, fun x hx => by cases hx⟩
  · rename_i n o len c
    split at hv
    · rename_i r hl
      obtain ⟨q, vs, hb', hvs, hc⟩ := hR.cell hl
      obtain ⟨i1, i2, i3⟩ := intsV_ok hv (renL_drop o hvs)
      rcases renV_slice hr with ⟨p, c', hb, _, rfl, _⟩ | ⟨_, rfl, _, rfl⟩
      case inr =>
        obtain rfl := List.eq_nil_of_length_eq_zero i1
        refine ⟨?_, fun x hx => by cases hx⟩
        cases σ.e n <;> rfl
      have e0 : q = p := by rw [hb] at hb'; exact (Option.some.inj hb').symm
      subst e0
      refine ⟨?_, i3⟩
      have := Lib.run_loadBytesX (P := P) w l ⟨q.1, q.2 + o, none⟩ .empty (fun j x hj => by
        have e : (⟨q.1, q.2 + o, none⟩ : Addr).add j = ⟨q.1, q.2 + (o + j), none⟩ := by unfold Addr.add; split <;> simp_all [Nat.add_assoc]
        rw [e]
        refine hc (o + j) _ ?_
        have := i2 j x hj
        rw [List.getElem?_drop] at this
        exact this)
      rw [i1] at this
      show (Extern.Bytes.loadBytes ⟨q.1, q.2 + o, none⟩ len .empty).run P w = _
      rw [this]
      simp
    · cases hv
  · cases hv
def cmpI : List Int → List Int → Int
  | [], [] => 0
  | [], _ :: _ => -1
  | _ :: _, [] => 1
  | a :: as, b :: bs => bif decide (a < b) then -1 else bif decide (b < a) then 1 else cmpI as bs
theorem u8_lt {a b : Int} (ha : 0 ≤ a ∧ a < 256) (hb : 0 ≤ b ∧ b < 256) : (a.toNat.toUInt8 < b.toNat.toUInt8) = (a < b) := by
  rw [eq_iff_iff, UInt8.lt_iff_toNat_lt]
  have e1 : (a.toNat.toUInt8).toNat = a.toNat % 256 := by simp
  have e2 : (b.toNat.toUInt8).toNat = b.toNat % 256 := by simp
  rw [e1, e2]
  omega
theorem cmpI_eq : ∀ (xs ys : List Int), (∀ x ∈ xs, 0 ≤ x ∧ x < 256) → (∀ x ∈ ys, 0 ≤ x ∧ x < 256) → cmpI xs ys = Lib.compareBytes (Lib.bytesOf xs) (Lib.bytesOf ys)
  | [], [], _, _ => by simp [cmpI, Lib.compareBytes, Lib.bytesOf]
  | [], _ :: _, _, _ => by simp [cmpI, Lib.compareBytes, Lib.bytesOf]
  | _ :: _, [], _, _ => by simp [cmpI, Lib.compareBytes, Lib.bytesOf]
  | a :: as, b :: bs, hx, hy => by
      have ih := cmpI_eq as bs (fun x h => hx x (by simp [h])) (fun x h => hy x (by simp [h]))
      have h1 := u8_lt (hx a (by simp)) (hy b (by simp))
      have h2 := u8_lt (hy b (by simp)) (hx a (by simp))
      simp only [cmpI, Lib.bytesOf, List.map_cons, Lib.compareBytes, h1, h2] at ih ⊢
      rw [← ih]
      by_cases e1 : a < b <;> by_cases e2 : b < a <;> simp [e1, e2]
theorem cmp_def (a b : Value) : Extern.BytealgCompare.compare #[a, b] = (do pure (goInt (Extern.BytealgCompare.cmp (← Extern.Bytes.bytesOf a) (← Extern.Bytes.bytesOf b)))) := rfl
def cmpX (f0 : FuncId) (f : FuncId) (args : List Value) (h : Hp) : Option Value :=
  bif Nat.beq f f0 then (match args with
  | [a, b] => match bytesV h a, bytesV h b with
    | some xs, some ys => some (.int .i64 (cmpI xs ys))
    | _, _ => none
  | _ => none) else none
theorem cmp_one {P : Program} {f0 : FuncId} (hrun : ∀ args w, (callFunc f0 args).run P w = ((Extern.BytealgCompare.compare args).run P w).andThen fun v w' => .ok (.value v) w') : XOne P (cmpX f0) := by
  intro f args h v hv W σ w args' hR ha
  simp only [cmpX] at hv
  obtain ⟨hf, h1⟩ := bif_of hv
  clear hv
  obtain rfl := Nat.eq_of_beq_eq_true hf
  split at h1
  · rename_i a b
    split at h1
    · rename_i xs ys hx hy
      cases h1
      obtain ⟨a', l, ea, el, rfl⟩ := renL_cons ha
      obtain ⟨b', l', eb, el', rfl⟩ := renL_cons el
      simp only [renL, Option.some.injEq] at el'
      subst el'
      obtain ⟨r1, k1⟩ := bytesV_ok (P := P) hR hx ea
      obtain ⟨r2, k2⟩ := bytesV_ok (P := P) hR hy eb
      refine ⟨rfl, ?_⟩
      rw [hrun]
      have ea' : [a', b'].toArray = #[a', b'] := rfl
      rw [ea', cmp_def]
      simp only [Sem.run_bind, r1, r2, Result.andThen_ok, Sem.run_pure]
      rw [Lib.cmp_eq, cmpI_eq xs ys k1 k2]
      rfl
    · cases h1
  · cases h1
end Go.Proofs.Ytojakfnljopjbaa
