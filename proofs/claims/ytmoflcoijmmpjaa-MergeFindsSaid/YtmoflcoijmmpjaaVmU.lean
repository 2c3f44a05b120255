/-
  The machine that runs in the kernel, part U: a whole call, the law.
-/
import Derived.Test.YtmoflcoijmmpjaaVmT
namespace Go.Proofs.Ytmoflcoijmmpjaa
set_option linter.unusedSimpArgs false
set_option linter.unusedVariables false
set_option linter.unusedSectionVars false
open Go Go.RowKit

section
variable {P : Program} {W : World} {σ : Sg} {h : Hp} {w : World}
def resOf (tmps : Array Value) : ResultVar → Sem Value
  | .tmp t => pure (tmps.getD t undef)
  | .cell a t => do loadVar t (← asAddr (tmps.getD a undef))
theorem resV1_ok (hR : Rl W σ h w) {ts : Tm} {tmps : Array Value} (ht : RT σ ts tmps) {x : ResultVar} {v : Value} (hv : resV1 P ts h x = some v) : ∃ v', renV σ v = some v' ∧ (resOf tmps x).run P w = .ok v' w := by
  have hg : ∀ (t : Nat) (u : Value), tg ts t = some u → renV σ u = some (tmps.getD t undef) := ht.s
  cases x with
  | tmp t => exact ⟨_, hg t v hv, rfl⟩
  | cell p t =>
    simp only [resV1] at hv
    split at hv
    · rename_i n o hp
      split at hv
      · rename_i r hr
        obtain ⟨q, hb, hq, _⟩ := renV_ptr (hg p _ hp)
        obtain ⟨q', vs, hb', h2, h3⟩ := hR.cell hr
        rw [hb] at hb'
        cases hb'
        obtain ⟨v', h4, h5⟩ := loadV_ok (P := P) h2 h3 hv
        refine ⟨v', h4, ?_⟩
        simp only [resOf]
        rw [hq]
        simpa [asAddr] using h5
      · cases hv
    · cases hv
theorem resVL_ok (hR : Rl W σ h w) {ts : Tm} {tmps : Array Value} (ht : RT σ ts tmps) : ∀ {xs : List ResultVar} {vs : List Value}, resVL P ts h xs = some vs → ∃ vs', renL σ vs = some vs' ∧ (xs.mapM (resOf tmps)).run P w = .ok vs' w
  | [], vs, hv => by simp only [resVL, Option.some.injEq] at hv; subst hv; exact ⟨[], rfl, by simp⟩
  | x :: xs, vs, hv => by
      simp only [resVL] at hv
      split at hv
      · rename_i u us h1 h2
        cases hv
        obtain ⟨u', e1, e2⟩ := resV1_ok hR ht h1
        obtain ⟨us', e3, e4⟩ := resVL_ok hR ht h2
        exact ⟨u' :: us', renL_mk e1 e3, by simp [List.mapM_cons, e2, e4]⟩
      · cases hv
theorem one_ok {vs vs' : List Value} (hv : renL σ vs = some vs') : renV σ (one? vs) = some (if h : vs'.toArray.size = 1 then vs'.toArray[0] else .tuple vs'.toArray) := by
  have hl := renL_len hv
  unfold one?
  split
  · rename_i v
    obtain ⟨a, b, h1, h2, rfl⟩ := renL_cons hv
    simp only [renL, Option.some.injEq] at h2
    subst h2
    exact h1
  · rename_i hno
    have : ¬ (vs'.toArray.size = 1) := fun e => by
      simp only [List.size_toArray] at e
      rw [hl] at e
      match vs, e, hno with
      | [v], _, hno => exact hno v rfl
    rw [dif_neg this]
    exact renV_tuple_mk hv
theorem results_run {fn : Func} (hR : Rl W σ h w) {ts : Tm} {tmps : Array Value} (ht : RT σ ts tmps) {vs : List Value} (hv : resVL P ts h fn.results.toList = some vs) : ∃ v', renV σ (one? vs) = some v' ∧ (results fn tmps).run P w = .ok v' w := by
  obtain ⟨vs', e1, e2⟩ := resVL_ok hR ht hv
  refine ⟨_, one_ok e1, ?_⟩
  have hm : (fn.results.mapM (resOf tmps)).run P w = .ok vs'.toArray w := by
    rw [Array.mapM_eq_mapM_toList]
    simp [e2]
  have hres : results fn tmps = (do let vs ← fn.results.mapM (resOf tmps); pure (if h : vs.size = 1 then vs[0] else .tuple vs)) := by
    unfold results
    congr 1
  rw [hres]
  simp only [Sem.run_bind, hm, Result.andThen_ok, Sem.run_pure]
theorem oldD_mem {nx n : Nat} (hn : n < nx) : ∀ {d : List Nat}, n ∈ d → n ∈ oldD nx d
  | [], h => by cases h
  | m :: d, h => by
      simp only [oldD]
      cases hm : Nat.blt m nx with
      | true =>
        simp only [cond_true, List.mem_cons] at h ⊢
        exact h.imp id fun h => oldD_mem hn h
      | false =>
        simp only [cond_false]
        rcases List.mem_cons.1 h with rfl | h
        · have : Nat.blt n nx = true := Nat.ble_eq_true_of_le hn
          rw [this] at hm; cases hm
        · exact oldD_mem hn h
end
def TOk (E : Env) : Prop := ∀ f args h nx out, E.T f args h nx = some out → Tri E.P f args h nx out
theorem tri_leave {P : Program} {f : FuncId} {args : List Value} {h : Hp} {nx : Nat} {vs : List Value} {h' : Hp} {nx' : Nat} {d : List Nat} (T : Tri P f args h nx (one? vs, h', nx', d)) : Tri P f args h nx (leave h nx vs h' nx' d) := by
  obtain ⟨t, s⟩ := T
  have old : ∀ d', oldD nx d = d' → ∀ n, n < nx → n ∉ d' → n ∉ d := fun d' e n hn hd hm => hd (e ▸ oldD_mem hn hm)
  unfold leave
  split
  · rename_i he
    have hkeep : ∀ n, n < nx → lk h' n = lk h n := fun n hn => t.2.1 n hn (old [] he n hn (by simp))
    cases hf : flats vs with
    | true =>
      refine ⟨⟨t.1, fun _ _ _ => rfl, fun hb n hn => hb n (Nat.le_trans t.1 hn)⟩, fun hb W σ w args' hR hfr ha => (s hb W σ w args' hR hfr ha).mono fun e w' ⟨σ', v', S, hv, he'⟩ => ⟨σ', v', S.less fun n r hl => ?_, hv, he'⟩⟩
      have hn : n < nx := by
        rcases Nat.lt_or_ge n nx with h1 | h1
        · exact h1
        · have hl' : lk h n = some r := hl
          rw [hb n h1] at hl'; cases hl'
      show lk h' n = some r
      rw [hkeep n hn]; exact hl
    | false => exact ⟨⟨t.1, fun n hn _ => hkeep n hn, t.2.2⟩, s⟩
  · rename_i d' hd
    exact ⟨⟨t.1, fun n hn hd' => t.2.1 n hn (old _ rfl n hn hd'), t.2.2⟩, s⟩
theorem wide_in {F : Fence} (hF : Wide F) (l : Nat) : Wide (F.inRound l) := ⟨hF.1, hF.2.1, hF.2.2⟩
theorem Rl.record {W : World} {σ : Sg} {h : Hp} {w : World} (hR : Rl W σ h w) {n : Nat} {st : LoopState} {pe : Option Code} {tm : List Value} {ps : Array Tmp} {as bd : Code} {cs : List Value} (hl : lk h n = some ⟨.round st pe tm ps as bd, cs⟩) {p : Nat × Nat} (hp : σ.b n = some p) :
    p.2 = 0 ∧ W.heap.size ≤ p.1 ∧ ∃ fn D tv, renL σ tm = some tv ∧ w.heap[p.1]? = some (.loop { state := st, pending := pe, fn := fn, tmps := tv.toArray, params := ps, assign := as, body := bd, defers := D }) := by
  obtain ⟨b, s, vs, hb, _, hk⟩ := hR.row _ _ hl
  rw [hp] at hb
  cases hb
  exact ⟨hk.1, hk.2.1, hk.2.2.2⟩
theorem Stp.record {W : World} {σ : Sg} {h : Hp} {w : World} (hR : Rl W σ h w) {n : Nat} {st : LoopState} {pe : Option Code} {tm : List Value} {ps : Array Tmp} {as bd : Code} {cs : List Value} (hl : lk h n = some ⟨.round st pe tm ps as bd, cs⟩) {p : Nat × Nat} (hp : σ.b n = some p) {fn D : Nat} {tv : List Value}
    (hv : renL σ tm = some tv) (st' : LoopState) (pe' : Option Code) (lo : Nat) :
    Stp W lo lo σ h w σ (setH h n ⟨.round st' pe' tm ps as bd, []⟩) (w.putObj p.1 (.loop { state := st', pending := pe', fn := fn, tmps := tv.toArray, params := ps, assign := as, body := bd, defers := D })) := by
  have hge := hR.ge hl (fun e => by cases e) hp
  exact Stp.turn hR hl (fun e => by cases e) hp _ (.round st' pe' tm ps as bd) (fun e => by cases e) ⟨hge.2, hge.1, rfl, fn, D, tv, hv, World.putObj_heap_same (hR.lt hl (fun e => by cases e) hp)⟩ lo
theorem Tidy.set {h : Hp} {nx : Nat} {h' : Hp} {nx' : Nat} {d : List Nat} (t : Tidy h nx h' nx' d) {n : Nat} (hn : Bd h nx → n < nx') (r : Rw) : Tidy h nx (setH h' n r) nx' (n :: d) :=
  ⟨t.1, fun m hm hd => by
    simp only [List.mem_cons, not_or] at hd
    rw [lk_setH, if_neg (Ne.symm hd.1)]; exact t.2.1 m hm hd.2, fun hB m hm => by
    have := hn hB
    rw [lk_setH, if_neg (by omega)]; exact t.2.2 hB m hm⟩
theorem Bd.set {h : Hp} {nx : Nat} (hB : Bd h nx) {n : Nat} (hn : n < nx) (r : Rw) : Bd (setH h n r) nx := fun m hm => by
  rw [lk_setH, if_neg (by omega)]; exact hB m hm
theorem Bd.lt {h : Hp} {nx : Nat} (hB : Bd h nx) {n : Nat} {r : Rw} (hl : lk h n = some r) : n < nx := by
  rcases Nat.lt_or_ge n nx with h1 | h1
  · exact h1
  · rw [hB n h1] at hl; cases hl
theorem Tidy.through {h : Hp} {nx : Nat} {h1 : Hp} {nx1 : Nat} {d1 : List Nat} {h3 : Hp} {nx3 : Nat} {d3 : List Nat} {n : Nat} {r r' : Rw} (t1 : Tidy h nx h1 nx1 d1) (hl : lk h1 n = some r) (t3 : Tidy (setH h1 n r') nx1 h3 nx3 d3) (s : Rw) : Tidy h nx (setH h3 n s) nx3 (n :: (d3 ++ d1)) := by
  refine ⟨Nat.le_trans t1.1 t3.1, fun m hm hd => ?_, fun hB => ?_⟩
  · simp only [List.mem_cons, List.mem_append, not_or] at hd
    have hne : ¬ n = m := fun e => hd.1 e.symm
    rw [lk_setH, if_neg hne, t3.2.1 m (Nat.lt_of_lt_of_le hm t1.1) hd.2.1, lk_setH, if_neg hne]
    exact t1.2.1 m hm hd.2.2
  · have hB1 := t1.2.2 hB
    have hlt := hB1.lt hl
    exact (t3.2.2 (hB1.set hlt _)).set (Nat.lt_of_lt_of_le hlt t3.1) _
def jumpOf : Xt → Option Code
  | .normal => none
  | .ret => some .ret
  | .exit i => some (.exit i)
theorem roundPost_of {P : Program} {l : Nat} {R : Ending → World → Prop} {x : Xt} {a : Act} {w : World} (h : ∃ v w', (Instr.endRound l (jumpOf x)).run P w = .ok v w' ∧ R (.returned v) w') : roundPost P l R x.toExit a w := by
  cases x <;> exact h
theorem roundR_ok {P : Program} {n : Nat} {args : List Value} {h : Hp} {nx : Nat} {tm : List Value} {ps : Array Tmp} {as bd : Code} {cs : List Value} (hl : lk h n = some ⟨.round .ready none tm ps as bd, cs⟩) (hg : Nat.beq args.length ps.size = true ∧ tm.length ≤ 60000)
    {ts1 : Tm} {h1 : Hp} {nx1 : Nat} {d1 ms1 : List Nat} (has : Runs true (fun F m Q => as.wpIn F m P Q) (putL (tinit tm tm.length) ps.toList args) h nx (.normal, ts1, h1, nx1, d1, ms1))
    {tm1 : List Value} {ps1 : Array Tmp} {as1 bd1 : Code} {cs1 : List Value} (hl1 : lk h1 n = some ⟨.round .ready none tm1 ps1 as1 bd1, cs1⟩)
    {x : Xt} {ts3 : Tm} {h3 : Hp} {nx3 : Nat} {d3 ms3 : List Nat} (hbd : Runs true (fun F m Q => bd.wpIn F m P Q) ts1 (setH h1 n ⟨.round .busy none tm1 ps1 as1 bd1, []⟩) nx1 (x, ts3, h3, nx3, d3, ms3))
    {st3 : LoopState} {pe3 : Option Code} {tm3 : List Value} {ps3 : Array Tmp} {as3 bd3 : Code} {cs3 : List Value} (hl3 : lk h3 n = some ⟨.round st3 pe3 tm3 ps3 as3 bd3, cs3⟩) :
    TriR P n args h nx (.bool (jumpOf x).isNone, setH h3 n ⟨.round (if (jumpOf x).isNone then .ready else .done) (jumpOf x) tm3 ps3 as3 bd3, []⟩, nx3, n :: (d3 ++ d1)) := by
  obtain ⟨t1, s1⟩ := has
  obtain ⟨t3, s3⟩ := hbd
  simp only at t1 t3 s1 s3
  refine ⟨t1.through hl1 t3 _, fun hB W σ w args' hR hf ha p hp => ?_⟩
  obtain ⟨e1, e2, fn, D, tv, hv, hrec⟩ := hR.record hl hp
  simp only at hf
  have hsz : args'.toArray.size = ps.size := by
    simp only [List.size_toArray]; rw [renL_len ha]; exact Nat.eq_of_beq_eq_true hg.1
  refine ⟨fn, _, as, bd, run_yield hrec hsz, fun F m hF => roundIn_of_wpIn (by rw [hF.1]; trivial) ?_⟩
  have hR0 : RT σ (putL (tinit tm tm.length) ps.toList args) ((ps.zip args'.toArray).foldl (fun tmps x => tmps.setIfInBounds x.1 x.2) tv.toArray) := by
    have := putL_ok (l := ps.toList) (tinit_ok hv hg.2 (Nat.le_refl _)) ha
    have e3 : tv.toArray ++ Array.replicate (tm.length - tv.length) undef = tv.toArray := by
      simp [renL_len hv]
    rw [e3] at this
    rw [← putA_eq] at this
    rw [← Array.foldl_toList, Array.toList_zip]
    exact this
  refine s1 hB W σ w { tmps := _, defers := [] } hR (hf.low t3.1) hR0 [] rfl (F.inRound p.1) m (wide_in hF _) (by intro e; cases e) _ fun σ1 w1 a1 es1 S1 b2 b4 b3 => ?_
  have hp1 := S1.le.1 _ _ hp
  obtain ⟨_, _, fn1, D1, tv1, hv1, hrec1⟩ := S1.rl.record hl1 hp1
  refine ⟨_, run_beginRound hrec1 rfl, ?_⟩
  have T1 := Stp.record S1.rl hl1 hp1 hv1 (fn := fn1) (D := D1) .busy none nx1
  have ST := S1.trans T1 t1.1 (Nat.le_refl _)
  have hB1 := t1.2.2 hB
  refine s3 (hB1.set (hB1.lt hl1) _) W σ1 _ a1 T1.rl (hf.next ST t1.1) b2 a1.defers rfl (F.inRound p.1) m (wide_in hF _) (by intro e; cases e) _ fun σ3 w3 a3 es3 S3 c2 c4 c3 => ?_
  have hp3 := S3.le.1 _ _ hp1
  obtain ⟨_, _, fn3, D3, tv3, hv3, hrec3⟩ := S3.rl.record hl3 hp3
  have T3 := Stp.record S3.rl hl3 hp3 hv3 (fn := fn3) (D := D3) (if (jumpOf x).isNone then .ready else .done) (jumpOf x) nx3
  refine roundPost_of ⟨_, _, run_endRound _ hrec3, σ3, .bool (jumpOf x).isNone, (ST.trans S3 t1.1 t3.1).trans T3 (Nat.le_trans t1.1 t3.1) (Nat.le_refl _), rfl, rfl⟩
theorem round_ok {E : Env} {call : FuncId → List Value → Hp → Nat → Option Out} (hX : XOk E) (hC : COk E.P call) (hm : E.P.follows .mixedOrders = true) {n : Nat} {args : List Value} {h : Hp} {nx : Nat} {out : Out} (hs : roundF E call n args h nx = some out) : TriR E.P n args h nx out := by
  unfold roundF at hs
  split at hs
  case h_2 => cases hs
  rename_i tm ps as bd cs hl
  obtain ⟨hg, hs⟩ := bif_of hs
  simp only [Bool.and_eq_true, Nat.ble_eq] at hg
  split at hs
  case h_2 => cases hs
  rename_i ts1 h1 nx1 d1 ms1 has
  split at hs
  case h_2 => cases hs
  rename_i tm1 ps1 as1 bd1 cs1 hl1
  split at hs
  case h_2 => cases hs
  rename_i x ts3 h3 nx3 d3 ms3 hbd
  split at hs
  case h_2 => cases hs
  rename_i st3 pe3 tm3 ps3 as3 bd3 cs3 hl3
  have ho : out = (.bool (jumpOf x).isNone, setH h3 n ⟨.round (if (jumpOf x).isNone then .ready else .done) (jumpOf x) tm3 ps3 as3 bd3, []⟩, nx3, n :: (d3 ++ d1)) := by
    cases x <;> (simp only [Option.some.injEq] at hs; exact hs.symm)
  clear hs
  subst ho
  exact roundR_ok hl hg ((codeV_ok hX hC hm 100000).1 _ _ _ _ _ has) hl1 ((codeV_ok hX hC hm 100000).1 _ _ _ _ _ hbd) hl3
theorem runF_ok {E : Env} (hX : XOk E) (hT : TOk E) (hm : E.P.follows .mixedOrders = true) : ∀ k, COk E.P (runF E k)
  | 0 => ⟨fun f args h nx out hs => by simp [runF] at hs, fun f args h nx out hs => by simp [runF] at hs⟩
  | k + 1 => by
      have ih := runF_ok hX hT hm k
      refine ⟨fun f args h nx out hs hf0 => ?_, fun n args h nx out hs => ?_⟩
      · simp only [runF] at hs
        rcases bif_or hs with ⟨hb, _⟩ | ⟨_, hs⟩
        · exact (Nat.not_le_of_lt hf0 (Nat.le_of_ble_eq_true hb)).elim
        split at hs
        · rename_i r hr
          cases hs
          exact hT _ _ _ _ _ hr
        · split at hs
          · cases hs
          · rename_i fn hf
            split at hs
            · cases hs
            · rename_i c hc
              obtain ⟨hg, hs⟩ := bif_of hs
              simp only [Bool.and_eq_true, Nat.ble_eq] at hg
              split at hs
              · cases hs
              · rename_i x ts h' nx' d ms hno hrun
                split at hs
                case h_2 => cases hs
                rename_i h2 hdm
                split at hs
                · rename_i vs hvs
                  cases hs
                  obtain ⟨t1, s1⟩ := (codeV_ok hX ih hm 100000).1 _ _ _ _ _ hrun
                  simp only at t1 s1
                  obtain ⟨q1, q2⟩ := dropM_tidy (nx := nx) hdm
                  refine tri_leave ⟨⟨t1.1, fun n hn hd => ?_, fun hB n hn => q1 n (t1.2.2 hB n hn)⟩, fun hB W σ w args' hR hfr ha => ?_⟩
                  · simp only [List.mem_append, not_or] at hd
                    rw [q2 n hd.1]; exact t1.2.1 n hn hd.2
                  refine callsIn_wide.1 (callsIn_of_wp_marks (n := 0) hf hc trivial ?_)
                  refine s1 hB W σ w _ hR hfr (by simpa using tinit_ok ha hg.1 hg.2) [] rfl Fence.wide 0 wide_wide (fun _ => rfl) _ fun σ' w' a' es S ht hes hd => ?_
                  have key : LeavesInM Fence.wide 0 E.P fn a'.tmps (fun e w' => ∃ σ' v', Stp W nx nx' σ h w σ' h2 w' ∧ renV σ' (one? vs) = some v' ∧ e = .returned v') a'.defers .returning w' := by
                    rw [hd, List.append_nil]
                    refine leaves_marks nx' hdm hes S.rl fun w2 S2 => ?_
                    obtain ⟨v', e1, e2⟩ := results_run (P := E.P) S2.rl ht hvs
                    exact ⟨v', e2, σ', v', S.trans S2 t1.1 (Nat.le_refl _), e1, rfl⟩
                  cases x with
                  | normal => exact key
                  | ret => exact key
                  | exit i => exact (hno _ rfl).elim
                · cases hs
              · cases hs
      · simp only [runF] at hs
        rcases bif_or hs with ⟨_, hs⟩ | ⟨hb, _⟩
        · rw [Nat.add_sub_cancel_left] at hs
          exact round_ok hX ih hm hs
        · have : Nat.ble yBig (yBig + n) = true := Nat.ble_eq_true_of_le (Nat.le_add_right _ _)
          rw [this] at hb; cases hb
end Go.Proofs.Ytmoflcoijmmpjaa
