/-
  The machine that runs in the kernel, part U: a whole call, the law.
-/
import Derived.Test.YtmoflcoijmmpjaaGrAH
import Derived.Laws.Externs
import Derived.Laws.Bits64
import Derived.IntWalk
namespace Go.Proofs.Ytmoflcoijmmpjaa
set_option linter.unusedSimpArgs false
set_option linter.unusedVariables false
set_option linter.unusedSectionVars false
open Go Go.RowKit

section
variable {P : Program} {W : World} {σ : Sg} {h : Hp} {w : World}
def resOf (tmps : Array Value) : ResultVar → Sem Value
 | .tmp t => pure (tmps.getD t undef)
 | .cell a t => do loadVar t (← asAddr (tmps.getD a undef))
theorem resV1_ok (hR : Rl W σ h w) {ts : Tm} {tmps : Array Value} (ht : RT σ ts tmps) {x : ResultVar} {v : Value} (hv : resV1 P ts h x = some v) : ∃ v', renV σ v = some v' ∧ (resOf tmps x).run P w = .ok v' w := by
 have hg : ∀ (t : Nat) (u : Value), tg ts t = some u → renV σ u = some (tmps.getD t undef) := ht.s
 cases x with
 | tmp t => exact ⟨_, hg t v hv, rfl⟩
 | cell p t =>
  simp only [resV1] at hv
  split at hv
  ·rename_i n o hp
   split at hv
   ·rename_i r hr
    obtain ⟨q, hb, hq, _⟩ := renV_ptr (hg p _ hp)
    obtain ⟨q', vs, hb', h2, h3⟩ := hR.cell hr
    rw [hb] at hb'
    cases hb'
    obtain ⟨v', h4, h5⟩ := loadV_ok (P := P) h2 h3 hv
    refine ⟨v', h4, ?_⟩
    simp only [resOf]
    rw [hq]
    simpa [asAddr] using h5
   ·cases hv
  ·cases hv
theorem resVL_ok (hR : Rl W σ h w) {ts : Tm} {tmps : Array Value} (ht : RT σ ts tmps) : ∀ {xs : List ResultVar} {vs : List Value}, resVL P ts h xs = some vs → ∃ vs', renL σ vs = some vs' ∧ (xs.mapM (resOf tmps)).run P w = .ok vs' w
 | [], vs, hv => by simp only [resVL, oI] at hv; subst hv; exact ⟨[], rfl, by simp⟩
 | x :: xs, vs, hv => by
   simp only [resVL] at hv
   split at hv
   ·rename_i u us h1 h2
    cases hv
    obtain ⟨u', e1, e2⟩ := resV1_ok hR ht h1
    obtain ⟨us', e3, e4⟩ := resVL_ok hR ht h2
    exact ⟨u' :: us', renL_mk e1 e3, by simp [List.mapM_cons, e2, e4]⟩
   ·cases hv
theorem one_ok {vs vs' : List Value} (hv : renL σ vs = some vs') : renV σ (one? vs) = some (if h : vs'.toArray.size = 1 then vs'.toArray[0] else .tuple vs'.toArray) := by
 have hl := renL_len hv
 unfold one?
 split
 ·rename_i v
  obtain ⟨a, b, h1, h2, rfl⟩ := renL_cons hv
  simp only [renL, oI] at h2
  subst h2
  exact h1
 ·rename_i hno
  have : ¬ (vs'.toArray.size = 1) := fun e => by
   simp only [List.size_toArray] at e
   rw [hl] at e
   match vs, e, hno with
   | [v], _, hno => exact hno v rfl
  rw [dif_neg this]
  exact renV_tuple_mk hv
theorem results_run {fn : Func} (hR : Rl W σ h w) {ts : Tm} {tmps : Array Value} (ht : RT σ ts tmps) {vs : List Value} (hv : resVL P ts h fn.results.toList = some vs) : ∃ v', renV σ (one? vs) = some v' ∧ (results fn tmps).run P w = .ok v' w := by
 obtain ⟨vs', e1, e2⟩ := resVL_ok hR ht hv
 refine ⟨_, one_ok e1, ?_⟩
 have hm : (fn.results.mapM (resOf tmps)).run P w = .ok vs'.toArray w := by
  rw [Array.mapM_eq_mapM_toList]
  simp [e2]
 have hres : results fn tmps = (do let vs ← fn.results.mapM (resOf tmps); pure (if h : vs.size = 1 then vs[0] else .tuple vs)) := by
  unfold results
  congr 1
 rw [hres]
 simp only [Sem.run_bind, hm, Result.andThen_ok, Sem.run_pure]
theorem oldD_mem {nx n : Nat} (hn : n < nx) : ∀ {d : List Nat}, n ∈ d → n ∈ oldD nx d
 | [], h => by cases h
 | m :: d, h => by
   simp only [oldD]
   cases hm : Nat.blt m nx with
   | true =>
    simp only [cond_true, List.mem_cons] at h ⊢
    exact h.imp id fun h => oldD_mem hn h
   | false =>
    simp only [cond_false]
    rcases List.mem_cons.1 h with rfl | h
    ·have : Nat.blt n nx = true := Nat.ble_eq_true_of_le hn
     rw [this] at hm; cases hm
    ·exact oldD_mem hn h
end
theorem tri_leave {P : Program} {f : FuncId} {args : List Value} {h : Hp} {nx : Nat} {vs : List Value} {h' : Hp} {nx' : Nat} {d : List Nat} (T : Tri P f args h nx (one? vs, h', nx', d)) : Tri P f args h nx (leave h nx vs h' nx' d) := by
 obtain ⟨t, s⟩ := T
 have old : ∀ d', oldD nx d = d' → ∀ n, n < nx → n ∉ d' → n ∉ d := fun d' e n hn hd hm => hd (e ▸ oldD_mem hn hm)
 unfold leave
 split
 ·rename_i he
  have hkeep : ∀ n, n < nx → lk h' n = lk h n := fun n hn => t.2.1 n hn (old [] he n hn (by simp))
  cases hf : flats vs with
  | true =>
   refine ⟨⟨t.1, fun _ _ _ => rfl, fun hb n hn => hb n (Nat.le_trans t.1 hn)⟩, fun hb W σ w args' hR hfr ha => (s hb W σ w args' hR hfr ha).mono fun e w' ⟨σ', v', S, hv, he'⟩ => ⟨σ', v', S.less fun n r hl => ?_, hv, he'⟩⟩
   have hn : n < nx := by
    rcases Nat.lt_or_ge n nx with h1 | h1
    ·exact h1
    ·have hl' : lk h n = some r := hl
     rw [hb n h1] at hl'; cases hl'
   show lk h' n = some r
   rw [hkeep n hn]; exact hl
  | false => exact ⟨⟨t.1, fun n hn _ => hkeep n hn, t.2.2⟩, s⟩
 ·rename_i d' hd
  exact ⟨⟨t.1, fun n hn hd' => t.2.1 n hn (old _ rfl n hn hd'), t.2.2⟩, s⟩
theorem wide_in {F : Fence} (hF : Wide F) (l : Nat) : Wide (F.inRound l) := ⟨hF.1, hF.2.1, hF.2.2⟩
theorem Rl.record {W : World} {σ : Sg} {h : Hp} {w : World} (hR : Rl W σ h w) {n : Nat} {st : LoopState} {pe : Option Code} {tm : List Value} {ps : Array Tmp} {as bd : Code} {cs : List Value} (hl : lk h n = some ⟨.round st pe tm ps as bd, cs⟩) {p : Nat × Nat} (hp : σ.b n = some p) :
  p.2 = 0 ∧ W.heap.size ≤ p.1 ∧ ∃ fn D tv, renL σ tm = some tv ∧ w.heap[p.1]? = some (.loop { state := st, pending := pe, fn := fn, tmps := tv.toArray, params := ps, assign := as, body := bd, defers := D }) := by
 obtain ⟨b, s, vs, hb, _, hk⟩ := hR.row _ _ hl
 rw [hp] at hb
 cases hb
 exact ⟨hk.1, hk.2.1, hk.2.2.2⟩
theorem Stp.record {W : World} {σ : Sg} {h : Hp} {w : World} (hR : Rl W σ h w) {n : Nat} {st : LoopState} {pe : Option Code} {tm : List Value} {ps : Array Tmp} {as bd : Code} {cs : List Value} (hl : lk h n = some ⟨.round st pe tm ps as bd, cs⟩) {p : Nat × Nat} (hp : σ.b n = some p) {fn D : Nat} {tv : List Value}
  (hv : renL σ tm = some tv) (st' : LoopState) (pe' : Option Code) (lo : Nat) :
  Stp W lo lo σ h w σ (setH h n ⟨.round st' pe' tm ps as bd, []⟩) (w.putObj p.1 (.loop { state := st', pending := pe', fn := fn, tmps := tv.toArray, params := ps, assign := as, body := bd, defers := D })) := by
 have hge := hR.ge hl (fun e => by cases e) hp
 exact Stp.turn hR hl (fun e => by cases e) hp _ (.round st' pe' tm ps as bd) (fun e => by cases e) ⟨hge.2, hge.1, rfl, fn, D, tv, hv, World.putObj_heap_same (hR.lt hl (fun e => by cases e) hp)⟩ lo
theorem Tidy.set {h : Hp} {nx : Nat} {h' : Hp} {nx' : Nat} {d : List Nat} (t : Tidy h nx h' nx' d) {n : Nat} (hn : Bd h nx → n < nx') (r : Rw) : Tidy h nx (setH h' n r) nx' (n :: d) :=
 ⟨t.1, fun m hm hd => by
  simp only [List.mem_cons, not_or] at hd
  rw [lk_setH, if_neg (Ne.symm hd.1)]; exact t.2.1 m hm hd.2, fun hB m hm => by
  have := hn hB
  rw [lk_setH, if_neg (by omega)]; exact t.2.2 hB m hm⟩
theorem Bd.set {h : Hp} {nx : Nat} (hB : Bd h nx) {n : Nat} (hn : n < nx) (r : Rw) : Bd (setH h n r) nx := fun m hm => by
 rw [lk_setH, if_neg (by omega)]; exact hB m hm
theorem Bd.lt {h : Hp} {nx : Nat} (hB : Bd h nx) {n : Nat} {r : Rw} (hl : lk h n = some r) : n < nx := by
 rcases Nat.lt_or_ge n nx with h1 | h1
 ·exact h1
 ·rw [hB n h1] at hl; cases hl
theorem Tidy.through {h : Hp} {nx : Nat} {h1 : Hp} {nx1 : Nat} {d1 : List Nat} {h3 : Hp} {nx3 : Nat} {d3 : List Nat} {n : Nat} {r r' : Rw} (t1 : Tidy h nx h1 nx1 d1) (hl : lk h1 n = some r) (t3 : Tidy (setH h1 n r') nx1 h3 nx3 d3) (s : Rw) : Tidy h nx (setH h3 n s) nx3 (n :: (d3 ++ d1)) := by
 refine ⟨Nat.le_trans t1.1 t3.1, fun m hm hd => ?_, fun hB => ?_⟩
 ·simp only [List.mem_cons, List.mem_append, not_or] at hd
  have hne : ¬ n = m := fun e => hd.1 e.symm
  rw [lk_setH, if_neg hne, t3.2.1 m (Nat.lt_of_lt_of_le hm t1.1) hd.2.1, lk_setH, if_neg hne]
  exact t1.2.1 m hm hd.2.2
 ·have hB1 := t1.2.2 hB
  have hlt := hB1.lt hl
  exact (t3.2.2 (hB1.set hlt _)).set (Nat.lt_of_lt_of_le hlt t3.1) _
def jumpOf : Xt → Option Code
 | .normal => none
 | .ret => some .ret
 | .exit i => some (.exit i)
theorem roundPost_of {P : Program} {l : Nat} {R : Ending → World → Prop} {x : Xt} {a : Act} {w : World} (h : ∃ v w', (Instr.endRound l (jumpOf x)).run P w = .ok v w' ∧ R (.returned v) w') : roundPost P l R x.toExit a w := by
 cases x <;> exact h
theorem roundR_ok {P : Program} {n : Nat} {args : List Value} {h : Hp} {nx : Nat} {tm : List Value} {ps : Array Tmp} {as bd : Code} {cs : List Value} (hl : lk h n = some ⟨.round .ready none tm ps as bd, cs⟩) (hg : Nat.beq args.length ps.size = true ∧ tm.length ≤ 60000)
  {ts1 : Tm} {h1 : Hp} {nx1 : Nat} {d1 ms1 : List Nat} (has : Runs true (fun F m Q => as.wpIn F m P Q) (putL (tinit tm tm.length) ps.toList args) h nx (.normal, ts1, h1, nx1, d1, ms1))
  {tm1 : List Value} {ps1 : Array Tmp} {as1 bd1 : Code} {cs1 : List Value} (hl1 : lk h1 n = some ⟨.round .ready none tm1 ps1 as1 bd1, cs1⟩)
  {x : Xt} {ts3 : Tm} {h3 : Hp} {nx3 : Nat} {d3 ms3 : List Nat} (hbd : Runs true (fun F m Q => bd.wpIn F m P Q) ts1 (setH h1 n ⟨.round .busy none tm1 ps1 as1 bd1, []⟩) nx1 (x, ts3, h3, nx3, d3, ms3))
  {st3 : LoopState} {pe3 : Option Code} {tm3 : List Value} {ps3 : Array Tmp} {as3 bd3 : Code} {cs3 : List Value} (hl3 : lk h3 n = some ⟨.round st3 pe3 tm3 ps3 as3 bd3, cs3⟩) :
  TriR P n args h nx (.bool (jumpOf x).isNone, setH h3 n ⟨.round (if (jumpOf x).isNone then .ready else .done) (jumpOf x) tm3 ps3 as3 bd3, []⟩, nx3, n :: (d3 ++ d1)) := by
 obtain ⟨t1, s1⟩ := has
 obtain ⟨t3, s3⟩ := hbd
 simp only at t1 t3 s1 s3
 refine ⟨t1.through hl1 t3 _, fun hB W σ w args' hR hf ha p hp => ?_⟩
 obtain ⟨e1, e2, fn, D, tv, hv, hrec⟩ := hR.record hl hp
 simp only at hf
 have hsz : args'.toArray.size = ps.size := by
  simp only [List.size_toArray]; rw [renL_len ha]; exact Nat.eq_of_beq_eq_true hg.1
 refine ⟨fn, _, as, bd, run_yield hrec hsz, fun F m hF => roundIn_of_wpIn (by rw [hF.1]; trivial) ?_⟩
 have hR0 : RT σ (putL (tinit tm tm.length) ps.toList args) ((ps.zip args'.toArray).foldl (fun tmps x => tmps.setIfInBounds x.1 x.2) tv.toArray) := by
  have := putL_ok (l := ps.toList) (tinit_ok hv hg.2 (Nat.le_refl _)) ha
  have e3 : tv.toArray ++ Array.replicate (tm.length - tv.length) undef = tv.toArray := by
   simp [renL_len hv]
  rw [e3] at this
  rw [← putA_eq] at this
  rw [← Array.foldl_toList, Array.toList_zip]
  exact this
 refine s1 hB W σ w { tmps := _, defers := [] } hR (hf.low t3.1) hR0 [] rfl (F.inRound p.1) m (wide_in hF _) (by intro e; cases e) _ fun σ1 w1 a1 es1 S1 b2 b4 b3 => ?_
 have hp1 := S1.le.1 _ _ hp
 obtain ⟨_, _, fn1, D1, tv1, hv1, hrec1⟩ := S1.rl.record hl1 hp1
 refine ⟨_, run_beginRound hrec1 rfl, ?_⟩
 have T1 := Stp.record S1.rl hl1 hp1 hv1 (fn := fn1) (D := D1) .busy none nx1
 have ST := S1.trans T1 t1.1 (Nat.le_refl _)
 have hB1 := t1.2.2 hB
 refine s3 (hB1.set (hB1.lt hl1) _) W σ1 _ a1 T1.rl (hf.next ST t1.1) b2 a1.defers rfl (F.inRound p.1) m (wide_in hF _) (by intro e; cases e) _ fun σ3 w3 a3 es3 S3 c2 c4 c3 => ?_
 have hp3 := S3.le.1 _ _ hp1
 obtain ⟨_, _, fn3, D3, tv3, hv3, hrec3⟩ := S3.rl.record hl3 hp3
 have T3 := Stp.record S3.rl hl3 hp3 hv3 (fn := fn3) (D := D3) (if (jumpOf x).isNone then .ready else .done) (jumpOf x) nx3
 refine roundPost_of ⟨_, _, run_endRound _ hrec3, σ3, .bool (jumpOf x).isNone, (ST.trans S3 t1.1 t3.1).trans T3 (Nat.le_trans t1.1 t3.1) (Nat.le_refl _), rfl, rfl⟩
def noX : FuncId → List Value → Hp → Option Value := fun _ _ _ => none
def noT : FuncId → List Value → Hp → Nat → Option Out := fun _ _ _ _ => none
theorem noX_ok {P : Program} {T : FuncId → List Value → Hp → Nat → Option Out} : XOk ⟨P, noX, T⟩ := fun f args hp v h => by cases h
theorem Stp.ext {W : World} {σ : Sg} {h : Hp} {w w' : World} (hR : Rl W σ h w) (hx : Ext w w') (lo : Nat) : Stp W lo lo σ h w σ h w' :=
 Stp0.up ⟨Sg.le.refl σ, fun _ _ => ⟨rfl, rfl⟩, ⟨hR.ext.trans hx, fun n r hl => hR.keepA hl (Sg.le.refl _) fun b hb => Below.block hx b hb, hR.inj⟩, hx.size, fun b hb _ _ => Below.block hx b hb, fun n r p hl ho hb => .inr ⟨n, r, p, hl, ho, hb, rfl⟩⟩ hR.shr hR.wf (hR.shr.sub fun n r hl => ⟨r, hl, fun h => h⟩)
theorem tri_quiet {P : Program} {f : FuncId} {args : List Value} {h : Hp} {nx : Nat} {v : Value} (ha : ∀ σ args', renL σ args = some args' → args' = args) (hv : ∀ σ, renV σ v = some v) (hC : ∀ w, Calls P f args.toArray w fun e w' => e = .returned v ∧ Ext w w') : Tri P f args h nx (v, h, nx, []) := by
 refine ⟨Tidy.refl _ _, fun _ W σ w args' hR _ hr => ?_⟩
 obtain rfl := ha σ args' hr
 exact (hC w).mono fun e w' ⟨he, hx⟩ => ⟨σ, v, Stp.ext hR hx nx, hv σ, he⟩
def XOne (P : Program) (g : FuncId → List Value → Hp → Option Value) : Prop := ∀ f args h v, g f args h = some v → ∀ W σ w args', Rl W σ h w → renL σ args = some args' → renV σ v = some v ∧ (callFunc f args'.toArray).run P w = .ok (.value v) w
def sg0 : Sg := ⟨fun _ => none, fun _ => none, fun _ => none, fun _ => none, true⟩
inductive Res (α : Type) where
 | no
 | ask (b : Bool)
 | ok (a : α)
def Alls : List Prop → Prop
 | [] => True
 | p :: l => p ∧ Alls l
theorem Alls_app : ∀ {a b : List Prop}, Alls (a ++ b) ↔ Alls a ∧ Alls b
 | [], b => by simp [Alls]
 | p :: a, b => by simp [Alls, Alls_app, and_assoc]

def mlN (n s : Nat) : Nat := bif Nat.beq s 1 then n else n * s
def adN (o m : Nat) : Nat := bif Nat.beq o 0 then m else o + m
def sbN (h l : Nat) : Nat := bif Nat.beq l 0 then h else h - l
def tkD {α : Type} (o m : Nat) (cs : List α) : List α := bif Nat.beq o 0 then cs.take m else (cs.drop o).take m
theorem mlN_eq (n s : Nat) : mlN n s = n * s := by
 unfold mlN
 cases h : Nat.beq s 1
 ·rfl
 ·rw [Nat.eq_of_beq_eq_true h]; simp
theorem adN_eq (o m : Nat) : adN o m = o + m := by
 unfold adN
 cases h : Nat.beq o 0
 ·rfl
 ·rw [Nat.eq_of_beq_eq_true h]; simp
theorem sbN_eq (o m : Nat) : sbN o m = o - m := by
 unfold sbN
 cases h : Nat.beq m 0
 ·rfl
 ·rw [Nat.eq_of_beq_eq_true h]; simp
theorem tkD_eq {α : Type} (o m : Nat) (cs : List α) : tkD o m cs = (cs.drop o).take m := by
 unfold tkD
 cases h : Nat.beq o 0
 ·rfl
 ·rw [Nat.eq_of_beq_eq_true h]; simp
def intAt (cs : List Value) (o : Nat) : Int := match cs[o]? with | some (.int _ n) => n | _ => 0
def boolAt (cs : List Value) (o : Nat) : Bool := match cs[o]? with | some (.bool b) => b | _ => false
def strAt (cs : List Value) (o : Nat) : ByteArray := match cs[o]? with | some (.string s) => s | _ => ByteArray.empty
def shp : Value → List Value → Nat → Option Value
 | .int k _, cs, o => some (.int k (intAt cs o))
 | .bool _, cs, o => some (.bool (boolAt cs o))
 | .string _, cs, o => some (.string (strAt cs o))
 | .slice none _ _, cs, o => some (cs.getD o undef)
 | _, _, _ => none
def shpL : List Value → List Value → Nat → Option (List Value)
 | [], _, _ => some []
 | z :: zs, cs, o => match shp z cs o, shpL zs cs (o + 1) with | some v, some l => some (v :: l) | _, _ => none
def ldZ (P : Program) (t : TypeId) (cs : List Value) (o : Nat) : Option (Value × Prop) :=
 match P.underlying t, P.info? t with
 | some d, some i => match i.zero with
  | some z => bif d.isRow then (match shpL z.cells.toList cs o with
    | some l => bif Nat.beq l.length i.size then some (.agg ⟨l⟩, (cs.drop o).take i.size = l) else none
    | none => none)
   else (match shp z cs o with | some v => some (v, cs[o]? = some v) | none => none)
  | none => none
 | _, _ => none
theorem ldZ_ok {P : Program} {t : TypeId} {cs : List Value} {o : Nat} {v : Value} {p : Prop} (h : ldZ P t cs o = some (v, p)) (hp : p) : loadV P t cs o = some v ∧ partV P t cs o = some v := by
 unfold ldZ at h
 unfold loadV partV
 split at h
 ·rename_i d i hu hi
  rw [hu]
  simp only [hi]
  split at h
  ·rename_i z hz
   rcases bif_or h with ⟨hd, h⟩ | ⟨hd, h⟩
   ·rw [hd]
    simp only [cond_true]
    split at h
    ·rename_i l hl
     obtain ⟨hb, h⟩ := bif_of h
     simp only [oI, pI] at h
     obtain ⟨rfl, rfl⟩ := h
     simp only [frc_eq, hp, hb, cond_true, and_self]
    ·cases h
   ·rw [hd]
    simp only [cond_false]
    split at h
    ·simp only [oI, pI] at h
     obtain ⟨rfl, rfl⟩ := h
     exact ⟨hp, hp⟩
    ·cases h
  ·cases h
 ·cases h

def shpN : Value → List Value → Nat → Option Value
 | .int k _, cs, o => some (.int k (intAt cs o))
 | .bool _, cs, o => some (.bool (boolAt cs o))
 | .string _, cs, o => some (.string (strAt cs o))
 | .slice none _ _, _, _ => some (.slice none 0 0)
 | _, _, _ => none
def shpNL : List Value → List Value → Nat → Option (List Value)
 | [], _, _ => some []
 | z :: zs, cs, o => match shpN z cs o, shpNL zs cs (o + 1) with | some v, some l => some (v :: l) | _, _ => none
def ldN (P : Program) (t : TypeId) (cs : List Value) (o : Nat) : Option (Value × Prop) :=
 match P.underlying t, P.info? t with
 | some d, some i => match i.zero with
  | some z => bif d.isRow then (match shpNL z.cells.toList cs o with
    | some l => bif Nat.beq l.length i.size then some (.agg ⟨l⟩, (cs.drop o).take i.size = l) else none
    | none => none)
   else (match shpN z cs o with | some v => some (v, cs[o]? = some v) | none => none)
  | none => none
 | _, _ => none
theorem ldN_ok {P : Program} {t : TypeId} {cs : List Value} {o : Nat} {v : Value} {p : Prop} (h : ldN P t cs o = some (v, p)) (hp : p) : loadV P t cs o = some v ∧ partV P t cs o = some v := by
 unfold ldN at h
 unfold loadV partV
 split at h
 ·rename_i d i hu hi
  rw [hu]
  simp only [hi]
  split at h
  ·rename_i z hz
   rcases bif_or h with ⟨hd, h⟩ | ⟨hd, h⟩
   ·rw [hd]
    simp only [cond_true]
    split at h
    ·rename_i l hl
     obtain ⟨hb, h⟩ := bif_of h
     simp only [oI, pI] at h
     obtain ⟨rfl, rfl⟩ := h
     simp only [frc_eq, hp, hb, cond_true, and_self]
    ·cases h
   ·rw [hd]
    simp only [cond_false]
    split at h
    ·simp only [oI, pI] at h
     obtain ⟨rfl, rfl⟩ := h
     exact ⟨hp, hp⟩
    ·cases h
  ·cases h
 ·cases h
def ldM (P : Program) (md : Nat) (t : TypeId) (cs : List Value) (o : Nat) : Option (Value × Prop) := bif Nat.beq md 5 then ldN P t cs o else ldZ P t cs o
theorem ldM_ok {P : Program} {md : Nat} {t : TypeId} {cs : List Value} {o : Nat} {v : Value} {p : Prop} (h : ldM P md t cs o = some (v, p)) (hp : p) : loadV P t cs o = some v ∧ partV P t cs o = some v := by
 unfold ldM at h
 rcases bif_or h with ⟨_, h⟩ | ⟨_, h⟩
 ·exact ldN_ok h hp
 ·exact ldZ_ok h hp

def bdZ (v : Option Value) (d top : Nat) : Option (Nat × List Prop) :=
 match v with
 | none => some (d, [])
 | some (.int _ i) => some (i.toNat, [0 ≤ i ∧ i ≤ (top : Int)])
 | _ => none
theorem bdZ_ok {v : Option Value} {d top r : Nat} {ob : List Prop} (h : bdZ v d top = some (r, ob)) (ho : Alls ob) : bdV v d top = some r := by
 unfold bdZ at h
 unfold bdV
 split at h
 ·simp only [oI, pI] at h; simp [h.1]
 ·rename_i k i
  simp only [oI, pI] at h
  obtain ⟨rfl, rfl⟩ := h
  simp only [decide_eq_true ho.1, cond_true]
 ·cases h
def bdsZ (len cap : Nat) (lo hi mx : Option Value) : Option ((Nat × Nat × Nat) × List Prop) :=
 match bdZ mx cap cap with
 | none => none
 | some (m, o1) => match hi, mx with
  | none, some _ => none
  | _, _ => match bdZ hi len m with
   | none => none
   | some (h, o2) => match bdZ lo 0 h with
    | none => none
    | some (l, o3) => some ((l, h, m), o1 ++ (o2 ++ o3))
theorem bdsZ_ok {len cap : Nat} {lo hi mx : Option Value} {q : Nat × Nat × Nat} {ob : List Prop} (h : bdsZ len cap lo hi mx = some (q, ob)) (ho : Alls ob) : bdsV len cap lo hi mx = some q := by
 unfold bdsZ at h
 unfold bdsV
 split at h
 ·cases h
 ·rename_i m o1 h1
  split at h
  ·cases h
  ·rename_i hno
   split at h
   ·cases h
   ·rename_i hh o2 h2
    split at h
    ·cases h
    ·rename_i l o3 h3
     simp only [oI, pI] at h
     obtain ⟨rfl, rfl⟩ := h
     obtain ⟨a1, a2⟩ := Alls_app.1 ho
     obtain ⟨a2, a3⟩ := Alls_app.1 a2
     have e2 := bdZ_ok h2 a2
     have e3 := bdZ_ok h3 a3
     rw [bdZ_ok h1 a1]
     cases hi with
     | none =>
      cases mx with
      | none => simp only [e2, e3]
      | some x => exact (hno _ rfl rfl).elim
     | some y => simp only [e2, e3]
def slO (o l m s : Nat) : Nat := bif Nat.beq m l then o else o + l * s
theorem slO_ad {n o l m s : Nat} : adAdd n o l m s = ⟨n, slO o l m s, none⟩ := by
 unfold adAdd slO
 cases Nat.beq m l <;> rfl
def loO (lo : Option Value) (o l m s : Nat) : Nat := match lo with | none => o | some _ => slO o l m s
theorem loO_eq {lo : Option Value} {o l m s : Nat} (h : lo = none → l = 0) : slO o l m s = loO lo o l m s := by
 cases lo with
 | none => rw [h rfl]; unfold slO loO; cases Nat.beq m 0 <;> simp
 | some _ => rfl
theorem bdsV_lo {len cap l h m : Nat} {hi mx : Option Value} (hb : bdsV len cap none hi mx = some (l, h, m)) : l = 0 := by
 unfold bdsV at hb
 split at hb
 ·cases hb
 ·split at hb
  ·cases hb
  ·split at hb
   ·cases hb
   ·split at hb
    ·cases hb
    ·rename_i h3
     simp only [oI, pI] at hb
     have := bdV_none h3
     omega
theorem blt_of {a b : Nat} (h : a < b) : Nat.blt a b = true := Nat.ble_eq_true_of_le h
def slZ (P : Program) (t : TypeId) (x : Value) (lo hi mx : Option Value) : Option (Value × List Prop) :=
 match P.underlying t, x with
 | some (.slice e), .slice a len cap => match P.info? e with
  | none => none
  | some i => match bdsZ len cap lo hi mx with
   | none => none
   | some ((l, h, m), ob) => match a with
    | none => some (.slice none (sbN h l) (sbN m l), (cap < capBig) :: ob)
    | some ⟨n, o, none⟩ => some (.slice (some ⟨n, loO lo o l m i.size, none⟩) (sbN h l) (sbN m l), (cap < capBig) :: ob)
    | _ => none
 | some .string, .string s => match mx with
  | some _ => none
  | none => match bdsZ s.data.toList.length s.data.toList.length lo hi none with
   | none => none
   | some ((l, h, _), ob) => some (.string ⟨((s.data.toList.drop l).take (h - l)).toArray⟩, ob)
 | some (.array n e), .pointer (some ⟨b, o, none⟩) => match P.info? e with
  | none => none
  | some i => match bdsZ n n lo hi mx with
   | none => none
   | some ((l, h, m), ob) => bif Nat.blt n capBig then some (.slice (some ⟨b, loO lo o l m i.size, none⟩) (sbN h l) (sbN m l), ob) else none
 | _, _ => none
theorem slZ_ok {P : Program} {t : TypeId} {x v : Value} {lo hi mx : Option Value} {ob : List Prop} (h : slZ P t x lo hi mx = some (v, ob)) (ho : Alls ob) : slV P t x lo hi mx = some v := by
 unfold slZ at h
 unfold slV
 split at h
 ·rename_i e a len cap hu
  rw [hu]
  simp only
  split at h
  ·cases h
  ·rename_i i hi
   rw [hi]
   simp only
   split at h
   ·cases h
   ·rename_i l hh m ob' hb
    split at h
    ·simp only [oI, pI] at h
     obtain ⟨rfl, rfl⟩ := h
     rw [bdsZ_ok hb ho.2, blt_of ho.1]
     simp only [cond_true, sbN_eq]
    ·rename_i n o
     simp only [oI, pI] at h
     obtain ⟨rfl, rfl⟩ := h
     have hbv := bdsZ_ok hb ho.2
     rw [hbv, blt_of ho.1]
     simp only [cond_true, slO_ad, sbN_eq]
     rw [loO_eq (lo := lo) (fun e => by subst e; exact bdsV_lo hbv)]
    ·cases h
 ·rename_i s hu
  rw [hu]
  simp only
  split at h
  ·cases h
  ·split at h
   ·cases h
   ·rename_i l hh m ob' hb
    simp only [oI, pI] at h
    obtain ⟨rfl, rfl⟩ := h
    rw [bdsZ_ok hb ho]
 ·rename_i n e b o hu
  rw [hu]
  simp only
  split at h
  ·cases h
  ·rename_i i hi
   rw [hi]
   simp only
   split at h
   ·cases h
   ·rename_i l hh m ob' hb
    obtain ⟨hc, h⟩ := bif_of h
    simp only [oI, pI] at h
    obtain ⟨rfl, rfl⟩ := h
    have hbv := bdsZ_ok hb ho
    rw [hbv, hc]
    simp only [cond_true, slO_ad, sbN_eq]
    rw [loO_eq (lo := lo) (fun e => by subst e; exact bdsV_lo hbv)]
 ·cases h

def intsOf (cs : List Value) : List Int := cs.map fun | .int _ n => n | _ => 0
theorem bytesOf_map : ∀ ns : List Int, bytesOf (ns.map (Value.int .u8)) = some ns
 | [] => rfl
 | n :: ns => by simp only [List.map_cons, bytesOf, byOf, bytesOf_map ns]
def srcZ (P : Program) (h : Hp) (size : Nat) (tx : TypeId) (x : Value) : Option (Nat × List Value × List Prop) :=
 match P.underlying tx, x with
 | some (.slice _), .slice none n _ => bif Nat.beq n 0 then some (0, [], []) else none
 | some (.slice _), .slice (some ⟨m, o, none⟩) n _ => match lk h m with
  | some r => some (n, tkD o (mlN n size) r.cs, [adN o (mlN n size) ≤ r.cs.length, all1 (tkD o (mlN n size) r.cs) = true])
  | none => none
 | some .string, .string s => bif Nat.beq size 1 then some (s.data.toList.length, s.data.toList.map fun b => Value.int .u8 b.toNat, []) else none
 | _, _ => none
theorem cellsAt_of {h : Hp} {n o len : Nat} {r : Rw} (hl : lk h n = some r) (hle : o + len ≤ r.cs.length) : cellsAt h n o len = some ((r.cs.drop o).take len) := by
 unfold cellsAt
 rw [hl]
 simp only [Nat.ble_eq_true_of_le hle, cond_true]
theorem srcZ_ok {P : Program} {h : Hp} {size : Nat} {tx : TypeId} {x : Value} {n : Nat} {cs : List Value} {ob : List Prop} (hs : srcZ P h size tx x = some (n, cs, ob)) (ho : Alls ob) : srcV P h size tx x = some (n, cs) := by
 unfold srcZ at hs
 unfold srcV
 split at hs
 ·rename_i e n' c hu
  rw [hu]
  obtain ⟨hb, hs⟩ := bif_of hs
  simp only [oI, pI] at hs
  obtain ⟨rfl, rfl, rfl⟩ := hs
  simp only [hb, cond_true]
 ·rename_i e m o n' c hu
  rw [hu]
  simp only
  split at hs
  ·rename_i r hl
   simp only [oI, pI] at hs
   obtain ⟨rfl, rfl, rfl⟩ := hs
   have h1 := ho.1
   have h2 := ho.2.1
   simp only [adN_eq, mlN_eq, tkD_eq] at h1 h2 ⊢
   rw [cellsAt_of hl h1]
   simp only [h2, cond_true]
  ·cases hs
 ·rename_i s hu
  rw [hu]
  obtain ⟨hb, hs⟩ := bif_of hs
  simp only [oI, pI] at hs
  obtain ⟨rfl, rfl, rfl⟩ := hs
  simp only [hb, cond_true]
 ·cases hs

def apZ (P : Program) (md : Nat) (h : Hp) (nx : Nat) (t tx : TypeId) (s x : Value) : Option (Out × List Prop) :=
 match P.underlying t with
 | some (.slice e) => match P.info? e with
  | some i => match srcZ P h i.size tx x with
   | some (n, news, ob) => match i.zero with
    | some z => bif Nat.beq z.cells.toList.length i.size && Nat.ble 1 i.size then (match s with
     | .slice none len cap => bif Nat.beq len 0 && Nat.beq cap 0 then (bif Nat.beq md 4 then some ((.slice none 0 0, h, nx, []), (n = 0) :: ob) else
       some ((.slice (some ⟨nx, 0, none⟩) n (capBig + nx), (nx, ⟨.room i.size z.cells.toList, news⟩) :: h, nx + 1, []), (n ≠ 0) :: (n * i.bytes ≤ 140737488355328 ∧ n ≤ 9223372036854775807) :: ob)) else none
     | .slice (some ⟨m, o, none⟩) len cap => match lk h m with
      | some r => bif Nat.beq md 1 then
        some ((.slice (some ⟨m, o, none⟩) (len + n) cap, setH h m ⟨r.kd, splice r.cs (adN o (mlN len i.size)) news⟩, nx, [m]), (cap < capBig) :: (len + n ≤ cap) :: (isOwn r.kd = true) :: (adN o (mlN len i.size) + news.length ≤ r.cs.length) :: ob)
       else bif Nat.beq md 2 then
        some ((.slice (some ⟨nx, 0, none⟩) (len + n) (capBig + nx), (nx, ⟨.room i.size z.cells.toList, tkD o (mlN len i.size) r.cs ++ news⟩) :: h, nx + 1, []), (cap < capBig) :: (cap < len + n) :: (adN o (mlN len i.size) ≤ r.cs.length) :: ((len + n) * i.bytes ≤ 140737488355328 ∧ len + n ≤ 9223372036854775807) :: ob)
       else match roomSz r.kd with
        | some (sz, zz) => bif Nat.beq o 0 && (Nat.beq sz i.size && beqZL zz z.cells.toList) then some ((.slice (some ⟨nx, 0, none⟩) (len + n) (capBig + nx), (nx, ⟨.room i.size z.cells.toList, r.cs ++ news⟩) :: delH h m, nx + 1, [m]), (cap = capBig + m) :: (r.cs.length = mlN len i.size) :: ((len + n) * i.bytes ≤ 140737488355328 ∧ len + n ≤ 9223372036854775807) :: ob) else none
        | none => none
      | none => none
     | _ => none) else none
    | none => none
   | none => none
  | none => none
 | _ => none
theorem nbeq_rfl (a : Nat) : Nat.beq a a = true := nbeq_eq rfl
theorem nbeq_false {a b : Nat} (h : a ≠ b) : Nat.beq a b = false := nbeq_ne h
theorem nble_false {a b : Nat} (h : b < a) : Nat.ble a b = false := by
 cases hb : Nat.ble a b with
 | false => rfl
 | true => exact absurd (Nat.le_of_ble_eq_true hb) (by omega)
theorem apZ_ok {P : Program} {md : Nat} {h : Hp} {nx : Nat} {t tx : TypeId} {s x : Value} {out : Out} {ob : List Prop} (hs : apZ P md h nx t tx s x = some (out, ob)) (ho : Alls ob) : appV P h nx t tx s x = some out := by
 unfold apZ at hs
 unfold appV
 split at hs
 case h_2 => cases hs
 rename_i e hu
 rw [hu]
 simp only
 split at hs
 case h_2 => cases hs
 rename_i i hi
 rw [hi]
 simp only
 split at hs
 case h_2 => cases hs
 rename_i n news ob' hsrc
 split at hs
 case h_2 => cases hs
 rename_i z hz
 obtain ⟨hg, hs⟩ := bif_of hs
 split at hs
 ·rename_i len cap
  obtain ⟨hg2, hs⟩ := bif_of hs
  rcases bif_or hs with ⟨_, hs⟩ | ⟨_, hs⟩
  ·simp only [oI, pI] at hs
   obtain ⟨rfl, rfl⟩ := hs
   rw [srcZ_ok hsrc ho.2]
   have h0 : n = 0 := ho.1
   subst h0
   simp only [hz, hg, hg2, cond_true, nbeq_rfl]
  ·simp only [oI, pI] at hs
   obtain ⟨rfl, rfl⟩ := hs
   rw [srcZ_ok hsrc ho.2.2]
   simp only [hz, hg, hg2, cond_true, nbeq_false ho.1, cond_false, Nat.ble_eq_true_of_le ho.2.1.1, Nat.ble_eq_true_of_le ho.2.1.2, Bool.and_self]
 ·rename_i m o len cap hs0
  clear hs0
  split at hs
  case h_2 => cases hs
  rename_i r hl
  rcases bif_or hs with ⟨_, hs⟩ | ⟨_, hs⟩
  ·simp only [oI, pI] at hs
   obtain ⟨rfl, rfl⟩ := hs
   obtain ⟨h1, h2, h3, h4, h5⟩ := ho
   rw [srcZ_ok hsrc h5]
   simp only [adN_eq, mlN_eq] at h4 ⊢
   simp only [hz, hg, cond_true, blt_of h1, Nat.ble_eq_true_of_le h2, hl, h3, Nat.ble_eq_true_of_le h4, Bool.and_self]
  ·rcases bif_or hs with ⟨_, hs⟩ | ⟨_, hs⟩
   ·simp only [oI, pI] at hs
    obtain ⟨rfl, rfl⟩ := hs
    obtain ⟨h1, h2, h3, h4, h5⟩ := ho
    rw [srcZ_ok hsrc h5]
    simp only [adN_eq, mlN_eq, tkD_eq] at h3 ⊢
    simp only [hz, hg, cond_true, blt_of h1, nble_false h2, cond_false, cellsAt_of hl h3, Nat.ble_eq_true_of_le h4.1, Nat.ble_eq_true_of_le h4.2, Bool.and_self]
   ·split at hs
    case h_2 => cases hs
    rename_i sz zz hsz
    obtain ⟨hg2, hs⟩ := bif_of hs
    simp only [oI, pI] at hs
    obtain ⟨rfl, rfl⟩ := hs
    obtain ⟨h1, h2, h4, h5⟩ := ho
    rw [srcZ_ok hsrc h5]
    subst h1
    rw [mlN_eq] at h2
    simp only [Bool.and_eq_true] at hg2
    have hb : Nat.blt (capBig + m) capBig = false := nble_false (by omega)
    simp only [hz, hg, cond_true, hb, cond_false, hl, hsz, nbeq_rfl, hg2.1, hg2.2.1, hg2.2.2, h2, Nat.ble_eq_true_of_le h4.1, Nat.ble_eq_true_of_le h4.2, Bool.and_self]
 ·cases hs
def cpZ (P : Program) (h : Hp) (nx : Nat) (t tx : TypeId) (d x : Value) : Option (Out × List Prop) :=
 match P.underlying t, d with
 | some (.slice e), .slice (some ⟨n, o, none⟩) dl _ => match P.info? e, lk h n with
  | some i, some r => match srcZ P h i.size tx x with
   | some (m, cs, ob) => bif isOwn r.kd then some ((.int .i64 (Nat.min m dl : Nat), setH h n ⟨r.kd, splice r.cs o (cs.take (mlN (Nat.min m dl) i.size))⟩, nx, [n]), (adN o (cs.take (mlN (Nat.min m dl) i.size)).length ≤ r.cs.length) :: ob) else none
   | none => none
  | _, _ => none
 | _, _ => none
theorem cpZ_ok {P : Program} {h : Hp} {nx : Nat} {t tx : TypeId} {d x : Value} {out : Out} {ob : List Prop} (hs : cpZ P h nx t tx d x = some (out, ob)) (ho : Alls ob) : ∃ v h' dd, copyV P h t tx d x = some (v, h', dd) ∧ out = (v, h', nx, dd) := by
 unfold cpZ at hs
 unfold copyV
 split at hs
 case h_2 => cases hs
 rename_i e n o dl c hu
 rw [hu]
 simp only
 split at hs
 case h_2 => cases hs
 rename_i i r hi hl
 rw [hi, hl]
 simp only
 split at hs
 case h_2 => cases hs
 rename_i m cs ob' hsrc
 obtain ⟨h1, hs⟩ := bif_of hs
 simp only [oI, pI] at hs
 obtain ⟨rfl, rfl⟩ := hs
 obtain ⟨h2, h3⟩ := ho
 rw [srcZ_ok hsrc h3]
 simp only [adN_eq, mlN_eq] at h2 ⊢
 refine ⟨_, _, _, ?_, rfl⟩
 simp only [h1, Nat.ble_eq_true_of_le h2, Bool.and_self, cond_true]

def clZ (P : Program) (h : Hp) (nx : Nat) (t : TypeId) (x : Value) : Option (Out × List Prop) :=
 match P.underlying t, x with
 | some (.slice e), .slice (some ⟨m, o, none⟩) n _ => match P.info? e, lk h m with
  | some i, some r => match i.zero with
   | some z => bif isOwn r.kd && noAdL z.cells.toList && Nat.blt 0 z.cells.toList.length && all1 z.cells.toList then some ((.tuple ⟨[]⟩, setH h m ⟨r.kd, splice r.cs o (zrep z.cells.toList (mlN n z.cells.toList.length))⟩, nx, [m]), [n ≠ 0, adN o (mlN n z.cells.toList.length) ≤ r.cs.length]) else none
   | none => none
  | _, _ => none
 | _, _ => none
theorem clZ_ok {P : Program} {ev : Operand → Option Value} {h : Hp} {nx : Nat} {t : TypeId} {x : Value} {args : Array Operand} {ts : Array TypeId} {out : Out} {ob : List Prop} (hs : clZ P h nx t x = some (out, ob)) (ho : Alls ob) (h1 : ts.toList = [t]) (h2 : evL ev args.toList = some [x]) : opV P ev h nx (.call ⟨.builtin .clear, args, ts⟩) = some out := by
 unfold clZ at hs
 split at hs
 case h_2 => cases hs
 rename_i e m o n c hu
 split at hs
 case h_2 => cases hs
 rename_i i r hi hl
 split at hs
 case h_2 => cases hs
 rename_i z hz
 obtain ⟨hb, hs⟩ := bif_of hs
 simp only [oI, pI] at hs
 obtain ⟨rfl, rfl⟩ := hs
 obtain ⟨hn, hle, _⟩ := ho
 simp only [adN_eq, mlN_eq] at hle ⊢
 have hp : pureV P ev h (.call ⟨.builtin .clear, args, ts⟩) = none := by
  simp only [pureV, h2]
  cases ts[0]? <;> rfl
 have hnw : newV P ev (.call ⟨.builtin .clear, args, ts⟩) = none := rfl
 have hb0 : Nat.beq n 0 = false := nbeq_ne hn
 simp only [opV, hp, hnw, extV, h1, h2, hu, hb0, cond_false, hi, hl, hz, hb, Nat.ble_eq_true_of_le hle, Bool.and_true, cond_true]

def lenOf : Value → Nat
 | .slice _ n _ => n
 | _ => 0
def isSl : Value → Bool
 | .slice _ _ _ => true
 | _ => false
def chAt (s : ByteArray) (i : Nat) : Nat := ((s.data.toList[i]?).getD 0).toNat
def rg : IntKind → Int → Prop
 | .i8, r => -128 ≤ r ∧ r ≤ 127
 | .i16, r => -32768 ≤ r ∧ r ≤ 32767
 | .i32, r => -2147483648 ≤ r ∧ r ≤ 2147483647
 | .i64, r => -9223372036854775808 ≤ r ∧ r ≤ 9223372036854775807
 | .u8, r => 0 ≤ r ∧ r ≤ 255
 | .u16, r => 0 ≤ r ∧ r ≤ 65535
 | .u32, r => 0 ≤ r ∧ r ≤ 4294967295
 | .u64, r => 0 ≤ r ∧ r ≤ 18446744073709551615
theorem rg_wrap {k : IntKind} {r : Int} (h : rg k r) : k.wrap r = r := by
 cases k
 ·exact IntWalk.i8_in r h
 ·exact IntWalk.i16_in r h
 ·exact IntWalk.i32_in r h
 ·exact IntWalk.i64_in r h
 ·exact IntWalk.u8_in r h
 ·exact IntWalk.u16_in r h
 ·exact IntWalk.u32_in r h
 ·exact IntWalk.u64_in r h
def adI : Int → Int → Int
 | .ofNat x, .ofNat y => .ofNat (x + y)
 | a, b => a + b
def mlI : Int → Int → Int
 | .ofNat x, .ofNat y => .ofNat (x * y)
 | a, b => a * b
def dvI : Int → Int → Int
 | .ofNat x, .ofNat y => .ofNat (x / y)
 | a, b => a / b
def mdI : Int → Int → Int
 | .ofNat x, .ofNat y => .ofNat (x % y)
 | a, b => a % b
def slI : Int → Int → Int
 | .ofNat x, .ofNat y => .ofNat (x * 2 ^ y)
 | a, b => a * 2 ^ b.toNat
def srI : Int → Int → Int
 | .ofNat x, .ofNat y => .ofNat (x / 2 ^ y)
 | a, b => a / 2 ^ b.toNat
theorem adI_eq (a b : Int) : adI a b = a + b := by cases a <;> cases b <;> rfl
theorem mlI_eq (a b : Int) : mlI a b = a * b := by cases a <;> cases b <;> rfl
theorem dvI_eq (a b : Int) : dvI a b = a / b := by cases a <;> cases b <;> rfl
theorem mdI_eq (a b : Int) : mdI a b = a % b := by cases a <;> cases b <;> rfl
theorem slI_eq (a b : Int) : slI a b = a * 2 ^ b.toNat := by
 cases a <;> cases b <;> rfl
theorem srI_eq (a b : Int) : srI a b = a / 2 ^ b.toNat := by
 cases a <;> cases b <;> rfl
def lowI (k : IntKind) (n : Int) : Int := mdI n (2 ^ k.bits)
theorem low_eq {k : IntKind} (hk : k.signed = false) (n : Int) : k.wrap n = lowI k n := by
 unfold lowI
 rw [mdI_eq]
 cases k <;> simp [IntKind.signed] at hk <;> simp [IntKind.wrap, IntKind.signed, IntKind.bits]
def biZ (md : Nat) (op : BinOp) (x y : Value) : Option (Value × List Prop) :=
 match op, x, y with
 | .add, .int k a, .int k' b => bif decide (k = k') && !(Nat.beq md 8) then some (.int k (adI a b), [rg k (adI a b)]) else none
 | .sub, .int k a, .int k' b => bif decide (k = k') && !(Nat.beq md 8) then some (.int k (a - b), [rg k (a - b)]) else none
 | .mul, .int k a, .int k' b => bif decide (k = k') && !(Nat.beq md 8) then some (.int k (mlI a b), [rg k (mlI a b)]) else none
 | .quo, .int k a, .int k' b => bif decide (k = k') then some (.int k (dvI a b), [0 ≤ a ∧ 0 < b ∧ rg k a]) else none
 | .rem, .int k a, .int k' b => bif decide (k = k') then some (.int k (mdI a b), [0 ≤ a ∧ 0 < b]) else none
 | .or, .int k a, .int k' b => bif decide (k = k') && Nat.beq md 7 then some (.int k (adI a b), [k.wrap (BitVec.ofInt k.bits a ||| BitVec.ofInt k.bits b).toNat = adI a b]) else none
 | .and, .int k a, .int k' b => bif decide (k = k') && Nat.beq md 7 then some (.int k (mdI a (adI b 1)), [k.wrap (BitVec.ofInt k.bits a &&& BitVec.ofInt k.bits b).toNat = mdI a (adI b 1)]) else none
 | .shl, .int k a, .int _ b => bif Nat.beq md 8 then none else some (.int k (slI a b), [0 ≤ b ∧ b ≤ (k.bits : Int) ∧ rg k (slI a b)])
 | .shr, .int k a, .int _ b => some (.int k (srI a b), [0 ≤ b ∧ b ≤ (k.bits : Int)])
 | .add, .string a, .string b => some (.string ⟨(a.data.toList ++ b.data.toList).toArray⟩, [a.data.toList.length + b.data.toList.length ≤ 9223372036854775807])
 | _, _, _ => none
theorem rg_quo {k : IntKind} {a b : Int} (h0 : 0 ≤ a) (h1 : 0 < b) (h2 : rg k a) : rg k (a / b) := by
 have e1 : 0 ≤ a / b := Int.ediv_nonneg h0 (Int.le_of_lt h1)
 have e2 : a / b ≤ a := Int.ediv_le_self b h0
 cases k <;> simp only [rg] at h2 ⊢ <;> omega
theorem biZ_ok {P : Program} {md : Nat} {op : BinOp} {t : TypeId} {x y v : Value} {ob : List Prop} (hs : biZ md op x y = some (v, ob)) (ho : Alls ob) : binV P op t x y = some v := by
 unfold biZ at hs
 unfold binV
 split at hs
 ·obtain ⟨hk, hs⟩ := bif_of hs
  simp only [Bool.and_eq_true] at hk
  simp only [oI, pI] at hs
  obtain ⟨rfl, rfl⟩ := hs
  simp only [hk.1, cond_true, binI]
  rw [← adI_eq, rg_wrap ho.1]
 ·obtain ⟨hk, hs⟩ := bif_of hs
  simp only [Bool.and_eq_true] at hk
  simp only [oI, pI] at hs
  obtain ⟨rfl, rfl⟩ := hs
  simp only [hk.1, cond_true, binI]
  rw [rg_wrap ho.1]
 ·obtain ⟨hk, hs⟩ := bif_of hs
  simp only [Bool.and_eq_true] at hk
  simp only [oI, pI] at hs
  obtain ⟨rfl, rfl⟩ := hs
  simp only [hk.1, cond_true, binI]
  rw [← mlI_eq, rg_wrap ho.1]
 ·obtain ⟨hk, hs⟩ := bif_of hs
  simp only [oI, pI] at hs
  obtain ⟨rfl, rfl⟩ := hs
  obtain ⟨h1, h2, h3⟩ := ho.1
  have hb : decide (_ = (0 : Int)) = false := decide_eq_false (Int.ne_of_gt h2)
  simp only [hk, cond_true, binI, hb, cond_false]
  rw [Int.tdiv_eq_ediv_of_nonneg h1, rg_wrap (rg_quo h1 h2 h3), dvI_eq]
 ·obtain ⟨hk, hs⟩ := bif_of hs
  simp only [oI, pI] at hs
  obtain ⟨rfl, rfl⟩ := hs
  obtain ⟨h1, h2⟩ := ho.1
  have hb : decide (_ = (0 : Int)) = false := decide_eq_false (Int.ne_of_gt h2)
  simp only [hk, cond_true, binI, hb, cond_false]
  rw [Int.tmod_eq_emod_of_nonneg h1, mdI_eq]
 ·obtain ⟨hk, hs⟩ := bif_of hs
  simp only [Bool.and_eq_true] at hk
  simp only [oI, pI] at hs
  obtain ⟨rfl, rfl⟩ := hs
  simp only [hk.1, cond_true, binI]
  rw [ho.1]
 ·obtain ⟨hk, hs⟩ := bif_of hs
  simp only [Bool.and_eq_true] at hk
  simp only [oI, pI] at hs
  obtain ⟨rfl, rfl⟩ := hs
  simp only [hk.1, cond_true, binI]
  rw [ho.1]
 ·rcases bif_or hs with ⟨_, hs⟩ | ⟨_, hs⟩
  ·cases hs
  simp only [oI, pI] at hs
  obtain ⟨rfl, rfl⟩ := hs
  obtain ⟨h1, h2, h3⟩ := ho.1
  have : ¬ ((_ : Int) < 0) := Int.not_lt.2 h1
  simp only [shV, decide_eq_false this, cond_false]
  rw [Nat.min_eq_left (by omega), ← slI_eq, rg_wrap h3]
 ·simp only [oI, pI] at hs
  obtain ⟨rfl, rfl⟩ := hs
  obtain ⟨h1, h2⟩ := ho.1
  have : ¬ ((_ : Int) < 0) := Int.not_lt.2 h1
  simp only [shV, decide_eq_false this, cond_false]
  rw [Nat.min_eq_left (by omega), srI_eq, Int.fdiv_eq_ediv_of_nonneg _ (Int.le_of_lt (Int.pow_pos (by decide)))]
 ·simp only [oI, pI] at hs
  obtain ⟨rfl, rfl⟩ := hs
  simp only [binS, Nat.ble_eq_true_of_le ho.1, cond_true]
 ·cases hs
def ixO (o i s : Nat) : Nat := bif Nat.beq o 0 then (bif Nat.beq s 1 then i else i * s) else (bif Nat.beq s 1 then o + i else o + i * s)
theorem ixO_eq (o i s : Nat) : ixO o i s = o + i * s := by
 unfold ixO
 cases h1 : Nat.beq o 0 <;> cases h2 : Nat.beq s 1 <;> simp only [cond_true, cond_false]
 ·rw [Nat.eq_of_beq_eq_true h2]; omega
 ·rw [Nat.eq_of_beq_eq_true h1]; omega
 ·rw [Nat.eq_of_beq_eq_true h1, Nat.eq_of_beq_eq_true h2]; omega
def cvZ (k0 k : IntKind) (n : Int) : Value × List Prop :=
 bif !k.signed && Nat.blt k.bits k0.bits then (.int k (lowI k n), []) else (.int k n, [rg k n])
theorem cvZ_ok {k0 k : IntKind} {n : Int} {v : Value} {ob : List Prop} (h : cvZ k0 k n = (v, ob)) (ho : Alls ob) : Value.int k (k.wrap n) = v := by
 unfold cvZ at h
 rcases bif_or h with ⟨hb, h⟩ | ⟨_, h⟩
 ·simp only [pI] at h
  obtain ⟨rfl, rfl⟩ := h
  simp only [Bool.and_eq_true, Bool.not_eq_true'] at hb
  rw [low_eq hb.1]
 ·simp only [pI] at h
  obtain ⟨rfl, rfl⟩ := h
  rw [rg_wrap ho.1]
def eqSZ (P : Program) (op : BinOp) (t : TypeId) (a b : Value) : Option (Value × List Prop) := match a, b with
 | .slice (some ad) l c, .slice none 0 0 => (match op, P.underlying t with
  | .eql, some (.slice _) => bif guardFree P t (.slice (some ad) l c) then some (.bool false, [0 < l]) else none
  | _, _ => none)
 | _, _ => none
theorem eqSZ_ok {P : Program} {op : BinOp} {t : TypeId} {x y v : Value} {ob : List Prop} (hs : eqSZ P op t x y = some (v, ob)) (ho : Alls ob) : binV P op t x y = some v := by
 unfold eqSZ at hs
 split at hs
 case h_2 => cases hs
 rename_i ad l c
 split at hs
 case h_2 => cases hs
 rename_i e hu
 obtain ⟨hg, hs⟩ := bif_of hs
 simp only [oI, pI] at hs
 obtain ⟨rfl, rfl⟩ := hs
 have hl : Nat.blt 0 l = true := blt_of ho.1
 simp only [binV, hg, cond_true, eqV, hu, hl]
def biY (P : Program) (md : Nat) (op : BinOp) (t : TypeId) (x y : Value) : Option (Value × List Prop) := match eqSZ P op t x y with
 | some r => some r
 | none => biZ md op x y
theorem biY_ok {P : Program} {md : Nat} {op : BinOp} {t : TypeId} {x y v : Value} {ob : List Prop} (hs : biY P md op t x y = some (v, ob)) (ho : Alls ob) : binV P op t x y = some v := by
 unfold biY at hs
 split at hs
 ·rename_i r hr
  cases hs
  exact eqSZ_ok hr ho
 ·exact biZ_ok hs ho
def pl1 (h : Hp) (nx : Nat) : Option (Value × List Prop) → Option (Out × List Prop)
 | some (v, ob) => some ((v, h, nx, []), ob)
 | none => none
def opZ (P : Program) (md : Nat) (ev : Operand → Option Value) (h : Hp) (nx : Nat) : Op → Option (Out × List Prop)
 | .load t x => match ev x with
  | some (.pointer (some ⟨n, o, none⟩)) => match lk h n with
   | some r => match ldM P md t r.cs o with
    | some (v, p) => some ((v, h, nx, []), [p])
    | none => none
   | none => none
  | _ => none
 | .indexAddr t x i => match ev x, ev i with
  | some (.slice (some ⟨n, o, none⟩) len _), some (.int _ iv) => match P.underlying t with
   | some (.slice e) => match P.info? e with
    | some ie => some ((.pointer (some ⟨n, ixO o iv.toNat ie.size, none⟩), h, nx, []), [0 ≤ iv ∧ iv < (len : Int)])
    | none => none
   | _ => none
  | some (.pointer (some ⟨n, o, none⟩)), some (.int _ iv) => match P.underlying t with
   | some (.array k e) => match P.info? e with
    | some ie => some ((.pointer (some ⟨n, ixO o iv.toNat ie.size, none⟩), h, nx, []), [0 ≤ iv ∧ iv < (k : Int)])
    | none => none
   | _ => none
  | _, _ => none
 | .index t x i => match ev x, ev i with
  | some (.string s), some (.int _ iv) => match P.underlying t with
   | some .string => some ((.int .u8 (chAt s iv.toNat), h, nx, []), [0 ≤ iv ∧ iv.toNat < s.data.toList.length])
   | _ => none
  | some (.agg cs), some (.int _ iv) => match P.underlying t with
   | some (.array k e) => match P.info? e with
    | some ie => match ldZ P e cs.toList (ixO 0 iv.toNat ie.size) with
     | some (v, p) => some ((v, h, nx, []), [0 ≤ iv ∧ iv < (k : Int), p])
     | none => none
    | none => none
   | _ => none
  | _, _ => none
 | .slice t x lo hi mx => match ev x, evO ev lo, evO ev hi, evO ev mx with
  | some v, some l, some u, some m => pl1 h nx (slZ P t v l u m)
  | _, _, _, _ => none
 | .makeSlice t l c => match P.underlying t with
  | some (.slice e) => match P.info? e, ev l, ev c with
   | some i, some (.int _ l), some (.int _ c) => match i.zero with
    | some z => bif noAdL z.cells.toList && Nat.ble 1 z.cells.toList.length then some ((.slice (some ⟨nx, 0, none⟩) l.toNat c.toNat, (nx, ⟨.shut, zrep z.cells.toList (mlN c.toNat i.size)⟩) :: h, nx + 1, []), [0 ≤ l ∧ l ≤ c ∧ (i.bytes : Int) * c ≤ 281474976710656 ∧ c ≤ 9223372036854775807]) else none
    | none => none
   | _, _, _ => none
  | _ => none
 | .store t x y => match ev x, ev y with
  | some (.pointer (some ⟨n, o, none⟩)), some v => match lk h n, P.info? t with
   | some r, some i => bif Nat.beq v.cells.toList.length i.size && isOwn r.kd then (bif Nat.beq md 9 then some ((undef, setH h n ⟨r.kd, splice r.cs o v.cells.toList⟩, nx, [n]), [all1 v.cells.toList = true, o + v.cells.toList.length ≤ r.cs.length]) else bif all1 v.cells.toList then some ((undef, setH h n ⟨r.kd, splice r.cs o v.cells.toList⟩, nx, [n]), [o + v.cells.toList.length ≤ r.cs.length]) else none) else none
   | _, _ => none
  | _, _ => none
 | .convert s d x => match P.underlying s, P.underlying d, ev x with
  | some (.int k0), some (.int k), some (.int _ n) => match cvZ k0 k n with | (v, ob) => some ((v, h, nx, []), ob)
  | some (.slice e), some .string, some (.slice (some ⟨n, o, none⟩) len _) => match P.underlying e, lk h n with
   | some (.int .u8), some r => some ((.string (strOfI (intsOf (tkD o len r.cs))), h, nx, []), [adN o len ≤ r.cs.length, tkD o len r.cs = (intsOf (tkD o len r.cs)).map (Value.int .u8)])
   | _, _ => none
  | _, _, _ => none
 | .binOp op t x y _ => match ev x, ev y with
  | some a, some b => pl1 h nx (biY P md op t a b)
  | _, _ => none
 | .call ⟨.builtin .append, args, ts⟩ => match ts.toList, evL ev args.toList with
  | [t, tx], some [s, x] => apZ P md h nx t tx s x
  | _, _ => none
 | .call ⟨.builtin .copy, args, ts⟩ => match ts.toList, evL ev args.toList with
  | [t, tx], some [d, x] => cpZ P h nx t tx d x
  | _, _ => none
 | .call ⟨.builtin .clear, args, ts⟩ => match ts.toList, evL ev args.toList with
  | [t], some [x] => clZ P h nx t x
  | _, _ => none
 | .call ⟨.builtin .len, args, ts⟩ => match evL ev args.toList, ts[0]? with
  | some [x], some t => match P.underlying t with
   | some (.slice _) => bif Nat.beq md 9 then some ((.int .i64 (lenOf x : Nat), h, nx, []), [isSl x = true]) else none
   | _ => none
  | _, _ => none
 | .call ⟨.builtin .cap, args, ts⟩ => match evL ev args.toList, ts[0]? with
  | some [.slice (some _) _ n], some t => match P.underlying t with
   | some (.slice _) => some ((.int .i64 (n : Nat), h, nx, []), [n < capBig])
   | _ => none
  | _, _ => none
 | _ => none
theorem opV_pure {P : Program} {ev : Operand → Option Value} {h : Hp} {nx : Nat} {op : Op} {v : Value} (hp : pureV P ev h op = some v) : opV P ev h nx op = some (v, h, nx, []) := by
 unfold opV
 split
 ·simp [pureV] at hp
 ·rename_i args ts
  simp only [pureV] at hp
  split at hp
  ·rename_i vs _; cases vs with
   | nil => simp [biV] at hp
   | cons a l => cases l with
    | nil => simp [biV] at hp
    | cons b l => cases l <;> simp [biV] at hp
  ·cases hp
 ·rename_i args ts
  simp only [pureV] at hp
  split at hp
  ·rename_i vs _; cases vs with
   | nil => simp [biV] at hp
   | cons a l => cases l with
    | nil => simp [biV] at hp
    | cons b l => cases l <;> simp [biV] at hp
  ·cases hp
 ·rw [hp]
 ·rw [hp]
theorem opZ_ok {P : Program} {md : Nat} {ev : Operand → Option Value} {h : Hp} {nx : Nat} {op : Op} {out : Out} {ob : List Prop} (hs : opZ P md ev h nx op = some (out, ob)) (ho : Alls ob) : opV P ev h nx op = some out := by
 cases op with
 | load t x =>
  simp only [opZ] at hs
  split at hs
  case h_2 => cases hs
  rename_i n o hx
  split at hs
  case h_2 => cases hs
  rename_i r hl
  split at hs
  case h_2 => cases hs
  rename_i v p hv
  simp only [oI, pI] at hs
  obtain ⟨rfl, rfl⟩ := hs
  exact opV_pure (by simp only [pureV, hx, hl]; exact (ldM_ok hv ho.1).1)
 | indexAddr t x i =>
  simp only [opZ] at hs
  split at hs
  ·rename_i n o len c k iv hx hi
   split at hs
   case h_2 => cases hs
   rename_i e hu
   split at hs
   case h_2 => cases hs
   rename_i ie hie
   simp only [oI, pI] at hs
   obtain ⟨rfl, rfl⟩ := hs
   refine opV_pure ?_
   simp only [pureV, hx, hi, iaV, hu, ixV, hie, decide_eq_true ho.1, cond_true, ixO_eq]
  ·rename_i n o k iv hx hi
   split at hs
   case h_2 => cases hs
   rename_i k e hu
   split at hs
   case h_2 => cases hs
   rename_i ie hie
   simp only [oI, pI] at hs
   obtain ⟨rfl, rfl⟩ := hs
   refine opV_pure ?_
   simp only [pureV, hx, hi, iaV, hu, ixV, hie, decide_eq_true ho.1, cond_true, ixO_eq]
  ·cases hs
 | index t x i =>
  simp only [opZ] at hs
  split at hs
  ·rename_i s k iv hx hi
   split at hs
   case h_2 => cases hs
   rename_i hu
   simp only [oI, pI] at hs
   obtain ⟨rfl, rfl⟩ := hs
   refine opV_pure ?_
   have h2 := ho.1.2
   simp only [pureV, hx, hi, indexV, hu, decide_eq_true ho.1.1, cond_true, List.getElem?_eq_getElem h2, chAt, Option.getD_some]
  ·rename_i cs k iv hx hi
   split at hs
   case h_2 => cases hs
   rename_i k e hu
   split at hs
   case h_2 => cases hs
   rename_i ie hie
   split at hs
   case h_2 => cases hs
   rename_i v p hv
   simp only [oI, pI] at hs
   obtain ⟨rfl, rfl⟩ := hs
   refine opV_pure ?_
   simp only [pureV, hx, hi, indexV, hu, ixV, hie, decide_eq_true ho.1, cond_true]
   have := (ldZ_ok hv ho.2.1).2
   rwa [ixO_eq, Nat.zero_add] at this
  ·cases hs
 | slice t x lo hi mx =>
  simp only [opZ] at hs
  split at hs
  case h_2 => cases hs
  rename_i v l u m h1 h2 h3 h4
  unfold pl1 at hs
  split at hs
  case h_2 => cases hs
  rename_i r ob' hr
  simp only [oI, pI] at hs
  obtain ⟨rfl, rfl⟩ := hs
  refine opV_pure ?_
  simp only [pureV, h1, h2, h3, h4, slZ_ok hr ho]
 | makeSlice t l c =>
  simp only [opZ] at hs
  split at hs
  case h_2 => cases hs
  rename_i e hu
  split at hs
  case h_2 => cases hs
  rename_i i kl l' kc c' hi h1 h2
  split at hs
  case h_2 => cases hs
  rename_i z hz
  obtain ⟨hb, hs⟩ := bif_of hs
  simp only [oI, pI] at hs
  obtain ⟨rfl, rfl⟩ := hs
  simp only [opV, pureV, newV, hu, hi, h1, h2, hz, hb, decide_eq_true ho.1, Bool.and_self, cond_true, mlN_eq]
  rfl
 | store t x y =>
  simp only [opZ] at hs
  split at hs
  case h_2 => cases hs
  rename_i n o v h1 h2
  split at hs
  case h_2 => cases hs
  rename_i r i hl hi
  obtain ⟨hb, hs⟩ := bif_of hs
  simp only [Bool.and_eq_true] at hb
  rcases bif_or hs with ⟨_, hs⟩ | ⟨_, hs⟩
  ·simp only [oI, pI] at hs
   obtain ⟨rfl, rfl⟩ := hs
   obtain ⟨a2, a3, _⟩ := ho
   simp only [opV, h1, h2, storeV, hl, hi, hb.1, hb.2, a2, Nat.ble_eq_true_of_le a3, Bool.and_self, cond_true, frc_eq]
  ·obtain ⟨a2, hs⟩ := bif_of hs
   simp only [oI, pI] at hs
   obtain ⟨rfl, rfl⟩ := hs
   obtain ⟨a3, _⟩ := ho
   simp only [opV, h1, h2, storeV, hl, hi, hb.1, hb.2, a2, Nat.ble_eq_true_of_le a3, Bool.and_self, cond_true, frc_eq]
 | convert s d x =>
  simp only [opZ] at hs
  split at hs
  case h_1 =>
   rename_i k0 k kk n h1 h2 h3
   simp only [oI, pI] at hs
   obtain ⟨rfl, rfl⟩ := hs
   refine opV_pure ?_
   simp only [pureV, h3, cvV, h1, h2]
   rw [cvZ_ok (v := (cvZ k0 k n).1) (ob := (cvZ k0 k n).2) rfl ho]
  case h_3 => cases hs
  rename_i e n o len c h1 h2 h3
  split at hs
  case h_2 => cases hs
  rename_i r hu hl
  simp only [oI, pI] at hs
  obtain ⟨rfl, rfl⟩ := hs
  refine opV_pure ?_
  obtain ⟨g1, g2, _⟩ := ho
  simp only [adN_eq, tkD_eq] at g1 g2 ⊢
  simp only [pureV, h3, cvV, h1, h2, hu, cellsAt_of hl g1]
  rw [g2, bytesOf_map, ← g2]
 | binOp op t x y p =>
  simp only [opZ] at hs
  split at hs
  case h_2 => cases hs
  rename_i a b h1 h2
  unfold pl1 at hs
  split at hs
  case h_2 => cases hs
  rename_i r ob' hr
  simp only [oI, pI] at hs
  obtain ⟨rfl, rfl⟩ := hs
  refine opV_pure ?_
  simp only [pureV, h1, h2, biY_ok hr ho]
 | call c =>
  obtain ⟨cal, args, ts⟩ := c
  cases cal with
  | builtin b =>
   cases b <;> simp only [opZ] at hs <;> (try cases hs)
   case append =>
    split at hs
    case h_2 => cases hs
    rename_i t tx s x h1 h2
    simp only [opV, builtV, h1, h2]
    rw [apZ_ok hs ho]
   case copy =>
    split at hs
    case h_2 => cases hs
    rename_i t tx s x h1 h2
    obtain ⟨v, h', dd, e1, rfl⟩ := cpZ_ok hs ho
    simp only [opV, builtV, h1, h2, e1]
   case clear =>
    split at hs
    case h_2 => cases hs
    rename_i t x h1 h2
    exact clZ_ok hs ho h1 h2
   case len =>
    split at hs
    case h_2 => cases hs
    rename_i x t h1 h2
    split at hs
    case h_2 => cases hs
    rename_i e hu
    obtain ⟨_, hs⟩ := bif_of hs
    simp only [oI, pI] at hs
    obtain ⟨rfl, rfl⟩ := hs
    have hx := ho.1
    refine opV_pure ?_
    cases x <;> simp only [isSl] at hx <;> (try cases hx)
    simp only [pureV, h1, biV, h2, lenV, hu, lenOf]
   case cap =>
    split at hs
    case h_2 => cases hs
    rename_i a l n t h1 h2
    split at hs
    case h_2 => cases hs
    rename_i e hu
    simp only [oI, pI] at hs
    obtain ⟨rfl, rfl⟩ := hs
    refine opV_pure ?_
    simp only [pureV, h1, biV, h2, capV, hu, blt_of ho.1, cond_true]
  | _ => simp [opZ] at hs
 | _ => simp [opZ] at hs
end Go.Proofs.Ytmoflcoijmmpjaa
