/-
  The told machine, part Zb: regions, code, rounds, calls; what tests are is told ahead, what is told or asked for is handed back.
-/
import Derived.Test.YtojakfnljopjbaaGrAN
namespace Go.Proofs.Ytojakfnljopjbaa
set_option linter.unusedSimpArgs false
set_option linter.unusedVariables false
set_option linter.unusedSectionVars false
open Go Go.RowKit

abbrev Tape := List Bool
abbrev Et := FuncId → List Value → Hp → Nat → Tape → Res (Out × Tape × List Prop)
structure Tv where
 T : FuncId → List Value → Hp → Nat → Tape → Option (Res (Out × Tape × List Prop))
 X : FuncId → List Value → Hp → Option (Value × List Prop)
 L : FuncId → Code → Tm → Hp → Nat → Tape → Option (Res (St5 × Tape × List Prop))
 tab : FuncId → List Nat
 sy : FuncId → Nat → Option Nat
 mg : FuncId → List Nat
 rd : Code → FuncId
def mdOf : List (Nat × Nat) → Nat → Option Nat
 | [], _ => none
 | (s, m) :: l, k => bif Nat.beq s k then some m else mdOf l k
def keyO (o : Oper) : Nat :=
 match o.dst with
 | some d => d
 | none => match o.op with
  | .store _ (.tmp t) _ => 100000 + t
  | .call ⟨.builtin .copy, args, _⟩ => match args.toList with
   | .tmp t :: _ => 200000 + t
   | _ => 300000
  | _ => 300000
def stepZ (V : Tv) (P : Program) (call : Et) (fid : FuncId) (ev : Operand → Option Value) (h : Hp) (nx : Nat) (o : Oper) (tp : Tape) : Res (Out × Tape × List Prop) :=
 match Kw ev o.op with
 | some (g, vs) => match V.X g vs h with
  | some (v, ob) => .ok ((v, h, nx, []), tp, ob)
  | none => bif Nat.blt g yBig && entB P g then call g vs h nx tp else .no
 | none => match yieldV ev o.op with
  | some (n, vs) => call (yBig + n) vs h nx tp
  | none => bif ndV o.op then (match V.sy fid (keyO o) with
   | some m => bif Nat.ble 30 m then (match odN P m ev h nx o.op with
    | some (out, ob) => .ok (out, tp, ob)
    | none => .no) else (match opZ P m ev h nx o.op with
    | some (out, ob) => .ok (out, tp, ob)
    | none => (match opV P ev h nx o.op with
     | some out => .ok (out, tp, [])
     | none => .no))
   | none => (match opV P ev h nx o.op with
    | some out => .ok (out, tp, [])
    | none => .no)) else .no
def XOkZ (V : Tv) (P : Program) : Prop := ∀ f args h v ob, V.X f args h = some (v, ob) → Alls ob → ∀ W σ w args', Rl W σ h w → renL σ args = some args' → renV σ v = some v ∧ (callFunc f args'.toArray).run P w = .ok (.value v) w
def TOkZ (V : Tv) (P : Program) : Prop := ∀ f args h nx tp out tp' ob, V.T f args h nx tp = some (.ok (out, tp', ob)) → Alls ob → Tri P f args h nx out
structure COkZ (P : Program) (call : Et) : Prop where
 fn : ∀ f args h nx tp out tp' ob, call f args h nx tp = .ok (out, tp', ob) → Alls ob → f < yBig → Tri P f args h nx out
 yl : ∀ n args h nx tp out tp' ob, call (yBig + n) args h nx tp = .ok (out, tp', ob) → Alls ob → TriR P n args h nx out
def tellZ (tab : List Nat) (dst : Option Tmp) (v : Value) (tp : Tape) (ob : List Prop) : Res (Value × Tape × List Prop) :=
 match dst with
 | some d => bif memN d tab then (match v with
  | .bool b => (match tp with
   | r :: tp' => .ok (.bool r, tp', ob ++ [b = r])
   | [] => .ask b)
  | _ => .no) else .ok (v, tp, ob)
 | none => .ok (v, tp, ob)
theorem tellZ_ok {tab : List Nat} {dst : Option Tmp} {v v' : Value} {tp tp' : Tape} {ob ob' : List Prop} (h : tellZ tab dst v tp ob = .ok (v', tp', ob')) (ho : Alls ob') : v' = v ∧ Alls ob := by
 unfold tellZ at h
 split at h
 ·rcases Be h with ⟨_, h⟩ | ⟨_, h⟩
  ·split at h
   ·split at h
    ·simp only [Res.ok.injEq, pI] at h
     obtain ⟨rfl, rfl, rfl⟩ := h
     obtain ⟨h1, h2⟩ := Bw.1 ho
     have := h2.1
     subst this
     exact ⟨rfl, h1⟩
    ·cases h
   ·cases h
  ·simp only [Res.ok.injEq, pI] at h
   obtain ⟨rfl, rfl, rfl⟩ := h
   exact ⟨rfl, ho⟩
 ·simp only [Res.ok.injEq, pI] at h
  obtain ⟨rfl, rfl, rfl⟩ := h
  exact ⟨rfl, ho⟩
theorem Di {α : Type} {c : Bool} {x : Res α} {y : α} (h : (bif c then x else .no) = .ok y) : c = true ∧ x = .ok y := by
 cases c with
 | true => exact ⟨rfl, h⟩
 | false => cases h
section
variable {V : Tv} {P : Program} {call : Et}
theorem stepZ_ok (hX : XOkZ V P) (hC : COkZ P call) {fid : FuncId} {o : Oper} {ev : Operand → Option Value} {h : Hp} {nx : Nat} {tp tp' : Tape} {out : Out} {ob : List Prop} (hs : stepZ V P call fid ev h nx o tp = .ok (out, tp', ob)) (ho : Alls ob) : Does P o ev h nx out := by
 unfold stepZ at hs
 split at hs
 ·rename_i g vs hc
  split at hs
  ·rename_i v ob' hx
   simp only [Res.ok.injEq, pI] at hs
   obtain ⟨rfl, rfl, rfl⟩ := hs
   refine ⟨Tidy.refl _ _, fun _ W σ w a hR hf H F m hF K Q hK => opIn hF (calleeV_nd hc) ?_⟩
   obtain ⟨vs', h1, h2⟩ := calleeV_ok (P := P) H hc w
   obtain ⟨h3, h4⟩ := hX g vs h v _ hx ho W σ w vs' hR h1
   unfold Oper.wp
   rw [h2, h4]
   exact hK σ w v (Stp.refl hR nx) h3
  ·obtain ⟨he0, hs⟩ := Di hs
   simp only [Bool.and_eq_true] at he0
   obtain ⟨hlt, he⟩ := he0
   obtain ⟨h1, h2⟩ := hC.fn g vs h nx tp out _ _ hs ho (Nat.le_of_ble_eq_true hlt)
   refine ⟨h1, fun hB W σ w a hR hf H F m hF K Q hK => opIn hF (calleeV_nd hc) ?_⟩
   obtain ⟨vs', h3, h4⟩ := calleeV_ok (P := P) H hc w
   unfold Oper.wp
   rw [h4, run_enter he]
   exact (h2 hB W σ w vs' hR hf h3).mono fun e w' ⟨σ', v', a1, a2, a3⟩ => by subst a3; exact hK σ' w' v' a1 a2
 ·split at hs
  ·rename_i n vs hy
   obtain ⟨h1, h2⟩ := hC.yl n vs h nx tp out _ _ hs ho
   refine ⟨h1, fun hB W σ w a hR hf H F m hF K Q hK => ?_⟩
   obtain ⟨hd, p, vs', hp, h3, h4⟩ := yieldV_ok (P := P) H hy w
   obtain ⟨fn, tmps, as, bd, h5, h6⟩ := h2 hB W σ w vs' hR hf h3 p hp
   refine ⟨fun f _ => by rw [hF.1]; trivial, ?_⟩
   rw [semAt_same hd, h4, h5, Oper.uponIn_round]
   refine ⟨fun h' => (by rw [hF.2.1] at h'; cases h'), (h6 F (m - 1) hF).mono ?_⟩
   rintro e w' ⟨σ', v', a1, a2, rfl⟩
   exact hK σ' w' v' a1 a2
  ·obtain ⟨hnd, hs⟩ := Di hs
   have hd : Em o = true := by
    unfold Em; unfold ndV at hnd
    split <;> simp_all
   have fin : (∃ m, odN P m ev h nx o.op = some (out, ob)) ∨ opV P ev h nx o.op = some out := by
    split at hs
    ·rename_i m hm
     cases hb : Nat.ble 30 m with
     | true =>
      rw [hb] at hs
      simp only [cond_true] at hs
      split at hs
      ·rename_i out' ob' hz
       simp only [Res.ok.injEq, pI] at hs
       obtain ⟨rfl, rfl, rfl⟩ := hs
       exact .inl ⟨m, hz⟩
      ·cases hs
     | false =>
     rw [hb] at hs
     simp only [cond_false] at hs
     refine .inr ?_
     split at hs
     ·rename_i out' ob' hz
      simp only [Res.ok.injEq, pI] at hs
      obtain ⟨rfl, rfl, rfl⟩ := hs
      exact opZ_ok hz ho
     ·split at hs
      ·rename_i hz
       simp only [Res.ok.injEq, pI] at hs
       rw [hz, hs.1]
      ·cases hs
    ·split at hs
     ·rename_i hz
      simp only [Res.ok.injEq, pI] at hs
      exact .inr (by rw [hz, hs.1])
     ·cases hs
   obtain ⟨v, h', nx', d⟩ := out
   rcases fin with ⟨m, hz⟩ | key
   ·refine ⟨odN_tidy hz, fun _ W σ w a hR hf H F m hF K Q hK => opIn hF hd ?_⟩
    obtain ⟨σ', w', v', h1, h2, h3⟩ := odN_ok hR hf H hz ho
    exact wp_ends h3 (hK σ' w' v' h1 h2)
   refine ⟨opV_tidy key, fun _ W σ w a hR hf H F m hF K Q hK => opIn hF hd ?_⟩
   obtain ⟨σ', w', v', h1, h2, h3⟩ := opV_ok hR hf H key
   exact wp_ends h3 (hK σ' w' v' h1 h2)
def seqZ (V : Tv) (P : Program) (call : Et) (fid : FuncId) (ops : Array Oper) : List Oper → Tm → Hp → Nat → Tape → Res (St4 × Tape × List Prop)
 | [], ts, h, nx, tp => .ok ((ts, h, nx, []), tp, [])
 | o :: rest, ts, h, nx, tp => match wantV ops ts o with
  | some true => match stepZ V P call fid (evA ts) h nx o tp with
   | .ok ((v0, h', nx', d), tp0, ob0) => match tellZ (V.tab fid) o.dst v0 tp0 ob0 with
    | .ok (v, tp2, ob2) => match seqZ V P call fid ops rest (putV ts o.dst v) h' nx' tp2 with
     | .ok ((ts2, h2, nx2, d2), tp3, ob3) => .ok ((ts2, h2, nx2, d2 ++ d), tp3, ob2 ++ ob3)
     | .ask b => .ask b
     | .no => .no
    | .ask b => .ask b
    | .no => .no
   | .ask b => .ask b
   | .no => .no
  | some false => seqZ V P call fid ops rest (putV ts o.dst undef) h nx tp
  | none => .no
theorem seqZ_ok (hX : XOkZ V P) (hC : COkZ P call) {fid : FuncId} {ops : Array Oper} : ∀ (l : List Oper) (ts : Tm) (h : Hp) (nx : Nat) (tp tp' : Tape) (ts' : Tm) (h' : Hp) (nx' : Nat) (d : List Nat) (ob : List Prop), seqZ V P call fid ops l ts h nx tp = .ok ((ts', h', nx', d), tp', ob) → Alls ob →
  Tidy h nx h' nx' d ∧ (Bd h nx → ∀ W σ w a, Rl W σ h w → Fresh σ nx nx' → RT σ ts a.tmps → ∀ ds, a.defers = ds → ∀ (F : Fence) (m : Nat), Wide F → ∀ Q : Exit → Act → World → Prop,
   (∀ σ' w' a', Stp W nx nx' σ h w σ' h' w' → RT σ' ts' a'.tmps → a'.defers = ds → Q .normal a' w') → wpListIn F m P ops Q l a w)
 | [], ts, h, nx, tp, tp', ts', h', nx', d, ob, hs, ho => by
   simp only [seqZ, Res.ok.injEq, pI] at hs
   obtain ⟨⟨rfl, rfl, rfl, rfl⟩, rfl, rfl⟩ := hs
   exact ⟨Tidy.refl _ _, fun _ W σ w a hR hf ht ds hd F m hF Q hQ => hQ σ w a (Stp.refl hR nx) ht hd⟩
 | o :: rest, ts, h, nx, tp, tp', ts', h', nx', d, ob, hs, ho => by
   simp only [seqZ] at hs
   split at hs
   ·rename_i hw
    split at hs
    ·rename_i v0 h1 nx1 d1 tp0 ob0 hst
     split at hs
     ·rename_i v tp2 ob2 htl
      split at hs
      ·rename_i ts2 h2 nx2 d2 tp3 ob3 hr
       simp only [Res.ok.injEq, pI] at hs
       obtain ⟨⟨rfl, rfl, rfl, rfl⟩, rfl, rfl⟩ := hs
       obtain ⟨o2, o3⟩ := Bw.1 ho
       obtain ⟨rfl, o0⟩ := tellZ_ok htl o2
       obtain ⟨t1, s1⟩ := stepZ_ok hX hC hst o0
       obtain ⟨t2, s2⟩ := seqZ_ok hX hC rest _ _ _ _ _ _ _ _ _ _ hr o3
       refine ⟨t1.trans t2, fun hB W σ w a hR hf ht ds hd F m hF Q hQ => ?_⟩
       have hwant := K9 (σ := σ) (tmps := a.tmps) hw (fun j want oj dd _ _ _ => ht.s dd)
       unfold wpListIn
       rw [if_pos hwant]
       refine s1 hB W σ w a hR (hf.low t2.1) (evs_of ht) F m hF _ _ fun σ1 w1 v' a1 a2 => ?_
       refine s2 (t1.2.2 hB) W σ1 w1 _ a1.rl (hf.next a1 t1.1) (putV_ok (ht.le a1.le) a2) ds (by cases o.dst <;> exact hd) F m hF Q fun σ2 w2 a2 b1 b2 b3 => ?_
       exact hQ σ2 w2 a2 (a1.trans b1 t1.1 t2.1) b2 b3
      ·cases hs
      ·cases hs
     ·cases hs
     ·cases hs
    ·cases hs
    ·cases hs
   ·rename_i hw
    obtain ⟨t2, s2⟩ := seqZ_ok hX hC rest _ _ _ _ _ _ _ _ _ _ hs ho
    refine ⟨t2, fun hB W σ w a hR hf ht ds hd F m hF Q hQ => ?_⟩
    have hwant := K9 (σ := σ) (tmps := a.tmps) hw (fun j want oj dd _ _ _ => ht.s dd)
    unfold wpListIn
    rw [if_neg (by rw [hwant]; exact Bool.false_ne_true)]
    exact ⟨fun f _ => by rw [hF.1]; trivial, s2 hB W σ w _ hR hf (putV_ok ht rfl) ds (by cases o.dst <;> exact hd) F m hF Q hQ⟩
   ·cases hs
def recRZ (V : Tv) (P : Program) (call : Et) (fid : FuncId) (ops : Array Oper) (o : Oper) (past : List Rec) (an : Msk) (ts : Tm) (nx : Nat) (rh : Hp) (tp : Tape) : Res (Rec × Tape × List Prop) :=
 match stepZ V P call fid (evR (loN ops o) ts) rh nx o tp with
 | .no => .no
 | .ask b => .ask b
 | .ok ((v0, r', nx', d), tp0, ob0) => match tellZ (V.tab fid) o.dst v0 tp0 ob0 with
  | .ok (v, tp', ob) => frc (loN ops o) fun lo => frc (rh.map (·.1)) fun rd => frc (efOld r' d ++ efNew nx r') fun ef => bif chkV an ⟨lo, o.dst, v, nx, nx', rd, ef, an⟩ 0 past then .ok (⟨lo, o.dst, v, nx, nx', rd, ef, an⟩, tp', ob) else .no
  | .ask b => .ask b
  | .no => .no
def recZ (V : Tv) (P : Program) (call : Et) (fid : FuncId) (ops : Array Oper) (o : Oper) (past : List Rec) (ts : Tm) (h : Hp) (nx : Nat) (tp : Tape) : Res (Rec × Tape × List Prop) :=
 match ancV past o.after.toList with
 | none => .no
 | some an => match wantV ops ts o with
  | none => .no
  | some false => frc (loN ops o) fun lo => bif chkV an ⟨lo, o.dst, undef, nx, nx, [], [], an⟩ 0 past then .ok (⟨lo, o.dst, undef, nx, nx, [], [], an⟩, tp, []) else .no
  | some true => bif bigOp o.op || (match V.sy fid (keyO o) with | some m => Nat.ble 1000 m || Nat.beq m 52 | none => false) then recRZ V P call fid ops o past an ts nx (Lv (tchUn an 0 past) h) tp else recRZ V P call fid ops o past an ts nx (pickH h (rdsV (evR (loN ops o) ts) o.op)) tp
theorem recZ_ok (hX : XOkZ V P) (hC : COkZ P call) {X0 : FuncId → List Value → Hp → Option Value} {T0 : FuncId → List Value → Hp → Nat → Option Out} {fid : FuncId} {ops : Array Oper} {o : Oper} {past : List Rec} {ts : Tm} {h : Hp} {nx : Nat} {tp tp' : Tape} {r : Rec} {ob : List Prop} (hr : recZ V P call fid ops o past ts h nx tp = .ok (r, tp', ob)) (ho : Alls ob) : RecOk ⟨P, X0, T0⟩ ops o past ts h nx r := by
 unfold recZ at hr
 split at hr
 ·cases hr
 ·rename_i an han
  split at hr
  ·cases hr
  ·rename_i hw
   rw [Cz] at hr
   obtain ⟨hc, e⟩ := Di hr
   simp only [Res.ok.injEq, pI] at e
   obtain ⟨rfl, rfl, rfl⟩ := e
   exact ⟨rfl, rfl, rfl, han, hc, .inl ⟨hw, rfl, rfl, rfl⟩⟩
  ·rename_i hw
   have key : ∀ rh, (∀ n x, lk rh n = some x → lk h n = some x) → recRZ V P call fid ops o past an ts nx rh tp = .ok (r, tp', ob) → RecOk ⟨P, X0, T0⟩ ops o past ts h nx r := by
    intro rh hsub hr
    unfold recRZ at hr
    split at hr
    ·cases hr
    ·cases hr
    ·rename_i v0 r' nx' d tp0 ob0 hs
     split at hr
     ·rename_i v tp2 ob2 htl
      simp only [Cz] at hr
      obtain ⟨hc, e⟩ := Di hr
      simp only [Res.ok.injEq, pI] at e
      obtain ⟨rfl, rfl, rfl⟩ := e
      obtain ⟨rfl, o0⟩ := tellZ_ok htl ho
      exact ⟨rfl, rfl, rfl, han, hc, .inr ⟨hw, rh, r', d, hsub, rfl, rfl, stepZ_ok hX hC hs o0⟩⟩
     ·cases hr
     ·cases hr
   rcases Be hr with ⟨_, e⟩ | ⟨_, e⟩
   ·exact key _ (fun n x hx => lk_dropH _ hx) e
   ·exact key _ (fun n x hx => lk_pickH hx) e
def Ks (V : Tv) (P : Program) (call : Et) (fid : FuncId) (ops : Array Oper) : List Oper → List Rec → Tm → Hp → Nat → Tape → Res ((List Rec × Tm × Hp × Nat) × Tape × List Prop)
 | [], past, ts, h, nx, tp => .ok ((past, ts, h, nx), tp, [])
 | o :: rest, past, ts, h, nx, tp => match recZ V P call fid ops o past ts h nx tp with
  | .ok (r, tp1, ob1) => frc (past ++ [r]) fun past => frc (appE h r.ef) fun h => match Ks V P call fid ops rest past (putV ts r.dst r.val) h r.nx' tp1 with
   | .ok (x, tp2, ob2) => .ok (x, tp2, ob1 ++ ob2)
   | .ask b => .ask b
   | .no => .no
  | .ask b => .ask b
  | .no => .no
theorem Kr (hX : XOkZ V P) (hC : COkZ P call) {X0 : FuncId → List Value → Hp → Option Value} {T0 : FuncId → List Value → Hp → Nat → Option Out} {fid : FuncId} {ops : Array Oper} : ∀ (l : List Oper) (past : List Rec) (ts : Tm) (h : Hp) (nx : Nat) (tp tp' : Tape) (recs : List Rec) (ts' : Tm) (h' : Hp) (nx' : Nat) (ob : List Prop), Ks V P call fid ops l past ts h nx tp = .ok ((recs, ts', h', nx'), tp', ob) → Alls ob →
  ∃ news, recs = past ++ news ∧ news.length = l.length ∧ ts' = tsA ts news ∧ h' = hpA h news ∧ nx' = nxA nx news ∧
   ∀ j o r, l[j]? = some o → news[j]? = some r → RecOk ⟨P, X0, T0⟩ ops o (past ++ news.take j) (tsA ts (news.take j)) (hpA h (news.take j)) (nxA nx (news.take j)) r
 | [], past, ts, h, nx, tp, tp', recs, ts', h', nx', ob, hd, ho => by
   simp only [Ks, Res.ok.injEq, pI] at hd
   obtain ⟨⟨rfl, rfl, rfl, rfl⟩, rfl, rfl⟩ := hd
   exact ⟨[], by simp, rfl, rfl, rfl, rfl, fun j o r hj => by simp at hj⟩
 | o :: l, past, ts, h, nx, tp, tp', recs, ts', h', nx', ob, hd, ho => by
   simp only [Ks, Cz] at hd
   split at hd
   ·rename_i r tp1 ob1 hr
    split at hd
    ·rename_i x tp2 ob2 hx
     obtain ⟨recs2, ts2, h2, nx2⟩ := x
     simp only [Res.ok.injEq, pI] at hd
     obtain ⟨⟨rfl, rfl, rfl, rfl⟩, rfl, rfl⟩ := hd
     obtain ⟨o1, o2⟩ := Bw.1 ho
     obtain ⟨news, e1, e2, e3, e4, e5, hall⟩ := Kr hX hC l _ _ _ _ _ _ _ _ _ _ _ hx o2
     refine ⟨r :: news, by rw [e1]; simp, by simp [e2], e3, e4, e5, fun j o' r' hj hr' => ?_⟩
     cases j with
     | zero =>
      simp only [List.getElem?_cons_zero, oI] at hj hr'
      subst hj; subst hr'
      show RecOk _ ops o (past ++ []) ts h nx r
      rw [List.append_nil]; exact recZ_ok hX hC hr o1
     | succ j =>
      simp only [List.getElem?_cons_succ] at hj hr'
      have := hall j o' r' hj hr'
      simpa [tsA, hpA, nxA] using this
    ·cases hd
    ·cases hd
   ·cases hd
   ·cases hd
def drawZ (V : Tv) (P : Program) (call : Et) (fid : FuncId) (ops : Array Oper) (ts : Tm) (h : Hp) (nx : Nat) (tp : Tape) : Res (St4 × Tape × List Prop) :=
 match Ks V P call fid ops ops.toList [] ts h nx tp with
 | .ok ((recs, ts', h', nx'), tp', ob) => .ok ((ts', h', nx', dirtyV nx recs), tp', ob)
 | .ask b => .ask b
 | .no => .no
theorem drawZ_ok (hX : XOkZ V P) (hC : COkZ P call) (hm : P.follows .mixedOrders = true) {fid : FuncId} {ops : Array Oper} {id : Nat} {ts : Tm} {h : Hp} {nx : Nat} {tp tp' : Tape} {ts' : Tm} {h' : Hp} {nx' : Nat} {d : List Nat} {ob : List Prop} (hs : drawZ V P call fid ops ts h nx tp = .ok ((ts', h', nx', d), tp', ob)) (ho : Alls ob) :
  Tidy h nx h' nx' d ∧ (Bd h nx → ∀ W σ w a, Rl W σ h w → Fresh σ nx nx' → RT σ ts a.tmps → ∀ ds, a.defers = ds → ∀ (F : Fence) (m : Nat), Wide F → ∀ Q : Exit → Act → World → Prop,
   (∀ σ' w' a', Stp W nx nx' σ h w σ' h' w' → RT σ' ts' a'.tmps → a'.defers = ds → Q .normal a' w') → (Code.region id ops true).wpIn F m P Q a w) := by
 unfold drawZ at hs
 split at hs
 ·rename_i recs ts1 h1 nx1 tp1 ob1 hgo
  simp only [Res.ok.injEq, pI] at hs
  obtain ⟨⟨rfl, rfl, rfl, rfl⟩, rfl, rfl⟩ := hs
  obtain ⟨news, e1, e2, e3, e4, e5, hall⟩ := Kr (X0 := noX) (T0 := noT) hX hC _ _ _ _ _ _ _ _ _ _ _ _ hgo ho
  simp only [List.nil_append] at e1
  subst e1
  exact drawR_ok (E := ⟨P, noX, noT⟩) hm (⟨by simpa using e2, fun k o r ho hr => by
   have := hall k o r (by simpa using ho) hr
   simpa only [List.nil_append] using this⟩ : Run ⟨P, noX, noT⟩ ops recs ts h nx) e3 e4 e5
 ·cases hs
 ·cases hs
end

def Code.againIn (F : Fence) (n : Nat) (P : Program) (c : Code) (Q : Exit → Act → World → Prop) (a : Act) (w : World) : Prop :=
 ∀ (b : Frame) (k : List Item) (cs : List Frame), b.roundOf = F.round → F.fn b.fn → F.room (cs.length + 1 + n) →
  ∃ e a' w', Q e a' w' ∧ ArrivesIn (Machine.fenced P F) P (lone (b.atR a (.code c :: .inLoop c :: k)) cs w) b k cs e a' w'
theorem Kz {F : Fence} {n : Nat} {P : Program} {Q : Exit → Act → World → Prop} {a : Act} {w : World} {c : Code} (h : c.wpIn F n P (Exit.then (Code.againIn F n P c Q) Q) a w) : Code.againIn F n P c Q a w := by
 intro b k cs hro hb hr
 obtain ⟨e, a₁, w₁, hq, harr⟩ := h b (.inLoop c :: k) cs hro hb hr
 cases e with
 | normal =>
  obtain ⟨e₂, a₂, w₂, hq₂, harr₂⟩ := hq b k cs hro hb hr
  exact ⟨e₂, a₂, w₂, hq₂, .of_steps (StepsIn.trans harr (.one (fenced_calm hb hr rfl) stepR_inLoop)) harr₂⟩
 | exit id => exact ⟨_, a₁, w₁, hq, .pass (x := .inLoop c) rfl (fun _ _ => .inl (by simp)) harr⟩
 | goto l => exact ⟨_, a₁, w₁, hq, .pass (x := .inLoop c) rfl (fun _ _ => .inl (by simp)) harr⟩
 | ret => exact ⟨_, a₁, w₁, hq, .pass (x := .inLoop c) rfl (fun _ _ => .inl (by simp)) harr⟩
 | panic ch => exact ⟨_, a₁, w₁, hq, .pass (x := .inLoop c) rfl (fun _ _ => .inl (by simp)) harr⟩
 | outgrown => exact ⟨_, a₁, w₁, hq, .pass (x := .inLoop c) rfl (fun _ _ => .inl (by simp)) harr⟩
theorem loop_again {F : Fence} {n : Nat} {P : Program} {Q : Exit → Act → World → Prop} {a : Act} {w : World} {c : Code} (h : Code.againIn F n P c Q a w) : (Code.loop c).wpIn F n P Q a w := by
 intro b k cs hro hb hr
 obtain ⟨e, a', w', hq, harr⟩ := h b k cs hro hb hr
 exact ⟨e, a', w', hq, .of_steps (.one (fenced_calm hb hr rfl) stepR_loop) harr⟩
def Hf : Nat := 1000000
def LOkZ (V : Tv) (P : Program) : Prop := ∀ fid x ts h nx tp o tp' ob, V.L fid x ts h nx tp = some (.ok (o, tp', ob)) → Alls ob → ∀ inr, (fid < Hf → Runs inr (fun F m Q => Code.againIn F m P x Q) ts h nx o) ∧ (Hf ≤ fid → Runs inr (fun F m Q => x.wpIn F m P Q) ts h nx o)

def ltAll : List Nat → Nat → Bool
 | [], _ => true
 | d :: ds, n => bif Nat.blt d n then ltAll ds n else false
theorem Kj {n : Nat} : ∀ {ds : List Nat}, ltAll ds n = true → ∀ d ∈ ds, d < n
 | [], _, d, h => by cases h
 | e :: ds, h, d, hd => by
   simp only [ltAll] at h
   rcases Be h with ⟨h1, h2⟩ | ⟨_, h2⟩
   ·rcases List.mem_cons.1 hd with rfl | hd
    ·exact Nat.le_of_ble_eq_true h1
    ·exact Kj h2 d hd
   ·cases h2
def nrmZ : Res (St4 × Tape × List Prop) → Res (St5 × Tape × List Prop)
 | .ok ((ts, h, nx, d), tp, ob) => .ok ((.normal, ts, h, nx, d, []), tp, ob)
 | .ask b => .ask b
 | .no => .no
def addZ (d ms : List Nat) (ob0 : List Prop) : Res (St5 × Tape × List Prop) → Res (St5 × Tape × List Prop)
 | .ok ((x, ts, h, nx, e, ns), tp, ob) => .ok ((x, ts, h, nx, e ++ d, ns ++ ms), tp, ob0 ++ ob)
 | .ask b => .ask b
 | .no => .no
def unBZ (id : Nat) : Res (St5 × Tape × List Prop) → Res (St5 × Tape × List Prop)
 | .ok ((.exit i, ts, h, nx, d, ms), tp, ob) => bif Nat.beq i id then .ok ((.normal, ts, h, nx, d, ms), tp, ob) else .ok ((.exit i, ts, h, nx, d, ms), tp, ob)
 | r => r
def Bk (V : Tv) (P : Program) (call : Et) (fid : FuncId) (inr : Bool) : Nat → Code → Tm → Hp → Nat → Tape → Res (St5 × Tape × List Prop)
 | 0, _, _, _, _, _ => .no
 | k + 1, c, ts, h, nx, tp => match c with
  | .skip => .ok ((.normal, ts, h, nx, [], []), tp, [])
  | .label _ => .ok ((.normal, ts, h, nx, [], []), tp, [])
  | .exit id => .ok ((.exit id, ts, h, nx, [], []), tp, [])
  | .ret => .ok ((.ret, ts, h, nx, [], []), tp, [])
  | .region _ ops draw => bif draw then nrmZ (drawZ V P call fid ops ts h nx tp) else nrmZ (seqZ V P call fid ops ops.toList ts h nx tp)
  | .seq x y => match V.L (Hf + fid) (.seq x y) ts h nx tp with
   | some r => r
   | none => match Bk V P call fid inr k x ts h nx tp with
    | .ok ((.normal, ts, h, nx, d, ms), tp, ob) => addZ d ms ob (Bk V P call fid inr k y ts h nx tp)
    | r => r
  | .cond c x y => match evA ts c with
   | some (.bool b) => bif b then Bk V P call fid inr k x ts h nx tp else Bk V P call fid inr k y ts h nx tp
   | _ => .no
  | .block id x => unBZ id (Bk V P call fid inr k x ts h nx tp)
  | .scope x => Bk V P call fid inr k x ts h nx tp
  | .loop x => match bif Nat.blt fid Hf then V.L fid x ts h nx tp else none with
   | some r => r
   | none => match Bk V P call fid inr k x ts h nx tp with
    | .ok ((.normal, ts, h, nx, d, ms), tp, ob) => addZ d ms ob (Bk V P call fid inr k (.loop x) ts h nx tp)
    | r => r
  | .rangeFunc g ps as bd => bif inr then .no else (match itV (evA ts g) with
   | some (gf, f, c) => bif Nat.blt gf yBig && entB P gf then (match tmL ts ts.n [] with
    | [] => .no
    | v :: tm => match call gf (f ++ [.func (.yield (nx + 1)) ⟨[]⟩ ⟨[]⟩] ++ c) ((nx + 1, ⟨.round .ready none (v :: tm) ps as bd, []⟩) :: (nx, ⟨.marks, []⟩) :: h) (nx + 2) tp with
     | .ok ((_, h2, nx2, d2), tp, ob) => match lk h2 (nx + 1) with
      | some ⟨.round st pe _ _ _ _, _⟩ => bif notBusy st then (match pe with
       | none => .ok ((.normal, ts, delH h2 (nx + 1), nx2, d2, [nx]), tp, ob)
       | some cd => addZ d2 [nx] ob (Bk V P call fid inr k cd ts (delH h2 (nx + 1)) nx2 tp)) else .no
      | _ => .no
     | .ask b => .ask b
     | .no => .no) else .no
   | none => .no)
  | _ => .no
theorem addZ_of {d ms : List Nat} {ob0 : List Prop} {r : Res (St5 × Tape × List Prop)} {o : St5} {tp : Tape} {ob : List Prop} (h : addZ d ms ob0 r = .ok (o, tp, ob)) : ∃ e ns ob1, r = .ok ((o.1, o.2.1, o.2.2.1, o.2.2.2.1, e, ns), tp, ob1) ∧ o.2.2.2.2.1 = e ++ d ∧ o.2.2.2.2.2 = ns ++ ms ∧ ob = ob0 ++ ob1 := by
 unfold addZ at h
 split at h
 ·simp only [Res.ok.injEq, pI] at h
  obtain ⟨rfl, rfl, rfl⟩ := h
  exact ⟨_, _, _, rfl, rfl, rfl, rfl⟩
 ·cases h
 ·cases h
theorem nrmZ_of {r : Res (St4 × Tape × List Prop)} {o : St5} {tp : Tape} {ob : List Prop} (h : nrmZ r = .ok (o, tp, ob)) : o.1 = .normal ∧ o.2.2.2.2.2 = [] ∧ r = .ok ((o.2.1, o.2.2.1, o.2.2.2.1, o.2.2.2.2.1), tp, ob) := by
 unfold nrmZ at h
 split at h
 ·simp only [Res.ok.injEq, pI] at h
  obtain ⟨rfl, rfl, rfl⟩ := h
  exact ⟨rfl, rfl, rfl⟩
 ·cases h
 ·cases h
section
variable {V : Tv} {P : Program} {call : Et}
theorem Jf (hX : XOkZ V P) (hL : LOkZ V P) (hC : COkZ P call) (hm : P.follows .mixedOrders = true) {fid : FuncId} {inr : Bool} : ∀ (k : Nat),
  (∀ (c : Code) (ts : Tm) (h : Hp) (nx : Nat) (tp tp' : Tape) (o : St5) (ob : List Prop), Bk V P call fid inr k c ts h nx tp = .ok (o, tp', ob) → Alls ob → Runs inr (fun F m Q => c.wpIn F m P Q) ts h nx o) ∧
  (∀ (x : Code) (ts : Tm) (h : Hp) (nx : Nat) (tp tp' : Tape) (o : St5) (ob : List Prop), Bk V P call fid inr k (.loop x) ts h nx tp = .ok (o, tp', ob) → Alls ob → Runs inr (fun F m Q => Code.againIn F m P x Q) ts h nx o)
 | 0 => ⟨fun c ts h nx tp tp' o ob hs => by simp [Bk] at hs, fun c ts h nx tp tp' o ob hs => by simp [Bk] at hs⟩
 | k + 1 => by
   obtain ⟨ih, ihl⟩ := Jf hX hL hC hm (fid := fid) (inr := inr) k
   have loopK : ∀ (x : Code) (ts : Tm) (h : Hp) (nx : Nat) (tp tp' : Tape) (o : St5) (ob : List Prop), Bk V P call fid inr (k + 1) (.loop x) ts h nx tp = .ok (o, tp', ob) → Alls ob → Runs inr (fun F m Q => Code.againIn F m P x Q) ts h nx o := by
    intro x ts h nx tp tp' o ob hs ho
    simp only [Bk] at hs
    split at hs
    ·rename_i r hr
     subst hs
     rcases Be hr with ⟨hlt, hr⟩ | ⟨_, hr⟩
     ·exact (hL _ _ _ _ _ _ _ _ _ hr ho _).1 (Nat.le_of_ble_eq_true hlt)
     ·cases hr
    ·split at hs
     ·rename_i ts1 h1 nx1 d1 ms1 tp1 ob1 h2
      obtain ⟨e, ns, ob2, he, hd, hms, hob⟩ := addZ_of hs
      subst hob
      obtain ⟨o1, o2⟩ := Bw.1 ho
      exact Runs.seq hd hms (ih _ _ _ _ _ _ _ _ h2 o1) (ihl _ _ _ _ _ _ _ _ he o2) fun F m Q a w hh => Kz hh
     ·rename_i hno
      refine Runs.out (wp2 := fun F m Q => Code.againIn F m P x Q) (fun e => ?_) (ih _ _ _ _ _ _ _ _ hs ho) fun F m Q a w hh => Kz hh
      obtain ⟨x1, ts1, h1, nx1, d1, ms1⟩ := o
      simp only at e
      subst e
      exact hno _ _ _ _ _ _ _ hs
   refine ⟨fun c ts h nx tp tp' o ob hs ho => ?_, loopK⟩
   cases c with
   | loop x => exact (loopK x ts h nx tp tp' o ob hs ho).as fun F m Q a w σ ht hh => loop_again hh
   | skip => simp only [Bk, Res.ok.injEq, pI] at hs; obtain ⟨rfl, rfl, rfl⟩ := hs; exact Runs.here fun F m Q a w => wpIn_skip
   | label l => simp only [Bk, Res.ok.injEq, pI] at hs; obtain ⟨rfl, rfl, rfl⟩ := hs; exact Runs.here fun F m Q a w => wpIn_label
   | exit id => simp only [Bk, Res.ok.injEq, pI] at hs; obtain ⟨rfl, rfl, rfl⟩ := hs; exact Runs.here fun F m Q a w => wpIn_exit
   | ret => simp only [Bk, Res.ok.injEq, pI] at hs; obtain ⟨rfl, rfl, rfl⟩ := hs; exact Runs.here fun F m Q a w => wpIn_ret
   | region id ops draw =>
    simp only [Bk] at hs
    cases draw with
    | true =>
     simp only [cond_true] at hs
     obtain ⟨e1, e3, e2⟩ := nrmZ_of hs
     obtain ⟨x, ts', h', nx', d, ms⟩ := o
     simp only at e1 e2 e3
     subst e1
     subst e3
     obtain ⟨t1, s1⟩ := drawZ_ok (id := id) hX hC hm e2 ho
     exact ⟨t1, fun hB W σ w a hR hf ht ds hdf F m hF _ Q hQ => s1 hB W σ w a hR hf ht ds hdf F m hF Q fun σ' w' a' b1 b2 b3 => hQ σ' w' a' [] b1 b2 rfl b3⟩
    | false =>
     simp only [cond_false] at hs
     obtain ⟨e1, e3, e2⟩ := nrmZ_of hs
     obtain ⟨x, ts', h', nx', d, ms⟩ := o
     simp only at e1 e2 e3
     subst e1
     subst e3
     obtain ⟨t1, s1⟩ := seqZ_ok hX hC ops.toList ts h nx tp tp' ts' h' nx' d ob e2 ho
     exact ⟨t1, fun hB W σ w a hR hf ht ds hdf F m hF _ Q hQ => wpIn_region_list (s1 hB W σ w a hR hf ht ds hdf F m hF Q fun σ' w' a' b1 b2 b3 => hQ σ' w' a' [] b1 b2 rfl b3)⟩
   | seq x y =>
    simp only [Bk] at hs
    split at hs
    ·rename_i r hr
     subst hs
     exact (hL _ _ _ _ _ _ _ _ _ hr ho _).2 (Nat.le_add_right _ _)
    split at hs
    ·rename_i ts1 h1 nx1 d1 ms1 tp1 ob1 h2
     obtain ⟨e, ns, ob2, he, hd, hms, hob⟩ := addZ_of hs
     subst hob
     obtain ⟨o1, o2⟩ := Bw.1 ho
     exact Runs.seq hd hms (ih _ _ _ _ _ _ _ _ h2 o1) (ih _ _ _ _ _ _ _ _ he o2) fun F m Q a w hh => wpIn_seq hh
    ·rename_i hno
     refine Runs.out (wp2 := fun F m Q => y.wpIn F m P Q) (fun e => ?_) (ih _ _ _ _ _ _ _ _ hs ho) fun F m Q a w hh => wpIn_seq hh
     obtain ⟨x1, ts1, h1, nx1, d1, ms1⟩ := o
     simp only at e
     subst e
     exact hno _ _ _ _ _ _ _ hs
   | cond c x y =>
    simp only [Bk] at hs
    split at hs
    ·rename_i b hc
     have hev : ∀ (σ : Sg) (a : Act), RT σ ts a.tmps → a.eval c = .bool b := fun σ a ht => by
      have := evs_of ht c _ hc
      simp only [renV, oI] at this
      exact this.symm
     cases b with
     | true => exact (ih x _ _ _ _ _ _ _ hs ho).as fun F m Q a w σ ht hh => wpIn_cond_true (hev σ a ht) hh
     | false => exact (ih y _ _ _ _ _ _ _ hs ho).as fun F m Q a w σ ht hh => wpIn_cond_false (hev σ a ht) hh
    ·cases hs
   | scope x =>
    simp only [Bk] at hs
    obtain ⟨t1, s1⟩ := ih x _ _ _ _ _ _ _ hs ho
    refine ⟨t1, fun hB W σ w a hR hf ht ds hdf F m hF hr Q hQ => scope_ok (s1 hB W σ w a hR hf ht ds hdf F m hF hr _ fun σ' w' a' es b1 b2 b4 b3 => ?_)⟩
    have := hQ σ' w' a' es b1 b2 b4 b3
    cases hx : o.1 <;> rw [hx] at this <;> exact this
   | block id x =>
    simp only [Bk] at hs
    unfold unBZ at hs
    split at hs
    ·rename_i i ts1 h1 nx1 d1 ms1 tp1 ob1 he
     rcases Be hs with ⟨hb, hs⟩ | ⟨hb, hs⟩
     ·simp only [Res.ok.injEq, pI] at hs
      obtain ⟨rfl, rfl, rfl⟩ := hs
      obtain ⟨t1, s1⟩ := ih x _ _ _ _ _ _ _ he ho
      have := Nat.eq_of_beq_eq_true hb
      subst this
      refine ⟨t1, fun hB W σ w a hR hf ht ds hdf F m hF hr Q hQ => wpIn_block (s1 hB W σ w a hR hf ht ds hdf F m hF hr _ fun σ' w' a' es b1 b2 b4 b3 => ?_)⟩
      simp only [Xt.toExit, Exit.inBlock, if_true]
      exact hQ σ' w' a' es b1 b2 b4 b3
     ·simp only [Res.ok.injEq, pI] at hs
      obtain ⟨rfl, rfl, rfl⟩ := hs
      obtain ⟨t1, s1⟩ := ih x _ _ _ _ _ _ _ he ho
      have hne : i ≠ id := fun e => by subst e; rw [Dc] at hb; cases hb
      refine ⟨t1, fun hB W σ w a hR hf ht ds hdf F m hF hr Q hQ => wpIn_block (s1 hB W σ w a hR hf ht ds hdf F m hF hr _ fun σ' w' a' es b1 b2 b4 b3 => ?_)⟩
      simp only [Xt.toExit, Exit.inBlock, if_neg hne]
      exact hQ σ' w' a' es b1 b2 b4 b3
    ·rename_i hno
     obtain ⟨t1, s1⟩ := ih x _ _ _ _ _ _ _ hs ho
     refine ⟨t1, fun hB W σ w a hR hf ht ds hdf F m hF hr Q hQ => wpIn_block (s1 hB W σ w a hR hf ht ds hdf F m hF hr _ fun σ' w' a' es b1 b2 b4 b3 => ?_)⟩
     have := hQ σ' w' a' es b1 b2 b4 b3
     obtain ⟨x1, ts1, h1, nx1, d1, ms1⟩ := o
     cases x1 with
     | exit i => exact (hno _ _ _ _ _ _ _ _ hs).elim
     | normal => exact this
     | ret => exact this
   | rangeFunc g ps as bd =>
    simp only [Bk] at hs
    rcases Be hs with ⟨hb, hs⟩ | ⟨hb, hs⟩
    ·cases hs
    subst hb
    split at hs
    case h_2 => cases hs
    rename_i gf f c hg
    obtain ⟨hc, hs⟩ := Di hs
    simp only [Bool.and_eq_true] at hc
    split at hs
    case h_1 => cases hs
    rename_i v tm htm
    split at hs
    case h_2 => cases hs
    case h_3 => cases hs
    rename_i r h2 nx2 d2 tp1 ob1 hcall
    split at hs
    case h_2 => cases hs
    rename_i st pe tm' ps' as' bd' cs' hl
    obtain ⟨hnb, hs⟩ := Di hs
    cases pe with
    | none =>
     simp only [Res.ok.injEq, pI] at hs
     obtain ⟨rfl, rfl, rfl⟩ := hs
     exact range_ok (E := ⟨P, noX, noT⟩) hg hc.1 hc.2 htm (hC.fn gf _ _ _ _ _ _ _ hcall ho (Nat.le_of_ble_eq_true hc.1)) hl hnb (o := (.normal, ts, delH h2 (nx + 1), nx2, [], [])) (Runs.here fun F m Q a w hq => hq)
    | some cd =>
     obtain ⟨e, ns, ob2, he, hd, hms, hob⟩ := addZ_of hs
     subst hob
     obtain ⟨o1, o2⟩ := Bw.1 ho
     obtain ⟨x1, ts1, h1, nx1, d1, ms1⟩ := o
     simp only at hd hms he
     subst hd
     subst hms
     exact range_ok (E := ⟨P, noX, noT⟩) hg hc.1 hc.2 htm (hC.fn gf _ _ _ _ _ _ _ hcall o1 (Nat.le_of_ble_eq_true hc.1)) hl hnb (o := (x1, ts1, h1, nx1, e, ns)) (ih cd _ _ _ _ _ _ _ he o2)
   | _ => simp [Bk] at hs
end
def roundZ (V : Tv) (P : Program) (call : Et) (n : Nat) (args : List Value) (h : Hp) (nx : Nat) (tp : Tape) : Res (Out × Tape × List Prop) :=
 match lk h n with
 | some ⟨.round .ready none tm ps as bd, _⟩ => bif Nat.beq args.length ps.size && Nat.ble tm.length 60000 then (match Bk V P call (V.rd bd) true 100000 as (putL (tinit tm tm.length) ps.toList args) h nx tp with
  | .ok ((.normal, ts1, h1, nx1, d1, _), tp1, ob1) => match lk h1 n with
   | some ⟨.round .ready none tm1 ps1 as1 bd1, _⟩ => match Bk V P call (V.rd bd) true 100000 bd ts1 (setH h1 n ⟨.round .busy none tm1 ps1 as1 bd1, []⟩) nx1 tp1 with
    | .ok ((x, _, h3, nx3, d3, _), tp3, ob3) => match lk h3 n with
     | some ⟨.round _ _ tm3 ps3 as3 bd3, _⟩ => match x with
      | .normal => .ok ((.bool true, setH h3 n ⟨.round .ready none tm3 ps3 as3 bd3, []⟩, nx3, n :: (d3 ++ d1)), tp3, ob1 ++ ob3)
      | .ret => .ok ((.bool false, setH h3 n ⟨.round .done (some .ret) tm3 ps3 as3 bd3, []⟩, nx3, n :: (d3 ++ d1)), tp3, ob1 ++ ob3)
      | .exit i => .ok ((.bool false, setH h3 n ⟨.round .done (some (.exit i)) tm3 ps3 as3 bd3, []⟩, nx3, n :: (d3 ++ d1)), tp3, ob1 ++ ob3)
     | _ => .no
    | .ask b => .ask b
    | .no => .no
   | _ => .no
  | .ask b => .ask b
  | _ => .no) else .no
 | _ => .no
theorem roundZ_ok {V : Tv} {P : Program} {call : Et} (hX : XOkZ V P) (hL : LOkZ V P) (hC : COkZ P call) (hm : P.follows .mixedOrders = true) {n : Nat} {args : List Value} {h : Hp} {nx : Nat} {tp tp' : Tape} {out : Out} {ob : List Prop} (hs : roundZ V P call n args h nx tp = .ok (out, tp', ob)) (ho : Alls ob) : TriR P n args h nx out := by
 unfold roundZ at hs
 split at hs
 case h_2 => cases hs
 rename_i tm ps as bd cs hl
 obtain ⟨hg, hs⟩ := Di hs
 simp only [Bool.and_eq_true, Nat.ble_eq] at hg
 split at hs
 case h_2 => cases hs
 case h_3 => cases hs
 rename_i ts1 h1 nx1 d1 ms1 tp1 ob1 has
 split at hs
 case h_2 => cases hs
 rename_i tm1 ps1 as1 bd1 cs1 hl1
 split at hs
 case h_2 => cases hs
 case h_3 => cases hs
 rename_i x ts3 h3 nx3 d3 ms3 tp3 ob3 hbd
 split at hs
 case h_2 => cases hs
 rename_i st3 pe3 tm3 ps3 as3 bd3 cs3 hl3
 have e : out = (.bool (Hn x).isNone, setH h3 n ⟨.round (if (Hn x).isNone then .ready else .done) (Hn x) tm3 ps3 as3 bd3, []⟩, nx3, n :: (d3 ++ d1)) ∧ ob = ob1 ++ ob3 := by
  cases x <;> (simp only [Res.ok.injEq, pI] at hs; exact ⟨hs.1.symm, hs.2.2.symm⟩)
 clear hs
 obtain ⟨rfl, rfl⟩ := e
 obtain ⟨o1, o3⟩ := Bw.1 ho
 exact roundR_ok hl hg ((Jf hX hL hC hm 100000).1 _ _ _ _ _ _ _ _ has o1) hl1 ((Jf hX hL hC hm 100000).1 _ _ _ _ _ _ _ _ hbd o3) hl3
def bodyZ (V : Tv) (P : Program) (call : Et) (f : FuncId) (args : List Value) (h : Hp) (nx : Nat) (tp : Tape) : Res (Out × Tape × List Prop) :=
 match P.funcs[f]? with
 | none => .no
 | some fn => match fn.body with
  | none => .no
  | some c => bif Nat.ble fn.ntmps 60000 && Nat.ble args.length fn.ntmps then (match Bk V P call f false 100000 c (tinit args fn.ntmps) h nx tp with
   | .ok ((.exit _, _), _, _) => .no
   | .ok ((_, ts, h', nx', d, ms), tp', ob) => match dropM ms h' with
    | some h'' => match resVL P ts h'' fn.results.toList with
     | some vs => .ok (leave h nx vs h'' nx' (ms ++ d), tp', ob)
     | none => .no
    | none => .no
   | .ask b => .ask b
   | .no => .no) else .no
theorem bodyR_ok {P : Program} {f : FuncId} {fn : Func} {c : Code} (hf : P.funcs[f]? = some fn) (hc : fn.body = some c) {args : List Value} {h : Hp} {nx : Nat} (hg : fn.ntmps ≤ 60000 ∧ args.length ≤ fn.ntmps) {x : Xt} {ts : Tm} {h' : Hp} {nx' : Nat} {d ms : List Nat}
  (hno : ∀ i, x ≠ .exit i) (hrun : Runs false (fun F m Q => c.wpIn F m P Q) (tinit args fn.ntmps) h nx (x, ts, h', nx', d, ms)) {h2 : Hp} (hdm : dropM ms h' = some h2) {vs : List Value} (hvs : resVL P ts h2 fn.results.toList = some vs) : Tri P f args h nx (one? vs, h2, nx', ms ++ d) := by
 obtain ⟨t1, s1⟩ := hrun
 simp only at t1 s1
 obtain ⟨q1, q2⟩ := dropM_tidy (nx := nx) hdm
 refine ⟨⟨t1.1, fun n hn hd => ?_, fun hB n hn => q1 n (t1.2.2 hB n hn)⟩, fun hB W σ w args' hR hfr ha => ?_⟩
 ·simp only [List.mem_append, not_or] at hd
  rw [q2 n hd.1]; exact t1.2.1 n hn hd.2
 refine callsIn_wide.1 (callsIn_of_wp_marks (n := 0) hf hc trivial ?_)
 refine s1 hB W σ w _ hR hfr (by simpa using tinit_ok ha hg.1 hg.2) [] rfl Fence.wide 0 wide_wide (fun _ => rfl) _ fun σ' w' a' es S ht hes hd => ?_
 have key : LeavesInM Fence.wide 0 P fn a'.tmps (fun e w' => ∃ σ' v', Stp W nx nx' σ h w σ' h2 w' ∧ renV σ' (one? vs) = some v' ∧ e = .returned v') a'.defers .returning w' := by
  rw [hd, List.append_nil]
  refine Kk nx' hdm hes S.rl fun w2 S2 => ?_
  obtain ⟨v', e1, e2⟩ := results_run (P := P) S2.rl ht hvs
  exact ⟨v', e2, σ', v', S.trans S2 t1.1 (Nat.le_refl _), e1, rfl⟩
 cases x with
 | normal => exact key
 | ret => exact key
 | exit i => exact (hno _ rfl).elim
theorem bodyZ_ok {V : Tv} {P : Program} {call : Et} (hX : XOkZ V P) (hL : LOkZ V P) (hC : COkZ P call) (hm : P.follows .mixedOrders = true) {f : FuncId} {args : List Value} {h : Hp} {nx : Nat} {tp tp' : Tape} {out : Out} {ob : List Prop} (hs : bodyZ V P call f args h nx tp = .ok (out, tp', ob)) (ho : Alls ob) : Tri P f args h nx out := by
 unfold bodyZ at hs
 split at hs
 ·cases hs
 ·rename_i fn hf
  split at hs
  ·cases hs
  ·rename_i c hc
   obtain ⟨hg, hs⟩ := Di hs
   simp only [Bool.and_eq_true, Nat.ble_eq] at hg
   split at hs
   ·cases hs
   ·rename_i x ts h' nx' d ms tp1 ob1 hno hrun
    split at hs
    case h_2 => cases hs
    rename_i h2 hdm
    split at hs
    ·rename_i vs hvs
     simp only [Res.ok.injEq, pI] at hs
     obtain ⟨rfl, rfl, rfl⟩ := hs
     exact tri_leave (bodyR_ok hf hc hg (fun i e => by subst e; exact hno _ rfl) ((Jf hX hL hC hm 100000).1 _ _ _ _ _ _ _ _ hrun ho) hdm hvs)
    ·cases hs
   ·cases hs
   ·cases hs
def runZ (V : Tv) (P : Program) : Nat → Et
 | 0 => fun _ _ _ _ _ => .no
 | k + 1 => fun f args h nx tp => bif Nat.ble yBig f then roundZ V P (runZ V P k) (f - yBig) args h nx tp else match V.T f args h nx tp with
  | some r => r
  | none => bodyZ V P (runZ V P k) f args h nx tp
theorem Bh {V : Tv} {P : Program} (hX : XOkZ V P) (hT : TOkZ V P) (hL : LOkZ V P) (hm : P.follows .mixedOrders = true) : ∀ k, COkZ P (runZ V P k)
 | 0 => ⟨fun _ _ _ _ _ _ _ _ hs => (by cases hs), fun _ _ _ _ _ _ _ _ hs => (by cases hs)⟩
 | k + 1 => by
   have ih := Bh hX hT hL hm k
   refine ⟨fun f args h nx tp out tp' ob hs ho hf0 => ?_, fun n args h nx tp out tp' ob hs ho => ?_⟩
   ·simp only [runZ] at hs
    rcases Be hs with ⟨hb, _⟩ | ⟨_, hs⟩
    ·exact (Nat.not_le_of_lt hf0 (Nat.le_of_ble_eq_true hb)).elim
    split at hs
    ·rename_i r hr
     subst hs
     exact hT _ _ _ _ _ _ _ _ hr ho
    ·exact bodyZ_ok hX hL ih hm hs ho
   ·simp only [runZ] at hs
    rcases Be hs with ⟨_, hs⟩ | ⟨hb, _⟩
    ·rw [Nat.add_sub_cancel_left] at hs
     exact roundZ_ok hX hL ih hm hs ho
    ·have : Nat.ble yBig (yBig + n) = true := Nat.ble_eq_true_of_le (Nat.le_add_right _ _)
     rw [this] at hb; cases hb
end Go.Proofs.Ytojakfnljopjbaa
