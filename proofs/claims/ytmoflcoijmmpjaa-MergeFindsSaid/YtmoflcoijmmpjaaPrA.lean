/-
  Lists of pairs, told by what they hold (chapter 14; chapter 12 has the same in MdA, MdB, MdD, MdI, TbA, PtP).
-/
import Derived.Test.YtmoflcoijmmpjaaOpX
import Derived.Test.YtmoflcoijmmpjaaKitP
import Derived.Test.YtmoflcoijmmpjaaKiX
import Derived.Test.YtmoflcoijmmpjaaDtA
import Derived.Test.YtmoflcoijmmpjaaProg
namespace Go.Proofs.Ytmoflcoijmmpjaa
set_option linter.unusedSimpArgs false
set_option linter.unusedVariables false
set_option linter.unusedSectionVars false
open Go Go.RowKit
abbrev XFun := FuncId → List Value → Hp → Option (Value × List Prop)
def XOneZ (P : Program) (X : XFun) : Prop := ∀ f args h v ob, X f args h = some (v, ob) → Alls ob → ∀ W σ w args', Rl W σ h w → renL σ args = some args' → renV σ v = some v ∧ (callFunc f args'.toArray).run P w = .ok (.value v) w
theorem XOneZ.ok {V : Tv} {P : Program} {X : XFun} (H : XOneZ P X) (h : V.X = X) : XOkZ V P := fun f args hp v ob e ho => by rw [h] at e; exact H f args hp v ob e ho
def BytI (n : Nat) (cs : List Value) : Prop := cs = (intsOf cs).map (Value.int .u8) ∧ (∀ x ∈ intsOf cs, 0 ≤ x ∧ x < 256) ∧ cs.length = n
theorem intsV_of : ∀ {l : List Int}, (∀ x ∈ l, 0 ≤ x ∧ x < 256) → intsV l.length (l.map (Value.int .u8)) = some l
  | [], _ => rfl
  | x :: l, h => by
      have ih := intsV_of (l := l) fun y hy => h y (List.mem_cons_of_mem _ hy)
      have hx := h x (List.mem_cons_self ..)
      simp only [List.length_cons, List.map_cons, intsV, hx, and_self, decide_true, cond_true, ih]
theorem BytI.bytes {h : Hp} {a n c : Nat} {r : Rw} (hl : lk h a = some r) (hb : BytI n r.cs) : bytesV h (.slice (some ⟨a, 0, none⟩) n c) = some (intsOf r.cs) := by
  obtain ⟨h1, h2, h3⟩ := hb
  have e : (intsOf r.cs).length = n := by
    have := congrArg List.length h1
    rw [List.length_map] at this
    omega
  have := intsV_of h2
  rw [e, ← h1] at this
  simp only [bytesV, hl, List.drop_zero, this]
def cmpY : XFun := fun f args h => bif Nat.beq f 45 then (match args with
  | [.slice (some ⟨a, 0, none⟩) n c, .slice (some ⟨b, 0, none⟩) m d] => match lk h a, lk h b with
    | some r, some s => some (.int .i64 (cmpI (intsOf r.cs) (intsOf s.cs)), [BytI n r.cs, BytI m s.cs])
    | _, _ => none
  | _ => none) else none
theorem cmpY_ok : XOneZ Try.prog cmpY := by
  intro f args h v ob e ho
  unfold cmpY at e
  obtain ⟨hf, e1⟩ := bif_of e
  clear e
  split at e1
  case h_2 => cases e1
  rename_i a n c b m d
  split at e1
  case h_2 => cases e1
  rename_i r s hl hm
  simp only [Option.some.injEq, Prod.mk.injEq] at e1
  obtain ⟨rfl, rfl⟩ := e1
  obtain ⟨g1, g2, _⟩ := ho
  exact cmp_one (f0 := 45) (fun args w => run_callFunc_extern Try.func45 (by kernel_rfl) (by kernel_rfl) (by kernel_rfl) (e := Extern.BytealgCompare.compare) (by kernel_rfl) args w) f _ h _ (by
    simp only [cmpX, hf, cond_true, g1.bytes hl, g2.bytes hm])

def zPr : List Value := [.slice none 0 0, .slice none 0 0, .bool false]
def iV (i : Nat) : Value := .int .i64 (i : Int)
abbrev Pr : Type := List Int × List Int × Bool
def byD (l : List Int) : List DV := l.map fun x => .fl (.int .u8 x)
def byV (l : List Int) : List Value := l.map (Value.int .u8)
def prD (c1 c2 : Option Nat) (p : Pr) : List DV := [.sl p.1.length c1 (byD p.1), .sl p.2.1.length c2 (byD p.2.1), .fl (.bool p.2.2)]
def Prs : List DV → List Pr → Prop
  | ds, [] => ds = []
  | ds, p :: ps => ∃ c1 c2 r, ds = prD c1 c2 p ++ r ∧ Prs r ps
def PrOk (p : Pr) : Prop := (∀ x ∈ p.1, 0 ≤ x ∧ x < 256) ∧ ∀ x ∈ p.2.1, 0 ≤ x ∧ x < 256
theorem Prs.len : ∀ {ps : List Pr} {ds : List DV}, Prs ds ps → ds.length = ps.length * 3
  | [], ds, h => by rw [show ds = [] from h]; rfl
  | p :: ps, ds, h => by
      obtain ⟨c1, c2, r, rfl, hr⟩ := h
      rw [List.length_append, hr.len, List.length_cons]
      simp only [prD, List.length_cons, List.length_nil]
      omega
theorem Prs.at : ∀ {ps : List Pr} {ds : List DV} {i : Nat} {p : Pr}, Prs ds ps → ps[i]? = some p → ∃ c1 c2, ds[i * 3]? = some (.sl p.1.length c1 (byD p.1)) ∧ ds[i * 3 + 1]? = some (.sl p.2.1.length c2 (byD p.2.1)) ∧ ds[i * 3 + 2]? = some (.fl (.bool p.2.2))
  | [], ds, i, p, _, h => by simp at h
  | q :: ps, ds, 0, p, h, hp => by
      simp only [List.getElem?_cons_zero, Option.some.injEq] at hp
      subst hp
      obtain ⟨c1, c2, r, rfl, hr⟩ := h
      exact ⟨c1, c2, rfl, rfl, rfl⟩
  | q :: ps, ds, i + 1, p, h, hp => by
      obtain ⟨c1, c2, r, rfl, hr⟩ := h
      obtain ⟨d1, d2, g1, g2, g3⟩ := hr.at (by simpa using hp)
      have e : (prD c1 c2 q).length = 3 := rfl
      refine ⟨d1, d2, ?_, ?_, ?_⟩
      · rw [List.getElem?_append_right (by rw [e]; omega), e, show (i + 1) * 3 - 3 = i * 3 by omega]; exact g1
      · rw [List.getElem?_append_right (by rw [e]; omega), e, show (i + 1) * 3 + 1 - 3 = i * 3 + 1 by omega]; exact g2
      · rw [List.getElem?_append_right (by rw [e]; omega), e, show (i + 1) * 3 + 2 - 3 = i * 3 + 2 by omega]; exact g3
theorem byD_val (l : List Int) : (byD l).map DV.val = byV l := by simp [byD, byV, DV.val]
theorem byV_fl (l : List Int) : (byV l).map DV.fl = byD l := by simp [byD, byV]
theorem byV_len (l : List Int) : (byV l).length = l.length := by simp [byV]
theorem byV_ints (l : List Int) : intsOf (byV l) = l := by
  unfold byV intsOf
  rw [List.map_map]
  exact (List.map_congr_left (g := id) fun x _ => rfl).trans (List.map_id l)
theorem byV_ren (l : List Int) (τ : Sg) : renL τ (byV l) = some (byV l) := Fl.ints .u8 l τ
theorem byV_bytI {l : List Int} (h : ∀ x ∈ l, 0 ≤ x ∧ x < 256) : BytI l.length (byV l) := ⟨by rw [byV_ints]; rfl, by rw [byV_ints]; exact h, byV_len l⟩
section
variable {ds : List DV} {o : Nat} {l : List Int} {c : Option Nat}
theorem sl_len (h : ds[o]? = some (.sl l.length c (byD l))) : dLen ds o = l.length := by unfold dLen; rw [h]
theorem sl_vals (h : ds[o]? = some (.sl l.length c (byD l))) : dVals ds o = byV l := by unfold dVals dSub; rw [h]; exact byD_val l
theorem sl_ok (h : ds[o]? = some (.sl l.length c (byD l))) : DSl ds o (dLen ds o) none ((dVals ds o).map DV.fl) := ⟨c, by rw [sl_len h, sl_vals h, byV_fl]; exact h, .inl rfl⟩
theorem bo_ok {b : Bool} (h : ds[o]? = some (.fl (.bool b))) : dBool ds o = b := by unfold dBool; rw [h]
end
theorem ob29 (ds : List DV) (o nx : Nat) : ShOb Try.prog 32 false true ds o nx = Alls [DSl ds (o + 0) (dLen ds (o + 0)) none ((dVals ds (o + 0)).map DV.fl), DSl ds (o + 1) (dLen ds (o + 1)) none ((dVals ds (o + 1)).map DV.fl), ds[o + 2]? = some (.fl (.bool (dBool ds (o + 2))))] := by kernel_rfl
theorem ob27 (ds : List DV) (o nx : Nat) : ShOb Try.prog 23 false true ds o nx = Alls [DSl ds (o + 0) (dLen ds (o + 0)) none ((dVals ds (o + 0)).map DV.fl)] := by kernel_rfl
theorem ob4 (ds : List DV) (o nx : Nat) : ShOb Try.prog 4 false true ds o nx = Alls [ds[o + 0]? = some (.fl (.bool (dBool ds (o + 0))))] := by kernel_rfl
structure PrAt (ds : List DV) (i : Nat) (p : Pr) : Prop where
  l0 : dLen ds (i * 3) = p.1.length
  l1 : dLen ds (i * 3 + 1) = p.2.1.length
  v0 : dVals ds (i * 3) = byV p.1
  v1 : dVals ds (i * 3 + 1) = byV p.2.1
  g : dBool ds (i * 3 + 2) = p.2.2
  o29 : ∀ nx, ShOb Try.prog 32 false true ds (i * 3) nx
  o27 : ∀ nx, ShOb Try.prog 23 false true ds (i * 3) nx
  o27' : ∀ nx, ShOb Try.prog 23 false true ds (i * 3 + 1) nx
  o4 : ∀ nx, ShOb Try.prog 4 false true ds (i * 3 + 2) nx
theorem Prs.facts {ds : List DV} {ps : List Pr} {i : Nat} {p : Pr} (h : Prs ds ps) (hp : ps[i]? = some p) : PrAt ds i p := by
  obtain ⟨c1, c2, g1, g2, g3⟩ := h.at hp
  have e3 := bo_ok g3
  refine ⟨sl_len g1, sl_len g2, sl_vals g1, sl_vals g2, e3, fun nx => ?_, fun nx => ?_, fun nx => ?_, fun nx => ?_⟩
  · rw [ob29]
    exact ⟨sl_ok g1, sl_ok g2, by rw [e3]; exact g3, trivial⟩
  · rw [ob27]; exact ⟨sl_ok g1, trivial⟩
  · rw [ob27]; exact ⟨sl_ok g2, trivial⟩
  · rw [ob4]; exact ⟨by simp only [Nat.add_zero]; rw [e3]; exact g3, trivial⟩
theorem bys_of : ∀ {rows : List (List DV)}, (∀ r, r ∈ rows → ShsOk [.i .u8] r) → ∃ l : List Int, rows.flatten = byD l ∧ l.length = rows.length ∧ ∀ x ∈ l, 0 ≤ x ∧ x < 256
  | [], _ => ⟨[], rfl, rfl, fun x hx => by cases hx⟩
  | r :: rows, h => by
      obtain ⟨l, h1, h2, h3⟩ := bys_of (rows := rows) fun x hx => h x (List.mem_cons_of_mem _ hx)
      have hr := h r (List.mem_cons_self ..)
      simp only [ShsOk, ShOk] at hr
      obtain ⟨d, ds', rfl, ⟨z, rfl, hw⟩, rfl⟩ := hr
      refine ⟨z :: l, by rw [List.flatten_cons, h1]; rfl, by simp [h2], fun x hx => ?_⟩
      rcases List.mem_cons.1 hx with rfl | hx
      · simp [Lit.wf, IntKind.min, IntKind.max, IntKind.signed, IntKind.bits] at hw
        omega
      · exact h3 x hx
theorem sl_of {d : DV} (h : ShOk (.sl [.i .u8]) d) : ∃ (c : Option Nat) (l : List Int), d = .sl l.length c (byD l) ∧ ∀ x ∈ l, 0 ≤ x ∧ x < 256 := by
  simp only [ShOk] at h
  obtain ⟨len, cap, rows, rfl, _, _, hl, hr⟩ := h
  obtain ⟨l, h1, h2, h3⟩ := bys_of hr
  exact ⟨some cap, l, by rw [h1, h2, hl], h3⟩
theorem prs_of : ∀ {rows : List (List DV)}, (∀ r, r ∈ rows → ShsOk [.sl [.i .u8], .sl [.i .u8], .b] r) → ∃ ps : List Pr, Prs rows.flatten ps ∧ ps.length = rows.length ∧ ∀ p ∈ ps, PrOk p
  | [], _ => ⟨[], rfl, rfl, fun x hx => by cases hx⟩
  | r :: rows, h => by
      obtain ⟨ps, h1, h2, h3⟩ := prs_of (rows := rows) fun x hx => h x (List.mem_cons_of_mem _ hx)
      have hr := h r (List.mem_cons_self ..)
      simp only [ShsOk] at hr
      obtain ⟨d1, _, rfl, g1, d2, _, rfl, g2, d3, _, rfl, g3, rfl⟩ := hr
      obtain ⟨c1, k, rfl, hk⟩ := sl_of g1
      obtain ⟨c2, v, rfl, hv⟩ := sl_of g2
      simp only [ShOk] at g3
      obtain ⟨b, rfl⟩ := g3
      refine ⟨(k, v, b) :: ps, ⟨c1, c2, rows.flatten, rfl, h1⟩, by simp [h2], fun p hp => ?_⟩
      rcases List.mem_cons.1 hp with rfl | hp
      · exact ⟨hk, hv⟩
      · exact h3 p hp
def cpD (ps : List Pr) : List DV := ps.flatMap (prD none none)
theorem cpD_prs : ∀ ps : List Pr, Prs (cpD ps) ps
  | [] => rfl
  | p :: ps => ⟨none, none, cpD ps, rfl, cpD_prs ps⟩
theorem cpD_snoc (ps : List Pr) (p : Pr) : cpD (ps ++ [p]) = cpD ps ++ prD none none p := by simp [cpD]
def dvInts : DV → List Int
  | .sl _ _ ds => ds.map fun d => match d with | .fl (.int _ x) => x | _ => 0
  | _ => []
def prsOf : List DV → List Pr
  | d1 :: d2 :: .fl (.bool b) :: r => (dvInts d1, dvInts d2, b) :: prsOf r
  | _ => []
theorem dvInts_sl (n : Nat) (c : Option Nat) (l : List Int) : dvInts (.sl n c (byD l)) = l := by
  simp only [dvInts, byD, List.map_map]
  exact (List.map_congr_left (g := id) fun x _ => rfl).trans (List.map_id l)
theorem prsOf_of : ∀ {ps : List Pr} {ds : List DV}, Prs ds ps → prsOf ds = ps
  | [], ds, h => by rw [show ds = [] from h]; rfl
  | p :: ps, ds, h => by
      obtain ⟨c1, c2, r, rfl, hr⟩ := h
      have := prsOf_of hr
      show (dvInts _, dvInts _, p.2.2) :: prsOf r = _
      rw [dvInts_sl, dvInts_sl, this]
def big (p : Pr) : Bool := decide (200 < p.1.length) || decide (200 < p.2.1.length)
theorem sw_row {lo N : Nat} {ρ : Nat → Nat} {h0 h1 : Hp} {n m : Nat} {ds : List DV} (hn : fnN lo N ρ n = some m) (hl : lk h1 m = some ⟨.sw ds, []⟩) : RbRow lo N ρ h0 h1 n ⟨.sw ds, []⟩ := rb_rec hn hl trivial
theorem cpD_len (ts : List Pr) : (cpD ts).length = ts.length * 3 := (cpD_prs ts).len
theorem cpD_cons (p : Pr) (ts : List Pr) : cpD (p :: ts) = prD none none p ++ cpD ts := rfl
theorem prsOf_cp (ts : List Pr) : prsOf (cpD ts) = ts := prsOf_of (cpD_prs ts)
theorem open_by {W : World} {v : Value} {rows : List (List DV)} {cap : Nat} (hA : DA.at W v (.dl rows.flatten rows.length cap)) (hr : ∀ r, r ∈ rows → ShsOk [.i .u8] r) : ∃ l : List Int, DA.at W v (.sl (byV l) l.length cap) ∧ l.length = rows.length ∧ ∀ x ∈ l, 0 ≤ x ∧ x < 256 := by
  obtain ⟨l, h1, h2, h3⟩ := bys_of hr
  refine ⟨l, ?_, h2, h3⟩
  obtain ⟨g1, g2⟩ := hA
  rw [h1, ← h2] at g2
  refine ⟨fun e => ?_, ?_⟩
  · have := g1 e
    rw [h1] at this
    have e2 : l = [] := by
      unfold byD at this
      exact List.map_eq_nil_iff.1 this
    rw [e2]; rfl
  · rw [byV_fl]; exact g2
theorem GrD.flat {v : Value} {h0' : Hp} (hv : ∀ σ, renV σ v = some v) : GrD ⟨fun _ => v, []⟩ v h0' (fun n => n) := ⟨fun nx => hv _, fun j r h => by simp at h, fun i j h => by simp at h⟩
theorem ow_row {lo N : Nat} {ρ : Nat → Nat} {h0 h1 : Hp} {n m : Nat} {cs : List Value} (hn : fnN lo N ρ n = some m) (hl : lk h1 m = some ⟨.ow, cs⟩) (hf : ∀ τ, renL τ cs = some cs) : RbRow lo N ρ h0 h1 n ⟨.ow, cs⟩ := ⟨m, _, hn, hl, rfl, trivial, .inl (hf _)⟩
end Go.Proofs.Ytmoflcoijmmpjaa
