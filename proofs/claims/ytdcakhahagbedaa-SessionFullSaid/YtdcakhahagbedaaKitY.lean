/-
  OverBytes writes over a list whose contents are told; copies of lists of bytes.
-/
import Derived.Test.YtdcakhahagbedaaKitX
namespace Go.Proofs.Ytdcakhahagbedaa
set_option linter.unusedSimpArgs false
set_option linter.unusedVariables false
set_option linter.unusedSectionVars false
open Go Go.RowKit

/-! ### OverBytes, told -/
def xorB (x : Int) : Int := IntKind.u8.wrap (BitVec.toNat (BitVec.ofInt 8 x ^^^ BitVec.ofInt 8 90) : Nat)
def ovx (cs : List Value) : List Value := (intsOf cs).map fun x => .int .u8 (xorB x)
theorem ovx_len (cs : List Value) : (ovx cs).length = cs.length := by unfold ovx intsOf; simp
theorem ovx_byts (cs : List Value) : Byts (ovx cs) := by
  have e : ovx cs = ((intsOf cs).map xorB).map (Value.int .u8) := by unfold ovx; rw [List.map_map]; rfl
  rw [e]
  refine Byts.of fun n hn => ?_
  obtain ⟨x, _, rfl⟩ := List.mem_map.1 hn
  exact xor_rg x
theorem ovx_fl (cs : List Value) : Fl (ovx cs) := fl_byts (ovx_byts cs)
theorem ovx_set {cs : List Value} {i : Nat} (hi : i < cs.length) : ((ovx cs).take i ++ cs.drop i).set i (.int .u8 (xorB (intAt ((ovx cs).take i ++ cs.drop i) i))) = (ovx cs).take (i + 1) ++ cs.drop (i + 1) := by
  have hl : ((ovx cs).take i).length = i := by rw [List.length_take, ovx_len]; omega
  have e1 : ((ovx cs).take i ++ cs.drop i)[i]? = some cs[i] := by
    rw [List.getElem?_append_right (by omega), hl, Nat.sub_self, List.getElem?_drop, Nat.add_zero, List.getElem?_eq_getElem hi]
  have e2 : intAt ((ovx cs).take i ++ cs.drop i) i = intAt cs i := by unfold intAt; rw [e1, List.getElem?_eq_getElem hi]
  have e3 : (ovx cs)[i]? = some (.int .u8 (xorB (intAt cs i))) := by
    unfold ovx intsOf intAt
    rw [List.getElem?_map, List.getElem?_map, List.getElem?_eq_getElem hi]
    generalize cs[i] = v
    cases v <;> rfl
  rw [e2, List.set_append_right i _ (by omega), hl, Nat.sub_self, List.drop_eq_getElem_cons hi, List.set_cons_zero]
  have e4 : (ovx cs).take (i + 1) = (ovx cs).take i ++ [.int .u8 (xorB (intAt cs i))] := by
    rw [List.take_add_one, e3]; rfl
  rw [e4, List.append_assoc]
  rfl
theorem ovk_loop {inr : Bool} {h0 : Hp} {cs : List Value} {m : Nat} (hb : Byts cs) (hl : cs.length = m) (hm : m ≤ 9223372036854775807) (hX : XOkZ (ovV noL) Try.prog) (hT : TOkZ (ovV noL) Try.prog) (hL : LOkZ (ovV noL) Try.prog) : ∀ (k i : Nat), i + k = m →
    LRuns inr Try.prog (ovBody Try.prog) 1 1 h0 22 (ovS m i) [(0, ⟨.shut, (ovx cs).take i ++ cs.drop i⟩)] 1 (.exit 0, ovS m m, [(0, ⟨.shut, ovx cs⟩)])
  | 0, i, hi => by
      obtain rfl : i = m := by omega
      have e : (ovx cs).take i ++ cs.drop i = ovx cs := by rw [List.take_of_length_le (by rw [ovx_len]; omega), List.drop_eq_nil_of_le (by omega), List.append_nil]
      rw [e]
      refine LRuns.exit (code_runs hX hL (runZ_ok hX hT hL mixed 5) mixed (ov_done inr (ovx cs) i i) ?_) (by intro e; cases e) rfl (Nat.le_refl _) (Nat.le_refl _) (fun n => n) ?_ ⟨⟨0, _, rfl, rfl, rfl, rfl, .inl (ovx_fl cs _)⟩, trivial⟩ rfl
      · simp [Alls]
      · exact ⟨rfl, rb_slc rfl (by unfold capBig; omega), rfl, rfl, trivial⟩
  | k + 1, i, hi => by
      have hbi : Byts ((ovx cs).take i ++ cs.drop i) := ((ovx_byts cs).take i).app (hb.drop i)
      have hli : ((ovx cs).take i ++ cs.drop i).length = m := by simp [ovx_len]; omega
      obtain ⟨g1, g2, g3⟩ := hbi.get (i := i) (by omega)
      have hbn : Byts ((ovx cs).take (i + 1) ++ cs.drop (i + 1)) := ((ovx_byts cs).take _).app (hb.drop _)
      refine LRuns.step (l2 := ovS m (i + 1)) (h2 := [(0, ⟨.shut, (ovx cs).take (i + 1) ++ cs.drop (i + 1)⟩)]) (code_runs hX hL (runZ_ok hX hT hL mixed 5) mixed (ov_more inr ((ovx cs).take i ++ cs.drop i) m i) ?_) rfl (Nat.le_refl _) (Nat.le_refl _) (fun n => n) ?_ ?_ rfl (ovk_loop hb hl hm hX hT hL k (i + 1) (by omega))
      · simp only [Alls, rg, decide_eq_true_eq]
        repeat' (first | with_reducible exact trivial | with_reducible apply And.intro)
        all_goals first | with_reducible assumption | omega | with_reducible rfl | (skip)
      · exact ⟨rfl, rb_slc rfl (by unfold capBig; omega), rfl, rfl, trivial⟩
      · refine ⟨rb_row (m := 0) (kd := .shut) rfl rfl rfl ?_ (fl_byts hbn), trivial⟩
        exact ovx_set (by omega)
def ovkSpec : LSpec := lspec (fun live h => match live, h with | [(_, .slice _ m _), _], [(_, r)] => some (m, r.cs) | _, _ => none) (fun a => (ovS a.1 0, [(0, ⟨.shut, a.2⟩)], 1))
  (fun a tp => some ((.exit 0, ovS a.1 a.1, [(0, ⟨.shut, ovx a.2⟩)], 1, [0]), tp, [Byts a.2, a.2.length = a.1, a.1 ≤ 9223372036854775807]))
def ovkL (P : Program) : LFun := mkL 21 2 22 [2, 3] (ovBody P) ovkSpec
theorem ovk_s (cs : List Value) (n m : Nat) : runZ (ovV (ovkL Try.prog)) Try.prog 5 21 [.slice (some ⟨0, 0, none⟩) n m] [(0, ⟨.shut, cs⟩)] 1 [] =
  Res.ok ((Value.tuple (Array.mk []), [(0, Rw.mk Kd.shut (ovx cs))], 1, [0]), [], [m < 18446744073709551616, m < 18446744073709551616, (0 : Int) ≤ (↑m : Int) ∧ (↑m : Int) ≤ (↑m : Int), ovBody Try.prog = ovBody Try.prog,
 [(2, Value.slice (some (Addr.mk 0 0 none)) m m), (3, Value.int IntKind.i64 (0 : Int))] = ovS m 0, [(0, Rw.mk Kd.shut cs)] = [(0, Rw.mk Kd.shut cs)], 1 = 1, Byts cs, List.length cs = m, m ≤ 9223372036854775807]) := by kernel_rfl
theorem ovk_spec_ok : LSOk Try.prog 22 [2, 3] (ovBody Try.prog) ovkSpec := by
  refine lspec_ok fun a tp xt l2 h2 nx2 d tp' ob hs ho inr ts hn hg => ?_
  obtain ⟨m, cs⟩ := a
  simp only at hs hg
  simp only [Option.some.injEq, Prod.mk.injEq] at hs
  obtain ⟨⟨rfl, rfl, rfl, rfl, rfl⟩, rfl, rfl⟩ := hs
  obtain ⟨hb, hl, hm, _⟩ := ho
  have hX : XOkZ (ovV noL) Try.prog := noXz_ok rfl
  have hT : TOkZ (ovV noL) Try.prog := noTz_okV rfl
  have hL : LOkZ (ovV noL) Try.prog := noL_okV rfl
  refine LRuns.enter (o := (.exit 0, ovS m m, [(0, ⟨.shut, ovx cs⟩)])) (l2 := ovS m 0) (h2 := [(0, ⟨.shut, cs⟩)]) hn hg (Nat.le_refl 1) (Nat.le_refl 1) (fun n => n) ?_ ?_ rfl (ovk_loop hb hl hm hX hT hL m 0 (by omega)) ?_
  · exact ⟨rfl, rb_slc rfl (by have hm' : m ≤ 9223372036854775807 := hm; unfold capBig; omega), rfl, rfl, trivial⟩
  · exact ⟨⟨0, _, rfl, rfl, rfl, rfl, .inl (fl_byts hb _)⟩, trivial⟩
  · refine tidy_of (Nat.le_refl 1) (fun n hn hd => ?_) rfl
    have hn' : n < 1 := hn
    exact absurd (show n ∈ [0] by simp; omega) hd
/-- A row that is written over, its contents told. -/
theorem tri_rewrite {P : Program} {f : FuncId} (H : ∀ (cs : List Value) (len : Nat), len ≤ cs.length → Byts cs → cs.length ≤ 9223372036854775807 → ∃ nx' d, Tri P f [.slice (some ⟨0, 0, none⟩) len cs.length] [(0, ⟨.shut, cs⟩)] 1 (.tuple #[], [(0, ⟨.shut, ovx cs⟩)], nx', d))
    {h : Hp} {nx n len c : Nat} {r : Rw} (hl : lk h n = some r) (hlen : len ≤ r.cs.length) (hb : Byts r.cs)
    (hk : r.kd = .shut ∧ c = r.cs.length ∧ c ≤ 9223372036854775807) : Tri P f [.slice (some ⟨n, 0, none⟩) len c] h nx (.tuple #[], (n, ⟨.shut, ovx r.cs⟩) :: delH h n, nx, [n]) := by
  have ho : r.own := by
    obtain ⟨e, _⟩ := hk
    intro e2; rw [e] at e2; cases e2
  refine ⟨⟨Nat.le_refl _, fun m _ hd => ?_, fun hB m hm => ?_⟩, fun hB W σ w args' hR hf ha => ?_⟩
  · simp only [List.mem_singleton] at hd
    simp only
    rw [lk_cons, if_neg (Ne.symm hd), lk_delH, if_neg (Ne.symm hd)]
  · simp only at hm ⊢
    have hn : n < nx := Nat.lt_of_not_le fun e => by have := hB n e; rw [hl] at this; cases this
    rw [lk_cons, if_neg (by omega), lk_delH, if_neg (by omega)]
    exact hB m hm
  obtain ⟨v', vs', hv, hn, rfl⟩ := renL_cons ha
  simp only [renL, Option.some.injEq] at hn
  subst hn
  obtain ⟨p, c', hp, hc, rfl⟩ := renV_slice hv
  obtain ⟨b, s, vs, hpb, hvs, hkd⟩ := hR.row _ _ hl
  rw [hp] at hpb
  cases hpb
  have hvv : vs = r.cs := by
    have := fl_byts hb σ
    rw [this] at hvs
    exact (Option.some.inj hvs).symm
  subst hvv
  -- the whole block
  obtain ⟨full, t, e0, hfull, hfl, hle, hcl, hrow, hfe⟩ : ∃ full t, s = 0 ∧ Byts full ∧ full.length ≤ 9223372036854775807 ∧ len ≤ full.length ∧ c' = full.length ∧ w.heap[b]? = some (.cells full.toArray t (0, 0)) ∧ full = r.cs := by
    obtain ⟨e, rfl, hcm⟩ := hk
    rw [e] at hkd
    obtain ⟨h1, _, t, h3⟩ := hkd
    refine ⟨r.cs, t, h1, hb, hcm, hlen, ?_, h3, rfl⟩
    unfold cpR at hc
    rw [if_pos (by unfold capBig; omega)] at hc
    exact (Option.some.inj hc).symm
  subst e0
  subst hcl
  have hge := (hR.ge hl ho hp).1
  have hR0 : Rl W ⟨fun k => if k = 0 then some (b, 0) else none, fun _ => none⟩ [(0, ⟨.shut, full⟩)] w := by
    refine ⟨hR.ext, fun k r' hk' => ?_, fun k m r1 s1 p1 q1 h1 h2 _ _ _ _ _ => ?_⟩
    · rw [lk_cons] at hk'
      split at hk'
      · rename_i e; cases hk'; subst e
        exact ⟨b, 0, full, rfl, fl_byts hfull _, rfl, hge, t, hrow⟩
      · simp [lk] at hk'
    · rw [lk_cons] at h1 h2
      split at h1
      · rename_i e1
        split at h2
        · rename_i e2; omega
        · simp [lk] at h2
      · simp [lk] at h1
  obtain ⟨nx', d, T⟩ := H full len hle hfull hfl
  have hv0 : renV (⟨fun k => if k = 0 then some (b, 0) else none, fun _ => none⟩ : Sg) (.slice (some ⟨0, 0, none⟩) len full.length) = some (.slice (some ⟨b, 0, none⟩) len full.length) := rb_slc rfl (by unfold capBig; omega)
  refine (T.2 (bdB_ok rfl) W _ w _ hR0 (fun k h1 _ => ⟨if_neg (by omega), rfl⟩) (renL_mk hv0 rfl)).mono ?_
  rintro e w' ⟨σ', u, S, hu, rfl⟩
  have keep : ∀ b', b' < w.heap.size → b' ≠ b → w'.heap[b']? = w.heap[b']? := fun b' h1 h2 => S.fr b' h1 fun k r1 p1 hk1 _ hp1 => by
    rw [lk_cons] at hk1
    split at hk1
    · rename_i e; subst e
      simp only [if_true, Option.some.injEq] at hp1
      rw [← hp1]; exact Ne.symm h2
    · simp [lk] at hk1
  have hdel : ∀ m r', lk (delH h n) m = some r' → lk h m = some r' ∧ m ≠ n := fun m r' hm => by
    rw [lk_delH] at hm
    split at hm
    · cases hm
    · rename_i e; exact ⟨hm, Ne.symm e⟩
  have cls : ∀ m r', lk ((n, ⟨.shut, ovx r.cs⟩) :: delH h n) m = some r' → (m = n ∧ r' = ⟨.shut, ovx r.cs⟩) ∨ (lk h m = some r' ∧ m ≠ n) := fun m r' hm => by
    rw [lk_cons] at hm
    split at hm
    · rename_i e; cases hm; exact .inl ⟨e.symm, rfl⟩
    · exact .inr (hdel m r' hm)
  have own : ∀ m r', lk ((n, ⟨.shut, ovx r.cs⟩) :: delH h n) m = some r' → r'.own → ∃ s, lk h m = some s ∧ s.own := fun m r' hm hw => by
    rcases cls m r' hm with ⟨rfl, _⟩ | ⟨h1, _⟩
    · exact ⟨r, hl, ho⟩
    · exact ⟨r', h1, hw⟩
  have hnew : ∃ t2, w'.heap[b]? = some (.cells (ovx r.cs).toArray t2 (0, 0)) := by
    obtain ⟨b2, s2, vs2, e1, e2, e3⟩ := S.rl.row 0 _ rfl
    have e4 := S.le.1 0 (b, 0) rfl
    rw [e4] at e1
    cases e1
    have e5 := ovx_fl full σ'
    rw [e5] at e2
    cases e2
    obtain ⟨_, _, t2, e6⟩ := e3
    subst hfe
    exact ⟨t2, e6⟩
  obtain ⟨t2, hnew⟩ := hnew
  refine ⟨σ, u, ⟨Sg.le.refl σ, fun _ _ => ⟨rfl, rfl⟩, ⟨S.rl.ext, fun m r' hm => ?_, fun m k r1 s1 p1 q1 h1 h2 o1 o2 hp1 hq1 e => ?_⟩, S.size, fun b' h1 h2 => keep b' h1 fun e => h2 n r (b, 0) hl ho hp e.symm, fun m r1 p1 h1 h2 h3 => ?_⟩, ?_, rfl⟩
  · rcases cls m r' hm with ⟨rfl, rfl⟩ | ⟨h1, h2⟩
    · exact ⟨b, 0, ovx r.cs, hp, ovx_fl _ _, rfl, hge, t2, hnew⟩
    · exact (hR.row m r' h1).keep (Sg.le.refl σ) fun ho' q hq => keep _ (hR.lt h1 hq) fun e => h2 (hR.inj m n r' r q (b, 0) h1 hl ho' ho hq hp e)
  · obtain ⟨s1', g1, g2⟩ := own _ _ h1 o1
    obtain ⟨s2', g3, g4⟩ := own _ _ h2 o2
    exact hR.inj m k s1' s2' p1 q1 g1 g3 g2 g4 hp1 hq1 e
  · obtain ⟨s1', g1, g2⟩ := own _ _ h1 h2
    exact .inr ⟨m, s1', p1, g1, g2, h3, rfl⟩
  · simp only [renV, renA, renL, Option.some.injEq] at hu ⊢
    exact hu
def ovxT : TFun := fun f args h nx tp => bif Nat.beq f 21 then some (match args with
  | [.slice (some ⟨n, o, none⟩) len c] => (match lk h n with
    | some r => (match r.kd with
      | .shut => .ok ((.tuple ⟨[]⟩, (n, ⟨.shut, ovx r.cs⟩) :: delH h n, nx, [n]), tp, [o = 0, c = r.cs.length, c ≤ 9223372036854775807, len ≤ r.cs.length, Byts r.cs])
      | _ => .no)
    | none => .no)
  | [.slice none l c] => bif Nat.beq l 0 && Nat.beq c 0 then .ok ((.tuple ⟨[]⟩, h, nx, []), tp, []) else .no
  | _ => .no) else none
theorem ovx_one : TOneZ Try.prog ovxT := by
  intro f args h nx tp out tp' ob e ho
  unfold ovxT at e
  rcases bif_or e with ⟨hf, e1⟩ | ⟨_, e1⟩
  case inr => cases e1
  clear e
  obtain rfl := Nat.eq_of_beq_eq_true hf
  have e := Option.some.inj e1
  clear e1
  have hX : ∀ L, XOkZ (ovV L) Try.prog := fun L => noXz_ok rfl
  have hT : ∀ L, TOkZ (ovV L) Try.prog := fun L => noTz_okV rfl
  have hL : LOkZ (ovV (ovkL Try.prog)) Try.prog := L_okV rfl (mkL_ok ovk_spec_ok)
  have hL0 : LOkZ (ovV noL) Try.prog := noL_okV rfl
  have H : ∀ (cs : List Value) (len : Nat), len ≤ cs.length → Byts cs → cs.length ≤ 9223372036854775807 → ∃ nx' d, Tri Try.prog 21 [.slice (some ⟨0, 0, none⟩) len cs.length] [(0, ⟨.shut, cs⟩)] 1 (.tuple #[], [(0, ⟨.shut, ovx cs⟩)], nx', d) := fun cs len h1 h2 h3 => by
    refine ⟨_, _, run_tri (hX _) (hT _) hL (ovk_s cs len cs.length) ?_ rfl⟩
    simp only [Alls]
    repeat' (first | with_reducible exact trivial | with_reducible apply And.intro)
    all_goals first | with_reducible assumption | omega | with_reducible rfl | (rfl)
  split at e
  · split at e
    case h_2 => cases e
    rename_i r hl
    split at e
    · rename_i hk
      simp only [Res.ok.injEq, Prod.mk.injEq] at e
      obtain ⟨rfl, rfl, rfl⟩ := e
      obtain ⟨rfl, h2, h3, h4, h5, _⟩ := ho
      exact tri_rewrite H hl h4 h5 ⟨hk, h2, h3⟩
    · cases e
  · obtain ⟨hb, e⟩ := bif_ok e
    simp only [Bool.and_eq_true] at hb
    simp only [Res.ok.injEq, Prod.mk.injEq] at e
    obtain ⟨rfl, rfl, rfl⟩ := e
    obtain rfl := Nat.eq_of_beq_eq_true hb.1
    obtain rfl := Nat.eq_of_beq_eq_true hb.2
    refine tri_quiet (fun σ args' ha => ?_) (fun σ => rfl) fun w => ?_
    · simp only [renL, renV, Option.some.injEq] at ha; exact ha.symm
    · exact calls_av [.fl (.slice none 0 0)] (ps := [none]) (fun cs _ => ⟨_, _, _, run_tri (hX _) (hT _) hL0 over_n (by simp [Alls]) rfl⟩) (fun σ => rfl) ⟨⟨rfl, fun σ => rfl, rfl⟩, trivial⟩ (fun j ad c hj => by match j, hj with | 0, hj => simp at hj | j + 1, hj => simp at hj)
  · cases e
/-! ### CopyBytes -/
def cpV (md : Nat) : Tv := ⟨noTz, noXz, noL, fun _ => [], allSy 15 [(5, md)], fun _ => [], fun _ => 0⟩
theorem cp_n  : runZ (cpV 4) Try.prog 5 15 [.slice none 0 0] [] 1 [] =
  Res.ok ((Value.slice (some (Addr.mk 1 0 none)) 0 0, [(1, Rw.mk Kd.shut [])], 2, []), [], []) := by kernel_rfl
theorem cp_e (xs : List Value) (c : Nat) : runZ (cpV 4) Try.prog 5 15 [.slice (some ⟨0, 0, none⟩) 0 c] [(0, ⟨.old, xs⟩)] 1 [] =
  Res.ok ((Value.slice (some (Addr.mk 1 0 none)) 0 0, [(1, Rw.mk Kd.shut []), (0, Rw.mk Kd.old xs)], 2, []), [], []) := by kernel_rfl
theorem cp_x (xs : List Value) (n c : Nat) : prjR 2 (runZ (cpV 2) Try.prog 5 15 [.slice (some ⟨0, 0, none⟩) n c] [(0, ⟨.old, xs⟩)] 1 []) =
  Res.ok ((Value.slice (some (Addr.mk 2 0 none)) (0 + n) (capBig + 2), Rw.mk (Kd.room 1 [Value.int IntKind.u8 (0 : Int)]) ([] ++ List.take n xs)), [], [0 < 18446744073709551616, 0 < 0 + n, 0 ≤ 0, (0 + n) * 1 ≤
 140737488355328 ∧ 0 + n ≤ 9223372036854775807, n ≤ List.length xs, all1 (List.take n xs) = true]) := by kernel_rfl
def sCp : Spec1 := fun xs n tp => match tp with
  | true :: tp => some (⟨fun nx => .slice (some ⟨nx, 0, none⟩) 0 0, [⟨.shut, []⟩]⟩, tp, [n = 0])
  | false :: tp => some (⟨fun nx => .slice (some ⟨nx, 0, none⟩) n (capBig + nx), [⟨.room 1 [.int .u8 0], xs⟩]⟩, tp, [Byts xs, 0 < n, n ≤ 1099511627776])
  | [] => none
theorem cp_gok : GOk Try.prog 15 [.s 1] (gS sCp) := by
  have hX : ∀ md, XOkZ (cpV md) Try.prog := fun md => noXz_ok rfl
  have hT : ∀ md, TOkZ (cpV md) Try.prog := fun md => noTz_okV rfl
  have hL : ∀ md, LOkZ (cpV md) Try.prog := fun md => noL_okV rfl
  refine gS_ok (fun tp gr tp' ob hG ho => ?_) (fun xs n c tp gr tp' ob hG ho hfl hl0 hc => ?_)
  · unfold sCp at hG
    split at hG
    · simp only [Option.some.injEq, Prod.mk.injEq] at hG
      obtain ⟨rfl, rfl, rfl⟩ := hG
      refine ⟨_, _, _, _, fun _ => 1, run_tri (hX _) (hT _) (hL _) cp_n ?_ rfl, GrIs.one rfl (Fl.of rfl) rfl (fun e => by cases e) (by omega)⟩
      simp only [Alls]
      repeat' (first | with_reducible exact trivial | with_reducible apply And.intro)
      all_goals first | with_reducible assumption | omega | with_reducible rfl | (exact Fl.of rfl)
    · simp only [Option.some.injEq, Prod.mk.injEq] at hG
      obtain ⟨rfl, rfl, rfl⟩ := hG
      exact absurd ho.2.1 (by omega)
    · cases hG
  · unfold sCp at hG
    split at hG
    · simp only [Option.some.injEq, Prod.mk.injEq] at hG
      obtain ⟨rfl, rfl, rfl⟩ := hG
      obtain ⟨rfl, _⟩ := ho
      refine ⟨_, _, _, _, fun _ => 1, run_tri (hX _) (hT _) (hL _) (cp_e xs c) ?_ rfl, GrIs.one rfl (Fl.of rfl) rfl (fun e => by cases e) (by omega)⟩
      simp only [Alls]
      repeat' (first | with_reducible exact trivial | with_reducible apply And.intro)
      all_goals first | with_reducible assumption | omega | with_reducible rfl | (exact Fl.of rfl)
    · simp only [Option.some.injEq, Prod.mk.injEq] at hG
      obtain ⟨rfl, rfl, rfl⟩ := hG
      obtain ⟨hb, h1, h2, _⟩ := ho
      have ex : xs.take n = xs := take_len (by omega)
      have a1 := Ints.all1 (k := .u8) hb.1
      have hR := run_row (hX 2) (hT 2) (hL 2) (cp_x xs n c)
      rw [Nat.zero_add] at hR
      refine ran_big (hR ?_ rfl) (by rw [ex]; rfl) (fl_byts hb)
      simp only [Alls, ex]
      repeat' (first | with_reducible exact trivial | with_reducible apply And.intro)
      all_goals first | with_reducible assumption | omega | with_reducible rfl | (exact a1)
    · cases hG
end Go.Proofs.Ytdcakhahagbedaa
