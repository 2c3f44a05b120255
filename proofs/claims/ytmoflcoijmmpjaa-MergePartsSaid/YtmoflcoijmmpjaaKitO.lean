/-
  The statements' kit on lists of bytes: OverBytes writes over a list, all of it; from then on the list is forgotten.
-/
import Derived.Test.YtmoflcoijmmpjaaKitB
namespace Go.Proofs.Ytmoflcoijmmpjaa
set_option linter.unusedSimpArgs false
set_option linter.unusedVariables false
set_option linter.unusedSectionVars false
open Go Go.RowKit

def ovV (L : LFun) : Tv := ⟨noTz, noXz, L, tbl 20 [11], allSy 20 [], fun _ => [], fun _ => 0⟩
def ovBody (P : Program) : Code := bodyIn P 20 2
def ovS (m i : Nat) : List (Nat × Value) := [(2, .slice (some ⟨0, 0, none⟩) m m), (3, .int .i64 (i : Int))]
theorem ov_more (inr : Bool) (cs : List Value) (m i : Nat) : prjZ [2, 3] (codeZ (ovV noL) Try.prog (runZ (ovV noL) Try.prog 5) 20 inr 100000 (ovBody Try.prog) (SL 22 (ovS m i)) [(0, ⟨.shut, cs⟩)] 1 [true]) =
  Res.ok ((Xt.normal, 22, [(2, Value.slice (some (Addr.mk 0 0 none)) m m), (3, Value.int IntKind.i64 (↑(i + 1) : Int))], [(0, Rw.mk Kd.shut (splice cs i [Value.int IntKind.u8 (IntKind.wrap IntKind.u8 (↑(BitVec.toNat
 (BitVec.ofInt 8 (intAt cs i) ^^^ BitVec.ofInt 8 (90 : Int))) : Int))]))], 1, [0], []), [], [decide ((↑i : Int) < (↑m : Int)) = true, (0 : Int) ≤ (↑i : Int) ∧ (↑i : Int) < (↑m : Int), cs[i]? = some (Value.int IntKind.u8
 (intAt cs i)), (0 : Int) ≤ (↑i : Int) ∧ (↑i : Int) < (↑m : Int), i + 1 ≤ List.length cs, rg IntKind.i64 (↑(i + 1) : Int)]) := by kernel_rfl
theorem ov_done (inr : Bool) (cs : List Value) (m i : Nat) : prjZ [2, 3] (codeZ (ovV noL) Try.prog (runZ (ovV noL) Try.prog 5) 20 inr 100000 (ovBody Try.prog) (SL 22 (ovS m i)) [(0, ⟨.shut, cs⟩)] 1 [false]) =
  Res.ok ((Xt.exit 0, 22, [(2, Value.slice (some (Addr.mk 0 0 none)) m m), (3, Value.int IntKind.i64 (↑i : Int))], [(0, Rw.mk Kd.shut cs)], 1, [], []), [], [decide ((↑i : Int) < (↑m : Int)) = false]) := by kernel_rfl
def ovSpec : LSpec := fun live h nx tp => match live, h with
  | [(_, .slice (some ⟨b, o, none⟩) m c), (_, .int .i64 i)], [(n, ⟨.shut, cs⟩)] => some ((.exit 0, [(2, .slice (some ⟨0, 0, none⟩) m m), (3, .int .i64 (m : Int))], [], 1, [0]), tp, [b = 0, o = 0, c = m, i = 0, n = 0, nx = 1, Byts cs, cs.length = m, m ≤ 9223372036854775807])
  | _, _ => none
def ovL (P : Program) : LFun := mkL 20 2 22 [2, 3] (ovBody P) ovSpec
theorem over_s (cs : List Value) (n m : Nat) : runZ (ovV (ovL Try.prog)) Try.prog 5 20 [.slice (some ⟨0, 0, none⟩) n m] [(0, ⟨.shut, cs⟩)] 1 [] =
  Res.ok ((Value.tuple (Array.mk []), [], 1, [0]), [], [m < 18446744073709551616, m < 18446744073709551616, (0 : Int) ≤ (↑m : Int) ∧ (↑m : Int) ≤ (↑m : Int), ovBody Try.prog = ovBody Try.prog, 0 = 0, 0 = 0, m = m, (0 : Int)
 = (0 : Int), 0 = 0, 1 = 1, Byts cs, List.length cs = m, m ≤ 9223372036854775807]) := by kernel_rfl
theorem over_n  : runZ (ovV noL) Try.prog 5 20 [.slice none 0 0] [] 1 [false] =
  Res.ok ((Value.tuple (Array.mk []), [], 1, []), [], [0 < 18446744073709551616, (0 : Int) ≤ (0 : Int) ∧ (0 : Int) ≤ (0 : Int), false = false]) := by kernel_rfl
theorem Byts.get {cs : List Value} (h : Byts cs) {i : Nat} (hi : i < cs.length) : cs[i]? = some (.int .u8 (intAt cs i)) ∧ 0 ≤ intAt cs i ∧ intAt cs i < 256 := by
  have hl : (intsOf cs).length = cs.length := by simp [intsOf]
  have hi' : i < (intsOf cs).length := by omega
  have e : cs[i]? = some (.int .u8 (intsOf cs)[i]) := by
    conv => lhs; rw [h.1]
    rw [List.getElem?_map, List.getElem?_eq_getElem hi']
    rfl
  have ei : intAt cs i = (intsOf cs)[i] := by unfold intAt; rw [e]
  rw [ei]
  exact ⟨e, h.2 _ (List.getElem_mem _)⟩
theorem Byts.set {cs : List Value} (h : Byts cs) (i : Nat) {n : Int} (hn : 0 ≤ n ∧ n < 256) : Byts (cs.set i (.int .u8 n)) := by
  have e : intsOf (cs.set i (.int .u8 n)) = (intsOf cs).set i n := by unfold intsOf; rw [List.map_set]
  refine ⟨?_, fun x hx => ?_⟩
  · rw [e, List.map_set, ← h.1]
  · rw [e] at hx
    rcases List.mem_or_eq_of_mem_set hx with hx | rfl
    · exact h.2 x hx
    · exact hn
theorem xor_rg (a : Int) : 0 ≤ IntKind.u8.wrap (BitVec.toNat (BitVec.ofInt 8 a ^^^ BitVec.ofInt 8 90) : Nat) ∧ IntKind.u8.wrap (BitVec.toNat (BitVec.ofInt 8 a ^^^ BitVec.ofInt 8 90) : Nat) < 256 := by
  rw [IntKind.wrap_u8]; omega

theorem ov_loop {inr : Bool} {h0 : Hp} (hX : XOkZ (ovV noL) Try.prog) (hT : TOkZ (ovV noL) Try.prog) (hL : LOkZ (ovV noL) Try.prog) : ∀ (k i m : Nat) (cs : List Value), i + k = m → Byts cs → cs.length = m → m ≤ 9223372036854775807 →
    LRuns inr Try.prog (ovBody Try.prog) 1 1 h0 22 (ovS m i) [(0, ⟨.shut, cs⟩)] 1 (.exit 0, ovS m m, [])
  | 0, i, m, cs, hi, hb, hl, hm => by
      obtain rfl : i = m := by omega
      refine LRuns.exit (code_runs hX hL (runZ_ok hX hT hL mixed 5) mixed (ov_done inr cs i i) ?_) (by intro e; cases e) rfl (Nat.le_refl _) (Nat.le_refl _) (fun n => n) ?_ trivial rfl
      · simp [Alls]
      · exact ⟨rfl, rb_slc rfl (by unfold capBig; omega), rfl, rfl, trivial⟩
  | k + 1, i, m, cs, hi, hb, hl, hm => by
      have hi2 : i < cs.length := by omega
      obtain ⟨g1, g2, g3⟩ := hb.get hi2
      refine LRuns.step (l2 := ovS m (i + 1)) (code_runs hX hL (runZ_ok hX hT hL mixed 5) mixed (ov_more inr cs m i) ?_) rfl (Nat.le_refl _) (Nat.le_refl _) (fun n => n) ?_ ?_ rfl (ov_loop hX hT hL k (i + 1) m _ (by omega) (hb.set i (xor_rg (intAt cs i))) (by simpa using hl) hm)
      · simp only [Alls, rg, decide_eq_true_eq]
        repeat' (first | with_reducible exact trivial | with_reducible apply And.intro)
        all_goals first | with_reducible assumption | omega | with_reducible rfl | (skip)
      · exact ⟨rfl, rb_slc rfl (by unfold capBig; omega), rfl, rfl, trivial⟩
      · refine ⟨⟨0, _, rfl, rfl, rfl, rfl, .inl (fl_byts (hb.set i (xor_rg (intAt cs i))) _)⟩, trivial⟩
theorem ov_spec_ok : LSOk Try.prog 22 [2, 3] (ovBody Try.prog) ovSpec := by
  intro live h nx tp xt l2 h2 nx2 d tp' ob hs ho inr ts hn hg
  have hX : XOkZ (ovV noL) Try.prog := noXz_ok rfl
  have hT : TOkZ (ovV noL) Try.prog := noTz_okV rfl
  have hL : LOkZ (ovV noL) Try.prog := noL_okV rfl
  unfold ovSpec at hs
  split at hs
  case h_2 => cases hs
  rename_i k2 b o m c k3 i n cs
  simp only [Option.some.injEq, Prod.mk.injEq] at hs
  obtain ⟨⟨rfl, rfl, rfl, rfl, rfl⟩, rfl, rfl⟩ := hs
  obtain ⟨rfl, rfl, rfl, rfl, rfl, rfl, hb, hl, hm, _⟩ := ho
  have e2 : k2 = 2 ∧ k3 = 3 := by
    simp only [getS] at hg
    split at hg
    · rename_i v l h1 h2
      split at h2
      · simp only [Option.some.injEq] at h2
        subst h2
        simp only [Option.some.injEq, List.cons.injEq, Prod.mk.injEq] at hg
        exact ⟨hg.1.1.symm, hg.2.1.1.symm⟩
      · cases h2
    · cases hg
  obtain ⟨rfl, rfl⟩ := e2
  refine LRuns.enter (o := (.exit 0, ovS c c, [])) (l2 := ovS c 0) (h2 := [(0, ⟨.shut, cs⟩)]) hn hg (Nat.le_refl 1) (Nat.le_refl 1) (fun n => n) ?_ ?_ rfl (ov_loop hX hT hL c 0 c cs (by omega) hb hl hm) ?_
  · exact ⟨rfl, rb_slc rfl (by unfold capBig; omega), rfl, rfl, trivial⟩
  · exact ⟨⟨0, _, rfl, rfl, rfl, rfl, .inl (fl_byts hb _)⟩, trivial⟩
  · refine ⟨Nat.le_refl _, fun n hn hd => ?_, fun _ => bdB_ok rfl⟩
    rw [lk_cons, if_neg (fun e => hd (by simp [e]))]
/-- A row that is written over and forgotten. -/
theorem tri_wipe {P : Program} {f : FuncId} (H : ∀ (cs : List Value) (len : Nat), len ≤ cs.length → Byts cs → cs.length ≤ 9223372036854775807 → ∃ nx' d, Tri P f [.slice (some ⟨0, 0, none⟩) len cs.length] [(0, ⟨.shut, cs⟩)] 1 (.tuple #[], [], nx', d))
    {h : Hp} {nx n len c : Nat} {r : Rw} (hl : lk h n = some r) (hlen : len ≤ r.cs.length) (hb : Byts r.cs)
    (hk : (r.kd = .shut ∧ c = r.cs.length ∧ c ≤ 9223372036854775807) ∨ (r.kd = .room 1 [.int .u8 0] ∧ c = capBig + n)) : Tri P f [.slice (some ⟨n, 0, none⟩) len c] h nx (.tuple #[], delH h n, nx, [n]) := by
  have ho : r.own := by
    rcases hk with ⟨e, _⟩ | ⟨e, _⟩ <;> (intro e2; rw [e] at e2; cases e2)
  refine ⟨⟨Nat.le_refl _, fun m _ hd => ?_, fun hB m hm => ?_⟩, fun hB W σ w args' hR hf ha => ?_⟩
  · simp only [List.mem_singleton] at hd
    simp only
    rw [lk_delH, if_neg (Ne.symm hd)]
  · simp only
    rw [lk_delH]
    split
    · rfl
    · exact hB m hm
  obtain ⟨v', vs', hv, hn, rfl⟩ := renL_cons ha
  simp only [renL, Option.some.injEq] at hn
  subst hn
  rcases renV_slice hv with ⟨p, c', hp, hc, rfl, _⟩ | ⟨h0, _⟩
  case inr => exact (hR.shr.1 n r hl ho h0).elim
  obtain ⟨b, s, vs, hpb, hvs, hkd⟩ := hR.row _ _ hl
  rw [hp] at hpb
  cases hpb
  have hvv : vs = r.cs := by
    have := fl_byts hb σ
    rw [this] at hvs
    exact (Option.some.inj hvs).symm
  subst hvv
  -- the whole block
  obtain ⟨full, t, e0, hfull, hfl, hle, hcl, hrow⟩ : ∃ full t, s = 0 ∧ Byts full ∧ full.length ≤ 9223372036854775807 ∧ len ≤ full.length ∧ c' = full.length ∧ w.heap[b]? = some (.cells full.toArray t (0, 0)) := by
    rcases hk with ⟨e, rfl, hcm⟩ | ⟨e, rfl⟩
    · rw [e] at hkd
      obtain ⟨h1, _, t, h3⟩ := hkd
      refine ⟨r.cs, t, h1, hb, hcm, hlen, ?_, h3⟩
      unfold cpR at hc
      rw [if_pos (by unfold capBig; omega)] at hc
      exact (Option.some.inj hc).symm
    · rw [e] at hkd
      obtain ⟨h1, _, t, rest, k, h3, h4, h5, h6, h7⟩ := hkd
      rw [cpR_big, h3] at hc
      cases hc
      have hrb : Byts rest := by
        have : rest = List.replicate rest.length (.int .u8 0) := List.eq_replicate_iff.2 ⟨rfl, fun x hx => by simpa using h7 x hx⟩
        rw [this]
        have e2 : List.replicate rest.length (Value.int .u8 0) = (List.replicate rest.length (0 : Int)).map (Value.int .u8) := by simp
        rw [e2]
        exact Byts.of fun x hx => by rw [List.eq_of_mem_replicate hx]; omega
      exact ⟨r.cs ++ rest, t, h1, hb.app hrb, by rw [h5]; unfold maxLen at h6; omega, by simp; omega, by rw [h5]; omega, h4⟩
  subst e0
  subst hcl
  have hge := (hR.ge hl ho hp).1
  have hR0 : Rl W (sgO b) [(0, ⟨.shut, full⟩)] w := rl_one hR.ext hge (fl_byts hfull _) hrow
  obtain ⟨nx', d, T⟩ := H full len hle hfull hfl
  have hv0 : renV (sgO b) (.slice (some ⟨0, 0, none⟩) len full.length) = some (.slice (some ⟨b, 0, none⟩) len full.length) := rb_slc rfl (by unfold capBig; omega)
  refine (T.2 (bdB_ok rfl) W _ w _ hR0 (fun k h1 _ => ⟨if_neg (by omega), rfl⟩) (renL_mk hv0 rfl)).mono ?_
  rintro e w' ⟨σ', u, S, hu, rfl⟩
  have keep : ∀ b', b' < w.heap.size → b' ≠ b → w'.heap[b']? = w.heap[b']? := fun b' h1 h2 => S.fr b' h1 fun k r1 p1 hk1 _ hp1 => by
    rw [lk_cons] at hk1
    split at hk1
    · rename_i e; subst e
      simp only [sgO, if_true, Option.some.injEq] at hp1
      rw [← hp1]; exact Ne.symm h2
    · simp [lk] at hk1
  have hdel : ∀ m r', lk (delH h n) m = some r' → lk h m = some r' ∧ m ≠ n := fun m r' hm => by
    rw [lk_delH] at hm
    split at hm
    · cases hm
    · rename_i e; exact ⟨hm, Ne.symm e⟩
  refine ⟨σ, u, Stp0.up ⟨Sg.le.refl σ, fun _ _ => ⟨rfl, rfl⟩, ⟨S.rl.ext, fun m r' hm => ?_, fun m k r1 s1 p1 q1 h1 h2 => hR.inj m k r1 s1 p1 q1 (hdel _ _ h1).1 (hdel _ _ h2).1⟩, S.size, fun b' h1 h2 => keep b' h1 fun e => h2 n r (b, 0) hl ho hp e.symm, fun m r1 p1 h1 h2 h3 => .inr ⟨m, r1, p1, (hdel _ _ h1).1, h2, h3, rfl⟩⟩ hR.shr (hR.shr.sub fun m s e => ⟨s, (hdel _ _ e).1, fun h => h⟩), ?_, rfl⟩
  · obtain ⟨h1, h2⟩ := hdel m r' hm
    exact hR.keepV hl ho hp h1 h2 (Sg.le.refl σ) keep
  · simp only [renV, renA, renL, Option.some.injEq] at hu ⊢
    exact hu
def overT : TFun := fun f args h nx tp => bif Nat.beq f 20 then some (match args with
  | [.slice none l c] => bif Nat.beq l 0 && Nat.beq c 0 then .ok ((.tuple ⟨[]⟩, h, nx, []), tp, []) else .no
  | [.slice (some ⟨n, o, none⟩) len c] => (match lk h n with
    | some r => (match r.kd with
      | .shut => .ok ((.tuple ⟨[]⟩, delH h n, nx, [n]), tp, [o = 0, c = r.cs.length, c ≤ 9223372036854775807, len ≤ r.cs.length, Byts r.cs])
      | .room sz z => bif Nat.beq sz 1 && beqZL z [.int .u8 0] then .ok ((.tuple ⟨[]⟩, delH h n, nx, [n]), tp, [o = 0, c = capBig + n, len ≤ r.cs.length, Byts r.cs]) else .no
      | _ => .no)
    | none => .no)
  | _ => .no) else none
theorem over_one : TOneZ Try.prog overT := by
  intro f args h nx tp out tp' ob e ho
  unfold overT at e
  rcases bif_or e with ⟨hf, e1⟩ | ⟨_, e1⟩
  case inr => cases e1
  clear e
  obtain rfl := Nat.eq_of_beq_eq_true hf
  have e := Option.some.inj e1
  clear e1
  have hX : ∀ L, XOkZ (ovV L) Try.prog := fun L => noXz_ok rfl
  have hT : ∀ L, TOkZ (ovV L) Try.prog := fun L => noTz_okV rfl
  have hL : LOkZ (ovV (ovL Try.prog)) Try.prog := L_okV rfl (mkL_ok ov_spec_ok)
  have hL0 : LOkZ (ovV noL) Try.prog := noL_okV rfl
  have H : ∀ (cs : List Value) (len : Nat), len ≤ cs.length → Byts cs → cs.length ≤ 9223372036854775807 → ∃ nx' d, Tri Try.prog 20 [.slice (some ⟨0, 0, none⟩) len cs.length] [(0, ⟨.shut, cs⟩)] 1 (.tuple #[], [], nx', d) := fun cs len h1 h2 h3 => by
    refine ⟨_, _, run_tri (hX _) (hT _) hL (over_s cs len cs.length) ?_ rfl⟩
    simp only [Alls]
    repeat' (first | with_reducible exact trivial | with_reducible apply And.intro)
    all_goals first | with_reducible assumption | omega | with_reducible rfl | (skip)
  split at e
  · obtain ⟨hb, e⟩ := bif_ok e
    simp only [Bool.and_eq_true] at hb
    simp only [Res.ok.injEq, Prod.mk.injEq] at e
    obtain ⟨rfl, rfl, rfl⟩ := e
    obtain rfl := Nat.eq_of_beq_eq_true hb.1
    obtain rfl := Nat.eq_of_beq_eq_true hb.2
    refine tri_quiet (fun σ args' ha => ?_) (fun σ => rfl) fun w => ?_
    · simp only [renL, renV, Option.some.injEq] at ha; exact ha.symm
    · exact calls_av [.fl (.slice none 0 0)] (ps := [none]) (fun cs _ => ⟨_, _, _, run_tri (hX _) (hT _) hL0 over_n (by simp [Alls]) rfl⟩) (fun σ => rfl) ⟨⟨rfl, fun σ => rfl, rfl⟩, trivial⟩ (fun j ad c hj => by match j, hj with | 0, hj => simp at hj | j + 1, hj => simp at hj)
  · split at e
    case h_2 => cases e
    rename_i r hl
    split at e
    · rename_i hk
      simp only [Res.ok.injEq, Prod.mk.injEq] at e
      obtain ⟨rfl, rfl, rfl⟩ := e
      obtain ⟨rfl, h2, h3, h4, h5, _⟩ := ho
      exact tri_wipe H hl h4 h5 (.inl ⟨hk, h2, h3⟩)
    · rename_i sz z hk
      obtain ⟨hb, e⟩ := bif_ok e
      simp only [Bool.and_eq_true] at hb
      simp only [Res.ok.injEq, Prod.mk.injEq] at e
      obtain ⟨rfl, rfl, rfl⟩ := e
      obtain ⟨rfl, h2, h4, h5, _⟩ := ho
      obtain rfl := Nat.eq_of_beq_eq_true hb.1
      obtain rfl := beqZL_ok hb.2
      exact tri_wipe H hl h4 h5 (.inr ⟨hk, h2⟩)
    · cases e
  · cases e
end Go.Proofs.Ytmoflcoijmmpjaa
