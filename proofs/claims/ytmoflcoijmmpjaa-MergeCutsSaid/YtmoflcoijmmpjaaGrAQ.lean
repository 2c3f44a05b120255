/-
  The statements' kit on lists of bytes: SameBytes, LentBytes, KeptBytes, OverBytes, told by contracts.
-/
import Derived.Test.YtmoflcoijmmpjaaGrAP
import Derived.Test.YtmoflcoijmmpjaaProg
import Derived.Test.YtmoflcoijmmpjaaGrAA
import Derived.ChangeArms
import Derived.ChangeShapes
import Derived.Deep.Slices
namespace Go.Proofs.Ytmoflcoijmmpjaa
set_option linter.unusedSimpArgs false
set_option linter.unusedVariables false
set_option linter.unusedSectionVars false
open Go Go.RowKit

def Byts (xs : List Value) : Prop := xs = (intsOf xs).map (Value.int .u8) ∧ ∀ n ∈ intsOf xs, 0 ≤ n ∧ n < 256
theorem mixed : (Try.prog).follows .mixedOrders = true := by kernel_rfl
theorem noXz_ok {V : Tv} (h : V.X = noXz) {P : Program} : XOkZ V P := fun f args hp v ob e => by rw [h] at e; cases e
theorem noTz_okV {V : Tv} (h : V.T = noTz) {P : Program} : TOkZ V P := fun f args hp nx tp out tp' ob e => by rw [h] at e; cases e
theorem noL_okV {V : Tv} (h : V.L = noL) {P : Program} : LOkZ V P := fun fid x ts hp nx tp o tp' ob e => by rw [h] at e; cases e
theorem T_okV {V : Tv} {P : Program} {T : TFun} (h : V.T = T) (hT : TOneZ P T) : TOkZ V P := fun f args hp nx tp out tp' ob e ho => by rw [h] at e; exact hT _ _ _ _ _ _ _ _ e ho
theorem L_okV {V : Tv} {P : Program} {L : LFun} (h : V.L = L) (hL : LOne P L) : LOkZ V P := fun fid x ts hp nx tp o tp' ob e ho => by rw [h] at e; exact hL _ _ _ _ _ _ _ _ _ e ho
theorem run_tri {V : Tv} (hX : XOkZ V Try.prog) (hT : TOkZ V Try.prog) (hL : LOkZ V Try.prog) {k : Nat} {f : FuncId} {args : List Value} {h : Hp} {nx : Nat} {tp tp' : Tape} {out : Out} {ob : List Prop} (e : runZ V Try.prog k f args h nx tp = .ok (out, tp', ob)) (ho : Alls ob) (hf : Nat.blt f yBig = true) : Tri Try.prog f args h nx out :=
 (runZ_ok hX hT hL mixed k).fn _ _ _ _ _ _ _ _ e ho (Nat.le_of_ble_eq_true hf)

theorem fl_byts {xs : List Value} (h : Byts xs) : Fl xs := by rw [h.1]; exact Fl.ints _ _
def ovV (L : LFun) : Tv := ⟨noTz, noXz, L, tbl 20 [11], allSy 20 [], fun _ => [], fun _ => 0⟩
def ovBody (P : Program) : Code := bodyIn P 20 2
def ovS (m i : Nat) : List (Nat × Value) := [(2, .slice (some ⟨0, 0, none⟩) m m), (3, .int .i64 (i : Int))]
theorem ov_more (inr : Bool) (cs : List Value) (m i : Nat) : prjZ [2, 3] (codeZ (ovV noL) Try.prog (runZ (ovV noL) Try.prog 5) 20 inr 100000 (ovBody Try.prog) (SL 22 (ovS m i)) [(0, ⟨.shut, cs⟩)] 1 [true]) =
 Res.ok ((Xt.normal, 22, [(2, Value.slice (some (Addr.mk 0 0 none)) m m), (3, Value.int IntKind.i64 (↑(i + 1) : Int))], [(0, Rw.mk Kd.shut (splice cs i [Value.int IntKind.u8 (IntKind.wrap IntKind.u8 (↑(BitVec.toNat (BitVec.ofInt 8 (intAt cs i) ^^^ BitVec.ofInt 8 (90 : Int))) : Int))]))], 1, [0], []), [], [decide ((↑i : Int) < (↑m : Int)) = true, (0 : Int) ≤ (↑i : Int) ∧ (↑i : Int) < (↑m : Int), cs[i]? = some (Value.int IntKind.u8 (intAt cs i)), (0 : Int) ≤ (↑i : Int) ∧ (↑i : Int) < (↑m : Int), i + 1 ≤ List.length cs, rg IntKind.i64 (↑(i + 1) : Int)]) := by kernel_rfl
theorem ov_done (inr : Bool) (cs : List Value) (m i : Nat) : prjZ [2, 3] (codeZ (ovV noL) Try.prog (runZ (ovV noL) Try.prog 5) 20 inr 100000 (ovBody Try.prog) (SL 22 (ovS m i)) [(0, ⟨.shut, cs⟩)] 1 [false]) =
 Res.ok ((Xt.exit 0, 22, [(2, Value.slice (some (Addr.mk 0 0 none)) m m), (3, Value.int IntKind.i64 (↑i : Int))], [(0, Rw.mk Kd.shut cs)], 1, [], []), [], [decide ((↑i : Int) < (↑m : Int)) = false]) := by kernel_rfl
def ovSpec : LSpec := fun live h nx tp => match live, h with
 | [(_, .slice (some ⟨b, o, none⟩) m c), (_, .int .i64 i)], [(n, ⟨.shut, cs⟩)] => some ((.exit 0, [(2, .slice (some ⟨0, 0, none⟩) m m), (3, .int .i64 (m : Int))], [], 1, [0]), tp, [b = 0, o = 0, c = m, i = 0, n = 0, nx = 1, Byts cs, cs.length = m, m ≤ 9223372036854775807])
 | _, _ => none
def ovL (P : Program) : LFun := mkL 20 2 22 [2, 3] (ovBody P) ovSpec
theorem over_s (cs : List Value) (n m : Nat) : runZ (ovV (ovL Try.prog)) Try.prog 5 20 [.slice (some ⟨0, 0, none⟩) n m] [(0, ⟨.shut, cs⟩)] 1 [] =
 Res.ok ((Value.tuple (Array.mk []), [], 1, [0]), [], [m < 18446744073709551616, m < 18446744073709551616, (0 : Int) ≤ (↑m : Int) ∧ (↑m : Int) ≤ (↑m : Int), ovBody Try.prog = ovBody Try.prog, 0 = 0, 0 = 0, m = m, (0 : Int) = (0 : Int), 0 = 0, 1 = 1, Byts cs, List.length cs = m, m ≤ 9223372036854775807]) := by kernel_rfl
theorem Byts.get {cs : List Value} (h : Byts cs) {i : Nat} (hi : i < cs.length) : cs[i]? = some (.int .u8 (intAt cs i)) ∧ 0 ≤ intAt cs i ∧ intAt cs i < 256 := by
 have hl : (intsOf cs).length = cs.length := by simp [intsOf]
 have hi' : i < (intsOf cs).length := by omega
 have e : cs[i]? = some (.int .u8 (intsOf cs)[i]) := by
  conv => lhs; rw [h.1]
  rw [List.getElem?_map, List.getElem?_eq_getElem hi']
  rfl
 have ei : intAt cs i = (intsOf cs)[i] := by unfold intAt; rw [e]
 rw [ei]
 exact ⟨e, h.2 _ (List.getElem_mem _)⟩
theorem Byts.set {cs : List Value} (h : Byts cs) (i : Nat) {n : Int} (hn : 0 ≤ n ∧ n < 256) : Byts (cs.set i (.int .u8 n)) := by
 have e : intsOf (cs.set i (.int .u8 n)) = (intsOf cs).set i n := by unfold intsOf; rw [List.map_set]
 refine ⟨?_, fun x hx => ?_⟩
 ·rw [e, List.map_set, ← h.1]
 ·rw [e] at hx
  rcases List.mem_or_eq_of_mem_set hx with hx | rfl
  ·exact h.2 x hx
  ·exact hn
theorem xor_rg (a : Int) : 0 ≤ IntKind.u8.wrap (BitVec.toNat (BitVec.ofInt 8 a ^^^ BitVec.ofInt 8 90) : Nat) ∧ IntKind.u8.wrap (BitVec.toNat (BitVec.ofInt 8 a ^^^ BitVec.ofInt 8 90) : Nat) < 256 := by
 rw [IntKind.wrap_u8]; omega

theorem ov_loop {inr : Bool} {h0 : Hp} (hX : XOkZ (ovV noL) Try.prog) (hT : TOkZ (ovV noL) Try.prog) (hL : LOkZ (ovV noL) Try.prog) : ∀ (k i m : Nat) (cs : List Value), i + k = m → Byts cs → cs.length = m → m ≤ 9223372036854775807 →
  LRuns inr Try.prog (ovBody Try.prog) 1 1 h0 22 (ovS m i) [(0, ⟨.shut, cs⟩)] 1 (.exit 0, ovS m m, [])
 | 0, i, m, cs, hi, hb, hl, hm => by
   obtain rfl : i = m := by omega
   refine LRuns.exit (code_runs hX hL (runZ_ok hX hT hL mixed 5) mixed (ov_done inr cs i i) ?_) (by intro e; cases e) rfl (Nat.le_refl _) (Nat.le_refl _) (fun n => n) ?_ trivial rfl
   ·simp [Alls]
   ·exact ⟨rfl, rb_slc rfl (by unfold capBig; omega), rfl, rfl, trivial⟩
 | k + 1, i, m, cs, hi, hb, hl, hm => by
   have hi2 : i < cs.length := by omega
   obtain ⟨g1, g2, g3⟩ := hb.get hi2
   refine LRuns.step (l2 := ovS m (i + 1)) (code_runs hX hL (runZ_ok hX hT hL mixed 5) mixed (ov_more inr cs m i) ?_) rfl (Nat.le_refl _) (Nat.le_refl _) (fun n => n) ?_ ?_ rfl (ov_loop hX hT hL k (i + 1) m _ (by omega) (hb.set i (xor_rg (intAt cs i))) (by simpa using hl) hm)
   ·simp only [Alls, rg, decide_eq_true_eq]
    repeat' (first | with_reducible exact trivial | with_reducible apply And.intro)
    all_goals first | with_reducible assumption | omega | with_reducible rfl | (skip)
   ·exact ⟨rfl, rb_slc rfl (by unfold capBig; omega), rfl, rfl, trivial⟩
   ·refine ⟨⟨0, _, rfl, rfl, rfl, rfl, .inl (fl_byts (hb.set i (xor_rg (intAt cs i))) _)⟩, trivial⟩
theorem ov_spec_ok : LSOk Try.prog 22 [2, 3] (ovBody Try.prog) ovSpec := by
 intro live h nx tp xt l2 h2 nx2 d tp' ob hs ho inr ts hn hg
 have hX : XOkZ (ovV noL) Try.prog := noXz_ok rfl
 have hT : TOkZ (ovV noL) Try.prog := noTz_okV rfl
 have hL : LOkZ (ovV noL) Try.prog := noL_okV rfl
 unfold ovSpec at hs
 split at hs
 case h_2 => cases hs
 rename_i k2 b o m c k3 i n cs
 simp only [oI, pI] at hs
 obtain ⟨⟨rfl, rfl, rfl, rfl, rfl⟩, rfl, rfl⟩ := hs
 obtain ⟨rfl, rfl, rfl, rfl, rfl, rfl, hb, hl, hm, _⟩ := ho
 have e2 : k2 = 2 ∧ k3 = 3 := by
  simp only [getS] at hg
  split at hg
  ·rename_i v l h1 h2
   split at h2
   ·simp only [oI] at h2
    subst h2
    simp only [oI, List.cons.injEq, pI] at hg
    exact ⟨hg.1.1.symm, hg.2.1.1.symm⟩
   ·cases h2
  ·cases hg
 obtain ⟨rfl, rfl⟩ := e2
 refine LRuns.enter (o := (.exit 0, ovS c c, [])) (l2 := ovS c 0) (h2 := [(0, ⟨.shut, cs⟩)]) hn hg (Nat.le_refl 1) (Nat.le_refl 1) (fun n => n) ?_ ?_ rfl (ov_loop hX hT hL c 0 c cs (by omega) hb hl hm) ?_
 ·exact ⟨rfl, rb_slc rfl (by unfold capBig; omega), rfl, rfl, trivial⟩
 ·exact ⟨⟨0, _, rfl, rfl, rfl, rfl, .inl (fl_byts hb _)⟩, trivial⟩
 ·refine ⟨Nat.le_refl _, fun n hn hd => ?_, fun _ => bdB_ok rfl⟩
  rw [lk_cons, if_neg (fun e => hd (by simp [e]))]
theorem byts_u8 : ∀ {cs : List Value}, (∀ x ∈ cs, isU8 x) → Byts cs
 | [], _ => ⟨rfl, fun n hn => by cases hn⟩
 | x :: cs, h => by
   obtain ⟨n, rfl, h1⟩ := h x (List.mem_cons_self ..)
   have ih := byts_u8 fun y hy => h y (List.mem_cons_of_mem _ hy)
   refine ⟨?_, fun k hk => ?_⟩
   ·have := ih.1
    show _ = Value.int .u8 n :: (intsOf cs).map (Value.int .u8)
    rw [← this]
   ·rcases List.mem_cons.1 (show k ∈ n :: intsOf cs from hk) with rfl | hk
    ·exact h1
    ·exact ih.2 k hk
theorem Stp.exdel {W : World} {σ : Sg} {h : Hp} {w w' : World} (hR : Rl W σ h w) {n : Nat} {r : Rw} (hl : lk h n = some r) (hx : Ext W w') (hz : w.heap.size ≤ w'.heap.size) (hk : ∀ k, k < w.heap.size → k ∉ ex σ n → w'.heap[k]? = w.heap[k]?) (lo : Nat) : Stp W lo lo σ h w σ (delH h n) w' := by
 have hd : ∀ m s, lk (delH h n) m = some s → lk h m = some s ∧ m ≠ n := fun m s e => by
  rw [lk_delH] at e
  split at e
  ·cases e
  ·rename_i hne; exact ⟨e, Ne.symm hne⟩
 refine Stp0.up ⟨Sg.le.refl σ, fun _ _ => ⟨rfl, rfl⟩, ⟨hx, fun m s e => ?_, fun m k s t p q a b => hR.inj m k s t p q (hd _ _ a).1 (hd _ _ b).1⟩, hz, fun b hb _ hnx => hk b hb (hnx n r hl), fun m s q e hs hq => .inr ⟨m, s, q, (hd _ _ e).1, hs, hq, rfl⟩⟩ hR.shr hR.wf (hR.shr.sub fun m s e => ⟨s, (hd _ _ e).1, fun h => h⟩)
 obtain ⟨e, hne⟩ := hd m s e
 refine (hR.row m s e).keep (Sg.le.refl σ) (fun ho p hp => hk _ (hR.lt e ho hp) fun h2 => (hR.shr.2.2 n r _ hl h2).2.1 m s p e ho hp rfl) (fun k hk2 => hk _ (hR.shr.2.1 m s k e hk2).1 fun h2 => ((hR.shr.2.2 n r _ hl h2).2.2 m s e).1 hk2) fun k hk2 => hk _ (hR.shr.2.2 m s k e hk2).1 fun h2 => hne (((hR.shr.2.2 n r _ hl h2).2.2 m s e).2 hk2)

structure Xs (W w0 : World) (G : List Nat) (w : World) (L : Blocks) : Prop where
 st : St W w L
 sz : w0.heap.size ≤ w.heap.size
 fr : ∀ k, k < w0.heap.size → k ∉ G → w.heap[k]? = w0.heap[k]?
 g : ∀ p, p ∈ L → p.1 ∈ G
theorem Xs.ext {W w0 : World} {G : List Nat} {w w' : World} {L : Blocks} (h : Xs W w0 G w L) (hx : Ext w w') : Xs W w0 G w' L :=
 ⟨h.st.ext hx, Nat.le_trans h.sz hx.size, fun k h1 h2 => (Below.block hx k (Nat.lt_of_lt_of_le h1 h.sz)).trans (h.fr k h1 h2), h.g⟩
theorem over_H (cs : List Value) (len : Nat) (h1 : len ≤ cs.length) (h2 : Byts cs) (h3 : cs.length ≤ 9223372036854775807) : ∃ nx' d, Tri Try.prog 20 [.slice (some ⟨0, 0, none⟩) len cs.length] [(0, ⟨.shut, cs⟩)] 1 (.tuple #[], [], nx', d) := by
 have hX : ∀ L, XOkZ (ovV L) Try.prog := fun L => noXz_ok rfl
 have hT : ∀ L, TOkZ (ovV L) Try.prog := fun L => noTz_okV rfl
 have hL : LOkZ (ovV (ovL Try.prog)) Try.prog := L_okV rfl (mkL_ok ov_spec_ok)
 refine ⟨_, _, run_tri (hX _) (hT _) hL (over_s cs len cs.length) ?_ rfl⟩
 simp only [Alls]
 repeat' (first | with_reducible exact trivial | with_reducible apply And.intro)
 all_goals first | with_reducible assumption | omega | with_reducible rfl | (skip)
theorem over_z  : runZ (ovV noL) Try.prog 5 20 [.slice (some ⟨0, 0, none⟩) 0 0] [(0, ⟨.old, []⟩)] 1 [false] =
 Res.ok ((Value.tuple (Array.mk []), [(0, Rw.mk Kd.old [])], 1, []), [], [0 < 18446744073709551616, 0 < 18446744073709551616, (0 : Int) ≤ (0 : Int) ∧ (0 : Int) ≤ (0 : Int), false = false]) := by kernel_rfl
theorem overZ (a : Option Addr) (w : World) : Calls Try.prog 20 #[.slice a 0 0] w fun e w' => e = .returned (.tuple #[]) ∧ Ext w w' := by
 have hX : ∀ L, XOkZ (ovV L) Try.prog := fun L => noXz_ok rfl
 have hT : ∀ L, TOkZ (ovV L) Try.prog := fun L => noTz_okV rfl
 have hL0 : LOkZ (ovV noL) Try.prog := noL_okV rfl
 refine calls_av [.sc [] 0 0] (vs := [.slice a 0 0]) (ps := [emp a]) (fun cs _ => ⟨_, _, _, run_tri (hX _) (hT _) hL0 over_z (by simp [Alls]) rfl⟩) (fun σ => rfl) ⟨⟨_, rfl, .inr ⟨a, rfl, rfl, rfl, rfl, rfl⟩, fun σ => rfl, by omega, Nat.le_refl _⟩, trivial⟩ fun j ad c hj b hb => ?_
 match j, hb with
 | 0, hb => simp only [List.getElem?_cons_zero, oI] at hb; subst hb; exact .inl rfl
 | j + 1, hb => simp at hb
theorem St.drop1 {W w : World} {L1 L2 : Blocks} {p : Nat × List Value} (h : St W w (L1 ++ p :: L2)) : W.heap.size ≤ p.1 ∧ Row w p.1 p.2 ∧ ∀ q, q ∈ L1 ++ L2 → q.1 ≠ p.1 := by
 obtain ⟨_, h1, h2⟩ := h
 obtain ⟨a1, a2⟩ := h1 p (by simp)
 refine ⟨a1, a2, fun q hq e => ?_⟩
 have : ((p :: (L1 ++ L2)).map (·.1)).Nodup := ((List.perm_middle (l₁ := L1) (l₂ := L2) (a := p)).map (·.1)).nodup_iff.1 h2
 rw [List.map_cons, List.nodup_cons] at this
 exact this.1 (List.mem_map.2 ⟨q, hq, e⟩)
theorem overX {W w0 : World} {G : List Nat} {w : World} {L1 L2 : Blocks} {b len : Nat} {cs : List Value} (h : Xs W w0 G w (L1 ++ (b, cs) :: L2)) (h1 : len ≤ cs.length) (h2 : Byts cs) (h3 : cs.length ≤ 9223372036854775807) :
  Calls Try.prog 20 #[.slice (some ⟨b, 0, none⟩) len cs.length] w fun e w' => e = .returned (.tuple #[]) ∧ Xs W w0 G w' (L1 ++ L2) := by
 obtain ⟨nx', d, T⟩ := over_H cs len h1 h2 h3
 obtain ⟨hge, ⟨t, hrow⟩, hne⟩ := h.st.drop1
 have hR0 : Rl W (sgO b) [(0, ⟨.shut, cs⟩)] w := rl_one h.st.x hge (fl_byts h2 _) hrow
 have hv0 : renV (sgO b) (.slice (some ⟨0, 0, none⟩) len cs.length) = some (.slice (some ⟨b, 0, none⟩) len cs.length) := by
  have := renV_slice_mk (σ := sgO b) (n := 0) (o := 0) (l := len) (c := cs.length) (c' := cs.length) (p := (b, 0)) rfl (by unfold cpR; rw [if_pos (by unfold capBig; omega)]) (by intro e; cases e) (.inr h1)
  simpa using this
 refine (T.2 (bdB_ok rfl) W _ w _ hR0 (fun k h1 _ => ⟨if_neg (by omega), rfl⟩) (renL_mk hv0 rfl)).mono ?_
 rintro e w' ⟨σ', u, S, hu, rfl⟩
 have keep : ∀ b', b' < w.heap.size → b' ≠ b → w'.heap[b']? = w.heap[b']? := fun b' h1 h2 => S.fr b' h1 (fun k r1 p1 hk1 _ hp1 => by
  rw [lk_cons] at hk1
  split at hk1
  ·rename_i e; subst e
   simp only [sgO, if_true, oI] at hp1
   rw [← hp1]; exact Ne.symm h2
  ·simp [lk] at hk1) fun k r1 _ hx => by cases hx
 have hu2 : u = .tuple #[] := by simp only [renV, renA, renL, oI] at hu; exact hu.symm
 refine ⟨by rw [hu2], ⟨S.rl.ext, fun p hp => ?_, ?_⟩, Nat.le_trans h.sz S.size, fun k h4 h5 => ?_, fun p hp => h.g p (by
  rcases List.mem_append.1 hp with hp | hp
  ·exact List.mem_append_left _ hp
  ·exact List.mem_append_right _ (List.mem_cons_of_mem _ hp))⟩
 ·have hp2 : p ∈ L1 ++ (b, cs) :: L2 := by
   rcases List.mem_append.1 hp with hp | hp
   ·exact List.mem_append_left _ hp
   ·exact List.mem_append_right _ (List.mem_cons_of_mem _ hp)
  obtain ⟨g1, g2⟩ := h.st.2.1 p hp2
  have hlt := g2.lt
  obtain ⟨t2, g2⟩ := g2
  exact ⟨g1, t2, by rw [keep _ hlt (hne p hp)]; exact g2⟩
 ·have := ((List.perm_middle (l₁ := L1) (l₂ := L2) (a := (b, cs))).map (·.1)).nodup_iff.1 h.st.2.2
  rw [List.map_cons, List.nodup_cons] at this
  exact this.2
 ·rw [keep k (Nat.lt_of_lt_of_le h4 h.sz) (fun e => h5 (by rw [e]; exact h.g (b, cs) (by simp)))]
  exact h.fr k h4 h5
def Sl1 (u : Value) (L : Blocks) : Prop := (∃ a, u = .slice a 0 0 ∧ L = []) ∨ ∃ b len cs, u = .slice (some ⟨b, 0, none⟩) len cs.length ∧ L = [(b, cs)] ∧ len ≤ cs.length ∧ Byts cs ∧ cs.length ≤ 9223372036854775807
theorem overS {W w0 : World} {G : List Nat} {w : World} {L0 L1 L2 : Blocks} {u : Value} (hu : Sl1 u L1) (h : Xs W w0 G w (L0 ++ (L1 ++ L2))) : Calls Try.prog 20 #[u] w fun e w' => e = .returned (.tuple #[]) ∧ Xs W w0 G w' (L0 ++ L2) := by
 rcases hu with ⟨a, rfl, rfl⟩ | ⟨b, len, cs, rfl, rfl, h1, h2, h3⟩
 ·exact (overZ a w).mono fun e w' ⟨h1, h2⟩ => ⟨h1, by simpa using h.ext h2⟩
 ·exact overX (by simpa using h) h1 h2 h3
def Elts : Nat → List Value → Blocks → Prop
 | 0, _, L => L = []
 | n + 1, us, L => ∃ u v g us' L1 L2 L3, us = u :: v :: g :: us' ∧ L = L1 ++ (L2 ++ L3) ∧ Sl1 u L1 ∧ Sl1 v L2 ∧ Elts n us' L3
section
variable {P : Program} {o : Oper} {a : Act} {W w0 w : World} {G : List Nat} {K : Act → World → Prop} {Q : Exit → Act → World → Prop} {L : Blocks}
theorem x_storeN (k : Nat) (hX : Xs W w0 G w L) (t : TypeId) (n : Nat) (x y : Operand) (ho : o.op = .store t x y) (b j : Nat) (hx : a.eval x = .pointer (some ⟨b, j, none⟩)) (vs : List Value) (hy : a.eval y = .agg vs.toArray) (hn : vs.length = n) (h1 : vs.all (·.oneCell') = true)
  (cs : List Value) (hk : L[k]? = some (b, cs)) (hj : j + n ≤ cs.length) (hs : szB P t n = true) (h : ∀ w', Xs W w0 G w' (L.set k (b, splice cs j vs)) → K (a.put o.dst undef) w') : o.wp P a w K Q := by
 obtain ⟨hb, hr⟩ := hX.st.2.row hk
 have hg := hX.g _ (List.mem_of_getElem? hk)
 subst hn
 refine wp_store_mid t x y ho b j vs.toArray hx hy (fun i hi => ⟨?_, hr.free _⟩) (by simpa using szB_of hs) (by simpa using h1) ?_
 ·rw [hr.cell, List.getElem?_eq_getElem (by simp at hi; omega)]; rfl
 ·refine h _ ⟨⟨by simpa using ext_setCells vs hX.st.1 hb j, by simpa using Has.setCells vs hX.st.2 hk j⟩, ?_, fun q h1 h2 => ?_, fun p hp => ?_⟩
  ·have := hX.sz
   simpa [setCells_size] using this
  ·have : q ≠ b := fun e => h2 (by rw [e]; exact hg)
   rw [← hX.fr q h1 h2]
   exact setCells_other _ _ _ _ _ this
  ·rcases List.mem_or_eq_of_mem_set hp with hp | rfl
   ·exact hX.g p hp
   ·exact hg
end
theorem splice_drop3 {cs : List Value} {j : Nat} {x y z : Value} (hj : j + 3 ≤ cs.length) : (splice cs j [x, y, z]).drop (j + 3) = cs.drop (j + 3) := by
 simp only [splice]
 rw [List.drop_set_of_lt (by omega), List.drop_set_of_lt (by omega), List.drop_set_of_lt (by omega)]
theorem drop3_get {cs : List Value} {j : Nat} {x y z : Value} {l : List Value} (h : cs.drop j = x :: y :: z :: l) : cs[j]? = some x ∧ cs[j + 1]? = some y ∧ j + 3 ≤ cs.length ∧ cs.drop (j + 3) = l := by
 have hl : (cs.drop j).length = l.length + 3 := by rw [h]; rfl
 rw [List.length_drop] at hl
 have e0 : (cs.drop j)[0]? = some x := by rw [h]; rfl
 have e1 : (cs.drop j)[1]? = some y := by rw [h]; rfl
 rw [List.getElem?_drop] at e0 e1
 refine ⟨by simpa using e0, e1, by omega, ?_⟩
 rw [← List.drop_drop, h]
 rfl
set_option maxHeartbeats 4000000 in
theorem overP {W w0 : World} {G : List Nat} {w : World} {b n c : Nat} {cs : List Value} {L : Blocks} (hX : Xs W w0 G w ((b, cs) :: L)) (hn : n ≤ 9223372036854775807) (hE : Elts n cs L) :
  Calls Try.prog 19 #[.slice (some ⟨b, 0, none⟩) n c] w fun e w' => e = .returned (.tuple #[]) ∧ Xs W w0 G w' [] := by
 have hX := Lib.hid hX
 have hE := Lib.hid hE
 go_enter Try.func19, Try.ntmps19
 (repeat' (first | fail | go_values | go_skip | go_guarded | go_step | go_upon | go_back | dsimp only))
 go_loopw [2] (fun i wr => ∃ (k : Nat) (cs : List Value) (L : Blocks), i = .int .i64 (k : Int) ∧ k ≤ n ∧ Hid (Xs W w0 G wr ((b, cs) :: L)) ∧ Hid (Elts (n - k) (cs.drop (k * 3)) L)) (fun i _ => n - (intOf i).toNat)
 case atStart => exact ⟨0, cs, L, rfl, by omega, hX, by simpa using hE⟩
 case round =>
  clear hX hE
  obtain ⟨k, cs, L, rfl, hk, hX, hE⟩ := hrel
  by_cases hlt : k < n
  ·have hlt2 : (k : Int) < n := by omega
   obtain ⟨m, hm⟩ : ∃ m, n - k = m + 1 := ⟨n - k - 1, by omega⟩
   have hE' := hE.out
   rw [hm] at hE'
   obtain ⟨u, v, g, us', L1, L2, L3, e1, rfl, h1, h2, h3⟩ := hE'
   obtain ⟨c0, c1, c2, c3⟩ := drop3_get e1
   have HC0 := Lib.hid c0
   have HC1 := Lib.hid c1
   clear hE e1 c0 c1
   (repeat' (first | ((with_reducible refine g_load ?_); (refine s_load1 0 (hX.out).st _ _ rfl _ _ rfl _ rfl _ ((by simpa using HC0.out)) (by kernel_rfl) ?_; (try simp only [Act.put, List.setIfInBounds_toArray, List.set_cons_zero, List.set_cons_succ]))) | go_values | go_skip | go_guarded | go_step | go_upon | go_back | dsimp only))
   (go_at_call 20; refine ((overS (L0 := [(b, cs)]) h1 hX.out)).mono ?_; rintro e w1 ⟨rfl, hX1⟩; replace hX := Lib.hid hX1; clear hX1)
   (repeat' (first | ((with_reducible refine g_load ?_); (refine s_load1 0 (hX.out).st _ _ rfl _ _ rfl _ rfl _ ((by simpa using HC1.out)) (by kernel_rfl) ?_; (try simp only [Act.put, List.setIfInBounds_toArray, List.set_cons_zero, List.set_cons_succ]))) | go_values | go_skip | go_guarded | go_step | go_upon | go_back | dsimp only))
   (go_at_call 20; refine ((overS (L0 := [(b, cs)]) h2 hX.out)).mono ?_; rintro e w2 ⟨rfl, hX1⟩; replace hX := Lib.hid hX1; clear hX1)
   (repeat' (first | ((with_reducible refine g_store ?_); (refine x_storeN 0 hX.out 32 3 _ _ rfl _ _ rfl _ rfl rfl rfl _ rfl (by simpa using c2) (by kernel_rfl) ?_; clear hX; intro w_ hX1; have hX := Lib.hid hX1; clear hX1; (try simp only [Act.put, List.setIfInBounds_toArray, List.set_cons_zero, List.set_cons_succ]))) | go_values | go_skip | go_guarded | go_step | go_upon | go_back | dsimp only))
   refine ⟨⟨k + 1, splice cs (k * 3) [.slice none 0 0, .slice none 0 0, .bool false], L3, by go_num, by omega, ?_, ?_⟩, by simp [intOf]; omega⟩
   ·have := hX.out
    rw [List.cons_append, List.nil_append, List.set_cons_zero] at this
    exact this
   ·show Elts _ _ _
    rw [show (k + 1) * 3 = k * 3 + 3 by omega, splice_drop3 c2, c3, show n - (k + 1) = m by omega]
    exact h3
  ·have hkn : k = n := by omega
   have hE' := hE.out
   rw [show n - k = 0 by omega] at hE'
   have hL : L = [] := hE'
   subst hL
   have hX' := hX.out
   have HXF : Hid (Xs W w0 G wr []) := ⟨hX'.st.tail, hX'.sz, hX'.fr, fun p hp => by cases hp⟩
   clear hX hE hE' hX'
   (repeat' (first | fail | go_values | go_skip | go_guarded | go_step | go_upon | go_back | dsimp only))
   go_end0
   exact ⟨rfl, HXF.out⟩
theorem overP0 (a : Option Addr) (c : Nat) (w : World) : Calls Try.prog 19 #[.slice a 0 c] w fun e w' => e = .returned (.tuple #[]) ∧ Ext w w' := by
 have hS := St.refl w
 go_enter Try.func19, Try.ntmps19
 (repeat' (first | fail | go_values | go_skip | go_guarded | go_step | go_upon | go_back | dsimp only))
 go_loopw [2] (fun i wr => i = .int .i64 0 ∧ St w wr []) (fun i _ => 0)
 case atStart => exact ⟨rfl, hS⟩
 case round =>
  obtain ⟨rfl, hS⟩ := hrel
  (repeat' (first | fail | go_values | go_skip | go_guarded | go_step | go_upon | go_back | dsimp only))
  go_end0
  exact ⟨rfl, hS.x⟩
def PairDs : List DV → Prop
 | [] => True
 | .sl _ _ _ :: .sl _ _ _ :: _ :: ds => PairDs ds
 | _ => False
theorem cx_sl1 {V W w : World} {d : DV} {u : Value} {E F : List Nat} {len : Nat} {cap : Option Nat} {ds : List DV} (hd : d = .sl len cap ds) (hc : CX w 1 u E) (hr : DR V w F d u) : ∃ L : Blocks, Sl1 u L ∧ L.map (·.1) = E ∧ ∀ p ∈ L, Row w p.1 p.2 := by
 subst hd
 rcases hc with ⟨rfl, hc⟩ | ⟨rfl, a, rfl⟩ | ⟨b, l, c, size, t, cs, E', rfl, h1, h2, h3, h4, h5, rfl, h6⟩
 ·refine ⟨[], .inl ?_, rfl, fun p hp => by cases hp⟩
  rw [DR] at hr
  rcases hr with ⟨_, _, _, a, rfl⟩ | ⟨b, s, c, rfl, _⟩
  ·exact ⟨a, rfl, rfl⟩
  ·have := hc sg0
   simp [renV, slR, adR, sg0] at this
 ·exact ⟨[], .inl ⟨a, rfl, rfl⟩, rfl, fun p hp => by cases hp⟩
 ·obtain rfl := h5 rfl
  have hb : Byts cs ∧ E' = [] := by
   have : ∀ (us : List Value) (E : List Nat), Sep (CX w 0) us E → (∀ x ∈ us, isU8 x) ∧ E = [] := by
    intro us
    induction us with
    | nil => intro E h; exact ⟨fun x hx => (by cases hx), h⟩
    | cons x us ih =>
     intro E h
     obtain ⟨E1, E2, rfl, ⟨rfl, g1⟩, g2⟩ := h
     obtain ⟨g3, rfl⟩ := ih E2 g2
     exact ⟨fun y hy => by
      rcases List.mem_cons.1 hy with rfl | hy
      ·exact g1
      ·exact g3 y hy, rfl⟩
   obtain ⟨g1, g2⟩ := this cs E' h6
   exact ⟨byts_u8 g1, g2⟩
  obtain ⟨hb, rfl⟩ := hb
  have hlen : cs.length = c := by omega
  refine ⟨[(b, cs)], .inr ⟨b, l, cs, by rw [hlen], rfl, by omega, hb, by unfold maxLen at h2; omega⟩, rfl, fun p hp => ?_⟩
  obtain rfl := List.mem_singleton.1 hp
  exact ⟨t, h3⟩
theorem cx_elts {V w : World} {F : List Nat} : ∀ (n : Nat) {ds : List DV} {us : List Value} {E : List Nat}, ds.length = n * 3 → PairDs ds → Sep (CX w 1) us E → DRv V w F ds us → ∃ L : Blocks, Elts n us L ∧ (∀ q, q ∈ L.map (·.1) → q ∈ E) ∧ (E.Nodup → (L.map (·.1)).Nodup) ∧ ∀ p ∈ L, Row w p.1 p.2
 | 0, ds, us, E, _, _, _, _ => ⟨[], rfl, fun q hq => (by cases hq), fun _ => List.nodup_nil, fun p hp => (by cases hp)⟩
 | n + 1, ds, us, E, hl, hp, hs, hd => by
   match ds, hl, hp, hd with
   | [], hl, _, _ => simp at hl
   | .sl l1 c1 d1 :: .sl l2 c2 d2 :: x :: ds, hl, hp, hd =>
    obtain ⟨u1, us1, rfl, r1, hd⟩ := hd
    obtain ⟨u2, us2, rfl, r2, hd⟩ := hd
    obtain ⟨u3, us3, rfl, r3, hd⟩ := hd
    obtain ⟨E1, E1', rfl, s1, hs⟩ := hs
    obtain ⟨E2, E2', rfl, s2, hs⟩ := hs
    obtain ⟨E3, E3', rfl, s3, hs⟩ := hs
    obtain ⟨L1, a1, rfl, a3⟩ := cx_sl1 (W := w) rfl s1 r1
    obtain ⟨L2, b1, rfl, b3⟩ := cx_sl1 (W := w) rfl s2 r2
    have hl2 : ds.length = n * 3 := by simp only [List.length_cons] at hl; omega
    obtain ⟨L3, d1', d2', d3, d4⟩ := cx_elts n hl2 hp hs hd
    refine ⟨L1 ++ (L2 ++ L3), ⟨u1, u2, u3, us3, L1, L2, L3, rfl, rfl, a1, b1, d1'⟩, fun q hq => ?_, fun hn => ?_, fun p hp => ?_⟩
    ·simp only [List.map_append, List.mem_append] at hq ⊢
     rcases hq with hq | hq | hq
     ·exact .inl hq
     ·exact .inr (.inl hq)
     ·exact .inr (.inr (.inr (d2' q hq)))
    ·simp only [List.map_append]
     rw [List.nodup_append] at hn ⊢
     obtain ⟨n1, n2, n3⟩ := hn
     rw [List.nodup_append] at n2
     obtain ⟨n4, n5, n6⟩ := n2
     rw [List.nodup_append] at n5
     refine ⟨n1, List.nodup_append.2 ⟨n4, d3 n5.2.1, fun q hq q' hq' => n6 q hq q' (List.mem_append_right _ (d2' q' hq'))⟩, fun q hq q' hq' => n3 q hq q' ?_⟩
     rcases List.mem_append.1 hq' with hq' | hq'
     ·exact List.mem_append_left _ hq'
     ·exact List.mem_append_right _ (List.mem_append_right _ (d2' q' hq'))
    ·simp only [List.mem_append] at hp
     rcases hp with hp | hp | hp
     ·exact a3 p hp
     ·exact b3 p hp
     ·exact d4 p hp
theorem Xs.part {W w0 : World} {G : List Nat} {w : World} {L0 L1 L2 : Blocks} (h : Xs W w0 G w (L0 ++ (L1 ++ L2))) : Xs W w (L1.map (·.1)) w L1 := by
 refine ⟨⟨h.st.1, fun p hp => h.st.2.1 p (List.mem_append_right _ (List.mem_append_left _ hp)), ?_⟩, Nat.le_refl _, fun _ _ _ => rfl, fun p hp => List.mem_map.2 ⟨p, hp, rfl⟩⟩
 have := h.st.2.2
 rw [List.map_append, List.map_append] at this
 exact (List.nodup_append.1 (List.nodup_append.1 this).2.1).1
theorem Xs.rest {W w0 : World} {G : List Nat} {w w' : World} {L0 L1 L2 : Blocks} (h : Xs W w0 G w (L0 ++ (L1 ++ L2))) (h1 : Xs W w (L1.map (·.1)) w' []) : Xs W w0 G w' (L0 ++ L2) := by
 have hn := h.st.2.2
 rw [List.map_append, List.map_append] at hn
 obtain ⟨n1, n2, n3⟩ := List.nodup_append.1 hn
 obtain ⟨n4, n5, n6⟩ := List.nodup_append.1 n2
 have up : ∀ p, p ∈ L0 ++ L2 → p ∈ L0 ++ (L1 ++ L2) := fun p hp => (List.mem_append.1 hp).elim (fun h => List.mem_append_left _ h) fun h => List.mem_append_right _ (List.mem_append_right _ h)
 have out : ∀ p, p ∈ L0 ++ L2 → p.1 ∉ L1.map (·.1) := fun p hp hq => by
  rcases List.mem_append.1 hp with hp | hp
  ·exact n3 p.1 (List.mem_map.2 ⟨p, hp, rfl⟩) p.1 (List.mem_append_left _ hq) rfl
  ·exact n6 p.1 hq p.1 (List.mem_map.2 ⟨p, hp, rfl⟩) rfl
 refine ⟨⟨h1.st.1, fun p hp => ?_, ?_⟩, Nat.le_trans h.sz h1.sz, fun k hk hG => ?_, fun p hp => h.g p (up p hp)⟩
 ·obtain ⟨a1, a2⟩ := h.st.2.1 p (up p hp)
  have hlt := a2.lt
  obtain ⟨t, a2⟩ := a2
  exact ⟨a1, t, by rw [h1.fr p.1 hlt (out p hp)]; exact a2⟩
 ·rw [List.map_append]
  exact List.nodup_append.2 ⟨n1, n5, fun q hq q' hq' => n3 q hq q' (List.mem_append_right _ hq')⟩
 ·rw [h1.fr k (Nat.lt_of_lt_of_le hk h.sz) (fun hq => hG (by
   obtain ⟨p, hp, rfl⟩ := List.mem_map.1 hq
   exact h.g p (List.mem_append_right _ (List.mem_append_left _ hp))))]
  exact h.fr k hk hG
theorem overPF {W w0 : World} {G : List Nat} {w : World} {b n c : Nat} {cs : List Value} {L L0 L2 : Blocks} (hX : Xs W w0 G w (L0 ++ (((b, cs) :: L) ++ L2))) (hn : n ≤ 9223372036854775807) (hE : Elts n cs L) :
  Calls Try.prog 19 #[.slice (some ⟨b, 0, none⟩) n c] w fun e w' => e = .returned (.tuple #[]) ∧ Xs W w0 G w' (L0 ++ L2) :=
 (overP hX.part hn hE).mono fun e w' ⟨h1, h2⟩ => ⟨h1, hX.rest h2⟩
open Go.ChangeShapes Go.WideShapes Go.ChangeAt Go.RowKit

section
variable {H : Type} {enc : TypeId × Value → H} {P : Program} {w : World} {base : Nat} {spare : Nat → Bool} {held : Bool}

end
open Go.ChangeShapes Go.WideShapes Go.ChangeAt Go.RowKit
section
variable {H : Type} {enc : TypeId × Value → H} {P : Program} {w : World} {base : Nat} {spare : Nat → Bool} {held : Bool}
end
theorem rb_rec {lo N : Nat} {ρ : Nat → Nat} {h0 h1 : Hp} {n m : Nat} {kd : Kd} (hn : fnN lo N ρ n = some m) (hl : lk h1 m = some ⟨kd, []⟩) (hk : recKd (sgf lo N ρ) kd) : RbRow lo N ρ h0 h1 n ⟨kd, []⟩ :=
 ⟨m, _, hn, hl, rfl, hk, .inl rfl⟩
open Go.ChangeShapes Go.WideShapes Go.ChangeAt Go.RowKit

section
variable {H : Type} {enc : TypeId × Value → H} {P : Program} {W : World}
end
section
open Go Go.ChangeShapes Go.WideShapes Go.ChangeAt Go.RowKit

inductive Sh where
 | i (k : IntKind)
 | b
 | st
 | sl (sub : List Sh)
def shFields (P : Program) (rec : TypeId → Option (List Sh)) : List Field → Nat → Option (List Sh)
 | [], _ => some []
 | f :: fs, off =>
  match rec f.type with
  | some l => if f.offset = off ∧ P.cellsOf f.type = l.length then (shFields P rec fs (off + l.length)).map (l ++ ·) else none
  | none => none
def shK (P : Program) : Nat → TypeId → Option (List Sh)
 | 0, _ => none
 | n + 1, t =>
  match P.underlying t with
  | some (.int k) => some [.i k]
  | some .bool => some [.b]
  | some .string => some [.st]
  | some (.slice e) => (shK P n e).bind fun l => if P.cellsOf e = l.length ∧ 0 < l.length then some [.sl l] else none
  | some (.struct fs) => (shFields P (shK P n) fs.toList 0).bind fun l => if P.cellsOf t = l.length then some l else none
  | some (.array m e) => (shK P n e).bind fun l => if P.cellsOf e = l.length ∧ P.cellsOf t = m * l.length then some (List.replicate m l).flatten else none
  | _ => none
mutual
def ShOk : Sh → DV → Prop
 | .i k, d => ∃ z, d = .fl (.int k z) ∧ (Lit.int k z).wf = true
 | .b, d => ∃ x, d = .fl (.bool x)
 | .st, d => ∃ x : ByteArray, d = .fl (.string x) ∧ x.size ≤ maxLen
 | .sl l, d => ∃ len cap rows, d = .sl len (some cap) (List.flatten rows) ∧ len ≤ cap ∧ cap ≤ 9223372036854775807 ∧ rows.length = len ∧ ∀ r, r ∈ rows → ShsOk l r
def ShsOk : List Sh → List DV → Prop
 | [], ds => ds = []
 | s :: l, ds => ∃ d ds', ds = d :: ds' ∧ ShOk s d ∧ ShsOk l ds'
end
theorem ShsOk.len : ∀ {l : List Sh} {ds : List DV}, ShsOk l ds → ds.length = l.length
 | [], ds, h => by simp only [ShsOk] at h; subst h; rfl
 | s :: l, ds, h => by simp only [ShsOk] at h; obtain ⟨d, ds', rfl, _, h⟩ := h; simp [h.len]
theorem ShsOk.app : ∀ {l m : List Sh} {ds es : List DV}, ShsOk l ds → ShsOk m es → ShsOk (l ++ m) (ds ++ es)
 | [], m, ds, es, h, k => by simp only [ShsOk] at h; subst h; exact k
 | s :: l, m, ds, es, h, k => by
   simp only [ShsOk] at h
   obtain ⟨d, ds', rfl, h1, h2⟩ := h
   simp only [List.cons_append, ShsOk]
   exact ⟨d, ds' ++ es, rfl, h1, h2.app k⟩
theorem DRv.len {W w : World} {F : List Nat} : ∀ {ds : List DV} {us : List Value}, DRv W w F ds us → us.length = ds.length
 | [], us, h => by simp only [DRv] at h; subst h; rfl
 | d :: ds, us, h => by simp only [DRv] at h; obtain ⟨u, us', rfl, _, h⟩ := h; simp [DRv.len h]
theorem DRv.app {W w : World} {F : List Nat} : ∀ {ds es : List DV} {us vs : List Value}, DRv W w F ds us → DRv W w F es vs → DRv W w F (ds ++ es) (us ++ vs)
 | [], es, us, vs, h, k => by simp only [DRv] at h; subst h; exact k
 | d :: ds, es, us, vs, h, k => by
   simp only [DRv] at h
   obtain ⟨u, us', rfl, h1, h2⟩ := h
   simp only [List.cons_append, DRv]
   exact ⟨u, us' ++ vs, rfl, h1, h2.app k⟩
theorem DRv.cells {W : World} {b : Nat} (hb : b < W.heap.size) : ∀ {ds : List DV} {us : List Value} {s : Nat} {es : List DV}, DRv W W [] ds us → (∀ j u, us[j]? = some u → W.cell? ⟨b, s + j, none⟩ = some u) → DRs W W [] b (s + ds.length) es → DRs W W [] b s (ds ++ es)
 | [], us, s, es, h, hc, he => by simpa using he
 | d :: ds, us, s, es, h, hc, he => by
   simp only [DRv] at h
   obtain ⟨u, us', rfl, h1, h2⟩ := h
   simp only [List.cons_append, DRs]
   refine ⟨⟨u, .inl ⟨hb, hc 0 u rfl⟩, h1⟩, DRv.cells hb h2 (fun j x hj => ?_) ?_⟩
   ·have := hc (j + 1) x (by simpa using hj)
    rwa [show s + (j + 1) = s + 1 + j by omega] at this
   ·rwa [List.length_cons, show s + (ds.length + 1) = s + 1 + ds.length by omega] at he
section
variable {H : Type} {enc : TypeId × Value → H} {P : Program} {W : World}
theorem sh_fields {n : Nat} (ih : ∀ t l, shK P n t = some l → ∀ fuel cs x, DataW.trod enc P W 0 (fun _ => true) true fuel t cs = some x → ∃ ds, ShsOk l ds ∧ DRv W W [] ds cs) {m : Nat} {cs : List Value} :
  ∀ (fs : List Field) (off : Nat) (ls : List Sh), shFields P (shK P n) fs off = some ls → off + ls.length ≤ cs.length →
   (∀ f ∈ fs, ∃ y, DataW.trod enc P W 0 (fun _ => true) true m f.type ((cs.drop f.offset).take (P.cellsOf f.type)) = some y) →
   ∃ ds, ShsOk ls ds ∧ DRv W W [] ds ((cs.drop off).take ls.length)
 | [], off, ls, h, _, _ => by
   simp only [shFields, oI] at h
   subst h
   exact ⟨[], rfl, by simp [DRv]⟩
 | f :: fs, off, ls, h, hl, hf => by
   simp only [shFields] at h
   split at h
   ·rename_i l hrec
    split at h
    ·rename_i hc
     obtain ⟨ho, hcl⟩ := hc
     simp only [Option.map_eq_some_iff] at h
     obtain ⟨l2, h2, rfl⟩ := h
     obtain ⟨y, hy⟩ := hf f (by simp)
     rw [ho, hcl] at hy
     obtain ⟨d1, hz1, hc1⟩ := ih _ _ hrec _ _ _ hy
     rw [List.length_append] at hl
     obtain ⟨d2, hz2, hc2⟩ := sh_fields ih fs (off + l.length) l2 h2 (by omega) (fun g hg => hf g (by simp [hg]))
     refine ⟨d1 ++ d2, hz1.app hz2, ?_⟩
     have := hc1.app hc2
     rwa [← List.drop_drop, ← List.take_add, ← List.length_append] at this
    ·cases h
   ·cases h
theorem sh_rows {l : List Sh} {b : Nat} (hb : b < W.heap.size) {off : Nat} : ∀ (k i : Nat), (∀ j, i ≤ j → j < i + k → ∃ ds, ShsOk l ds ∧ ∃ us, DRv W W [] ds us ∧ ∀ q u, us[q]? = some u → W.cell? ⟨b, off + (j * l.length + q), none⟩ = some u) →
  ∃ rows : List (List DV), rows.length = k ∧ ((∀ r, r ∈ rows → ShsOk l r) ∧ DRs W W [] b (off + i * l.length) rows.flatten)
 | 0, i, _ => ⟨[], rfl, (fun r h => (nomatch h)), by simp only [List.flatten_nil, DRs]; exact .inl hb⟩
 | k + 1, i, h => by
   obtain ⟨rows, h1, h2, h3⟩ := sh_rows hb k (i + 1) fun j a b => h j (by omega) (by omega)
   obtain ⟨ds, g1, us, g2, g3⟩ := h i (Nat.le_refl _) (by omega)
   refine ⟨ds :: rows, by simp [h1], fun r hr => ?_, ?_⟩
   ·rcases List.mem_cons.1 hr with rfl | hr
    ·exact g1
    ·exact h2 r hr
   ·rw [List.flatten_cons]
    refine DRv.cells hb g2 (fun j u hj => ?_) ?_
    ·rw [Nat.add_assoc]; exact g3 j u hj
    ·rwa [g1.len, show off + i * l.length + l.length = off + (i + 1) * l.length by rw [Nat.add_mul]; omega]
theorem sh_open : ∀ (n : Nat) (t : TypeId) (l : List Sh), shK P n t = some l → ∀ fuel cs x, DataW.trod enc P W 0 (fun _ => true) true fuel t cs = some x → ∃ ds, ShsOk l ds ∧ DRv W W [] ds cs
 | 0, _, _, h => by simp [shK] at h
 | n + 1, t, l, h => by
   intro fuel cs x hx
   have one : ∀ {s : Sh} {d : DV} {u : Value}, ShOk s d → DR W W [] d u → ∃ ds, ShsOk [s] ds ∧ DRv W W [] ds [u] := fun h1 h2 => ⟨[_], by simp only [ShsOk]; exact ⟨_, [], rfl, h1, rfl⟩, by simp only [DRv]; exact ⟨_, [], rfl, h2, rfl⟩⟩
   simp only [shK] at h
   split at h
   ·rename_i k hk
    simp only [oI] at h
    subst h
    obtain ⟨z, rfl, _, hw⟩ := DataW.trod_int hk hx
    exact one (by simp only [ShOk]; exact ⟨z, rfl, hw⟩) (by rw [DR]; exact ⟨rfl, fun σ => rfl⟩)
   ·rename_i hk
    simp only [oI] at h
    subst h
    obtain ⟨z, rfl, _⟩ := DataW.trod_bool hk hx
    exact one (by simp only [ShOk]; exact ⟨z, rfl⟩) (by rw [DR]; exact ⟨rfl, fun σ => rfl⟩)
   ·rename_i hk
    simp only [oI] at h
    subst h
    obtain ⟨z, rfl, _, hw⟩ := DataW.trod_string hk hx
    exact one (by simp only [ShOk]; exact ⟨z, rfl, hw⟩) (by rw [DR]; exact ⟨rfl, fun σ => rfl⟩)
   ·rename_i e hk
    simp only [Option.bind_eq_some_iff] at h
    obtain ⟨sub, hsub, h⟩ := h
    split at h
    ·rename_i hc
     obtain ⟨hc1, hpos⟩ := hc
     simp only [oI] at h
     subst h
     rcases DataW.trod_slice hk hx with ⟨rfl, _⟩ | ⟨a, len, cap, elems, rest, m, _, rfl, _, _, hl, hm, hlen, hel, hre, _⟩
     ·exact one (by simp only [ShOk]; exact ⟨0, 0, [], rfl, Nat.le_refl _, by omega, rfl, fun r hr => (nomatch hr)⟩) (by rw [DR]; exact .inl ⟨rfl, rfl, .inr rfl, _, rfl⟩)
     ·have hcm : cap ≤ 9223372036854775807 := by unfold maxLen at hm; omega
      rcases Nat.eq_zero_or_pos cap with h0 | h0
      ·subst h0
       obtain rfl : len = 0 := by omega
       exact one (by simp only [ShOk]; exact ⟨0, 0, [], rfl, Nat.le_refl _, by omega, rfl, fun r hr => (nomatch hr)⟩) (by rw [DR]; exact .inl ⟨rfl, rfl, .inr rfl, _, rfl⟩)
      ·obtain ⟨hr1, hr2⟩ := hre rfl
       have ex : ∀ i, i < cap → ∃ y, (W.cells? 0 (a.add (i * P.cellsOf e)) (P.cellsOf e)).bind (DataW.trod enc P W 0 (fun _ => true) true m e) = some y := fun i hi => by
        by_cases hil : i < len
        ·exact ⟨elems[i]'(by omega), by rw [hel i hil, List.getElem?_eq_getElem]⟩
        ·have := hr2 (i - len) (by omega)
         rw [show len + (i - len) = i by omega] at this
         exact ⟨rest[i - len]'(by omega), by rw [this, List.getElem?_eq_getElem]⟩
       have spot : a.spot = none ∧ a.block < W.heap.size := by
        obtain ⟨y, hy⟩ := ex 0 h0
        rw [Option.bind_eq_some_iff] at hy
        obtain ⟨cs0, h2, _⟩ := hy
        obtain ⟨_, h4, h5⟩ := World.cells?_some h2
        have h6 := h5 0 (by omega)
        obtain ⟨u, hu⟩ : ∃ u, cs0[0]? = some u := ⟨cs0[0]'(by omega), List.getElem?_eq_getElem _⟩
        rw [hu] at h6
        obtain ⟨b, off, sp⟩ := a
        cases sp with
        | none =>
         rw [add_plain, add_plain] at h6
         exact ⟨rfl, cell_lt h6⟩
        | some s =>
         exfalso
         have : ((({ block := b, off := off, spot := some s } : Addr).add (0 * P.cellsOf e)).add 0).spot.isSome = true := by
          unfold Addr.add
          split <;> split <;> simp_all
         unfold World.cell? at h6
         split at h6
         ·rw [if_pos this] at h6; cases h6
         ·cases h6
       obtain ⟨b, off, sp⟩ := a
       obtain ⟨hsp, hblk⟩ := spot
       simp only at hsp hblk
       subst hsp
       obtain ⟨rows, g1, g2, g3⟩ := sh_rows (W := W) (l := sub) hblk (off := off) len 0 fun j _ hj => by
        obtain ⟨y, hy⟩ := ex j (by omega)
        rw [Option.bind_eq_some_iff] at hy
        obtain ⟨cs0, h2, h3⟩ := hy
        obtain ⟨ds, h7, h8⟩ := sh_open n e sub hsub _ _ _ h3
        obtain ⟨_, h4, h5⟩ := World.cells?_some h2
        refine ⟨ds, h7, cs0, h8, fun q u hq => ?_⟩
        have hq2 := (List.getElem?_eq_some_iff.1 hq).1
        have h6 := h5 q (by omega)
        rw [add_plain, add_plain, hc1, hq, Nat.add_assoc] at h6
        exact h6
       rw [Nat.zero_mul, Nat.add_zero] at g3
       exact one (by simp only [ShOk]; exact ⟨len, cap, rows, rfl, hl, hcm, g1, g2⟩) (by rw [DR]; exact .inr ⟨b, off, cap, rfl, ⟨hl, fun k e => (by cases e; exact ⟨rfl, hl, hcm⟩)⟩, .inr g3⟩)
    ·cases h
   ·rename_i fs hs
    simp only [Option.bind_eq_some_iff] at h
    obtain ⟨l0, hl, h⟩ := h
    split at h
    ·rename_i hc
     simp only [oI] at h
     subst h
     obtain ⟨xs, m, _, _, hlen, hxl, hg⟩ := DataW.trod_struct hs hx
     have hlen' : cs.length = l0.length := by rw [hlen, hc]
     obtain ⟨ds, hz, hcs⟩ := sh_fields (sh_open n) (m := m) (cs := cs) fs.toList 0 l0 hl (by omega) (fun f hf => by
      obtain ⟨i, hi, e⟩ := List.getElem_of_mem hf
      have hi' : i < fs.size := by simpa using hi
      have h1 := hg i f (by rw [Array.getElem?_eq_getElem hi']; simpa using e)
      exact ⟨xs[i]'(by omega), by rw [h1, List.getElem?_eq_getElem]⟩)
     rw [List.drop_zero, List.take_of_length_le (by omega)] at hcs
     exact ⟨ds, hz, hcs⟩
    ·cases h
   ·rename_i m e hs
    simp only [Option.bind_eq_some_iff] at h
    obtain ⟨l0, hl, h⟩ := h
    split at h
    ·rename_i hc
     obtain ⟨hc1, hc2⟩ := hc
     simp only [oI] at h
     subst h
     have key : ∃ m', cs.length = P.cellsOf t ∧ ∀ i, i < m → ∃ y, DataW.trod enc P W 0 (fun _ => true) true m' e ((cs.drop (i * P.cellsOf e)).take (P.cellsOf e)) = some y := by
      cases fuel with
      | zero => simp [DataW.trod] at hx
      | succ m' =>
       unfold DataW.trod at hx
       rw [hs] at hx
       simp only at hx
       split at hx
       ·rename_i hcl
        simp only [Option.map_eq_some_iff] at hx
        obtain ⟨xs, hxs, _⟩ := hx
        refine ⟨m', hcl, fun i hi => ?_⟩
        have h1 := mapM_some_get hxs i i (by simp [hi])
        have h2 := mapM_some_length hxs
        simp at h2
        exact ⟨xs[i]'(by omega), by rw [h1, List.getElem?_eq_getElem]⟩
       ·cases hx
     obtain ⟨m', hcl, hel⟩ := key
     rw [hc1] at hel
     rw [hc2] at hcl
     have main : ∀ j, j ≤ m → ∃ ds, ShsOk (List.replicate j l0).flatten ds ∧ DRv W W [] ds (cs.take (j * l0.length)) := by
      intro j
      induction j with
      | zero => intro _; exact ⟨[], rfl, by simp [DRv]⟩
      | succ j ihj =>
       intro hj
       obtain ⟨ds, hz, hcs⟩ := ihj (by omega)
       obtain ⟨y, hy⟩ := hel j (by omega)
       obtain ⟨ds2, hz2, hcs2⟩ := sh_open n _ _ hl _ _ _ hy
       rw [List.replicate_succ', List.flatten_append]
       simp only [List.flatten_cons, List.flatten_nil, List.append_nil]
       refine ⟨ds ++ ds2, hz.app hz2, ?_⟩
       have := hcs.app hcs2
       rwa [← List.take_add, show j * l0.length + l0.length = (j + 1) * l0.length by rw [Nat.add_mul]; omega] at this
     obtain ⟨ds, hz, hcs⟩ := main m (Nat.le_refl _)
     rw [List.take_of_length_le (by omega)] at hcs
     exact ⟨ds, hz, hcs⟩
    ·cases h
   ·cases h
end

inductive DA where
 | fl (v : Value)
 | sl (xs : List Value) (len cap : Nat)
 | dl (ds : List DV) (len cap : Nat)
def DA.at (W : World) (u : Value) : DA → Prop
 | .fl v => u = v ∧ ∀ σ, renV σ v = some v
 | .sl xs len cap => (cap = 0 → xs = []) ∧ DR W W [] (.sl len (some cap) (xs.map DV.fl)) u
 | .dl ds len cap => (cap = 0 → ds = []) ∧ DR W W [] (.sl len (some cap) ds) u
theorem DRs.flt {W : World} {b : Nat} : ∀ {xs : List Value} {s : Nat}, DRs W W [] b s (xs.map DV.fl) → b < W.heap.size ∧ (∀ j v, xs[j]? = some v → W.cell? ⟨b, s + j, none⟩ = some v) ∧ ∀ σ, renL σ xs = some xs
 | [], s, h => by
   simp only [List.map_nil, DRs] at h
   exact ⟨h.resolve_right (fun e => nomatch e), (fun j v e => by simp at e), fun σ => rfl⟩
 | x :: xs, s, h => by
   simp only [List.map_cons, DRs, DR] at h
   obtain ⟨⟨v, h1, rfl, h2⟩, h3⟩ := h
   obtain ⟨g1, g2, g3⟩ := DRs.flt h3
   refine ⟨g1, fun j y e => ?_, fun σ => by simp only [renL, h2 σ, g3 σ]⟩
   cases j with
   | zero =>
    simp only [List.getElem?_cons_zero, oI] at e
    subst e
    rcases h1 with h1 | h1
    ·exact h1.2
    ·exact absurd h1.1 (by simp)
   | succ j =>
    have := g2 j y (by simpa using e)
    rwa [show s + 1 + j = s + (j + 1) by omega] at this
theorem open_dp {H : Type} {enc : TypeId × Value → H} {P : Program} {W : World} {t e : TypeId} {sub : List Sh} {v : Value} {d : DataW H} {ps : List MemPlace} {b0 : Nat} (ht : shK P 9 t = some [.sl sub]) (hu : P.underlying t = some (.slice e))
  (hv : Value.okWide P W .any b0 t v) (h : DataW.Trod enc P W 0 (fun _ => true) true t v d ps) :
  ∃ (rows : List (List DV)) (cap : Nat), DA.at W v (.dl rows.flatten rows.length cap) ∧ rows.length ≤ cap ∧ cap ≤ 9223372036854775807 ∧ ∀ r, r ∈ rows → ShsOk sub r := by
 obtain ⟨A, n, c, rfl⟩ := okWide_slice hu hv
 obtain ⟨fuel, hf⟩ := h
 obtain ⟨ds, h1, h2⟩ := sh_open 9 t _ ht _ _ _ hf
 simp only [ShsOk] at h1
 obtain ⟨d1, _, rfl, h3, rfl⟩ := h1
 simp only [ShOk] at h3
 obtain ⟨len, cap, rows, rfl, h4, h5, h7, h8⟩ := h3
 have hcs : (Value.slice A n c).cells.toList = [.slice A n c] := by simp [Value.cells]
 rw [hcs] at h2
 simp only [DRv] at h2
 obtain ⟨u, us', e1, h9, rfl⟩ := h2
 simp only [List.cons.injEq, and_true] at e1
 subst e1
 subst h7
 exact ⟨rows, cap, ⟨fun e0 => by
  have : rows = [] := List.length_eq_zero_iff.1 (by omega)
  rw [this]; rfl, h9⟩, h4, h5, h8⟩
end
def drN (nx : Nat) : Hp → List Nat
 | [] => []
 | (n, r) :: h => bif Nat.blt n nx then drN nx h else (match r.kd with
  | .shut => n :: drN nx h
  | .old => n :: drN nx h
  | .of => n :: drN nx h
  | .lent => n :: drN nx h
  | _ => drN nx h)
def delAll : List Nat → Hp → Hp
 | [], h => h
 | n :: ns, h => delAll ns (delH h n)
theorem drN_ge {nx : Nat} : ∀ {h : Hp} {n : Nat}, n ∈ drN nx h → nx ≤ n
 | [], n, hn => by cases hn
 | (m, r) :: h, n, hn => by
   simp only [drN] at hn
   cases hb : Nat.blt m nx with
   | true => rw [hb] at hn; exact drN_ge hn
   | false =>
    rw [hb] at hn
    simp only [cond_false] at hn
    have hm : nx ≤ m := by
     rcases Nat.lt_or_ge m nx with h0 | h0
     ·have e : Nat.blt m nx = true := Nat.ble_eq_true_of_le h0
      rw [e] at hb; cases hb
     ·exact h0
    split at hn
    all_goals first
     | exact drN_ge hn
     | (rcases List.mem_cons.1 hn with rfl | hn
        ·exact hm
        ·exact drN_ge hn)
theorem lk_delAll : ∀ {ns : List Nat} {h : Hp} {m : Nat} {r : Rw}, lk (delAll ns h) m = some r → lk h m = some r
 | [], h, m, r, e => e
 | n :: ns, h, m, r, e => by
   have := lk_delAll (ns := ns) e
   rw [lk_delH] at this
   split at this
   ·cases this
   ·exact this
theorem lk_delAll_out : ∀ {ns : List Nat} {h : Hp} {m : Nat}, (∀ n, n ∈ ns → n ≠ m) → lk (delAll ns h) m = lk h m
 | [], h, m, _ => rfl
 | n :: ns, h, m, hn => by
   simp only [delAll]
   rw [lk_delAll_out fun k hk => hn k (List.mem_cons_of_mem _ hk), lk_delH, if_neg (hn n (List.mem_cons_self ..))]
def prjP (ks : List Nat) (nx0 : Nat) (r : Res (St5 × Tape × List Prop)) : Res (PSt × Tape × List Prop) := match prjZ ks r with
 | .ok ((x, n, l, h, nx, d, ms), tp, ob) => .ok ((x, n, l, delAll (drN nx0 h) h, nx, d, ms), tp, ob)
 | .ask b => .ask b
 | .no => .no
theorem code_runsP {V : Tv} {P : Program} {call : CallZ} (hX : XOkZ V P) (hL : LOkZ V P) (hC : COkZ P call) (hm : P.follows .mixedOrders = true) {fid : FuncId} {inr : Bool} {ks : List Nat} {c : Code} {ts : Tm} {h : Hp} {nx : Nat} {tp tp' : Tape} {o : PSt} {ob : List Prop}
  (hr : prjP ks nx (codeZ V P call fid inr 100000 c ts h nx tp) = .ok (o, tp', ob)) (ho : Alls ob) : RunsL inr (fun F m Q => c.wpIn F m P Q) ts h nx o := by
 unfold prjP at hr
 split at hr
 ·rename_i x n l h1 nx1 d ms tp1 ob1 hc
  simp only [Res.ok.injEq, pI] at hr
  obtain ⟨rfl, rfl, rfl⟩ := hr
  have A := code_runs hX hL hC hm hc ho
  refine ⟨⟨A.1.1, fun m hm hd => ?_, fun hB m hm => ?_⟩, fun hB W σ w a hR hf ht ds hd F m hF hr Q hQ => A.2 hB W σ w a hR hf ht ds hd F m hF hr Q fun σ' w' a' es b1 b2 b3 b4 => hQ σ' w' a' es (b1.less fun m r e => lk_delAll e) b2 b3 b4⟩
  ·exact (lk_delAll_out fun k hk e => by have := drN_ge hk; omega).trans (A.1.2.1 m hm hd)
  ·cases e : lk (delAll (drN nx h1) h1) m with
   | none => rfl
   | some r => have := lk_delAll e; rw [A.1.2.2 hB m hm] at this; cases this
 ·cases hr
 ·cases hr
def gTrueY : GSpec := fun av tp => match av with
 | [] => some (⟨fun _ => .bool true, []⟩, tp, [])
 | _ => none
theorem gTrueY_tri {f : FuncId} (H : ∃ h' nx' d, Tri Try.prog f [] [] 0 (.bool true, h', nx', d)) : GOk Try.prog f [] gTrueY := by
 intro av tp gr tp' ob hG ho hP caps hcap
 unfold gTrueY at hG
 split at hG
 case h_2 => cases hG
 simp only [oI, pI] at hG
 obtain ⟨rfl, rfl, rfl⟩ := hG
 obtain ⟨h', nx', d, T⟩ := H
 exact ⟨_, _, _, _, fun n => n, T, GrIs.flat fun σ => rfl⟩
theorem gTrueY_ok {f : FuncId} (H : ∀ W : World, Calls Try.prog f #[] W fun e w' => e = .returned (.bool true) ∧ Ext W w') : GOk Try.prog f [] gTrueY := by
 refine gTrueY_tri ⟨_, _, _, tri_quiet (v := .bool true) (fun σ args' ha => ?_) (fun σ => rfl) fun w => H w⟩
 simp only [renL, oI] at ha
 exact ha.symm
theorem all1_map {k : IntKind} : ∀ l : List Int, all1 (l.map (Value.int k)) = true
 | [] => rfl
 | x :: l => by simp only [List.map_cons, all1, all1_map l]; rfl
def prjV : Res (Out × Tape × List Prop) → Res (Value × Tape × List Prop)
 | .ok ((v, _, _, _), tp, ob) => .ok (v, tp, ob)
 | .ask b => .ask b
 | .no => .no
theorem run_val {V : Tv} (hX : XOkZ V Try.prog) (hT : TOkZ V Try.prog) (hL : LOkZ V Try.prog) {k : Nat} {f : FuncId} {args : List Value} {h : Hp} {nx : Nat} {tp tp' : Tape} {v : Value} {ob : List Prop} (e : prjV (runZ V Try.prog k f args h nx tp) = .ok (v, tp', ob)) (ho : Alls ob) (hf : Nat.blt f yBig = true) : ∃ h' nx' d, Tri Try.prog f args h nx (v, h', nx', d) := by
 unfold prjV at e
 split at e
 ·rename_i v0 h0 nx0 d0 tp0 ob0 hr
  simp only [Res.ok.injEq, pI] at e
  obtain ⟨rfl, rfl, rfl⟩ := e
  exact ⟨_, _, _, run_tri hX hT hL hr ho hf⟩
 ·cases e
 ·cases e
end Go.Proofs.Ytmoflcoijmmpjaa
