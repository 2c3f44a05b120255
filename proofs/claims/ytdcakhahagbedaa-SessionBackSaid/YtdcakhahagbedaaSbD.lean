/-
  Chapter 22: slices.Clone's contract; a reader's numbers: a contract that changes a row of its own.
-/
import Derived.Test.YtdcakhahagbedaaSbC
namespace Go.Proofs.Ytdcakhahagbedaa
set_option linter.unusedSimpArgs false
set_option linter.unusedVariables false
set_option linter.unusedSectionVars false
open Go Go.RowKit

def clT (R : List Value) (n0 : Nat) : TFun := fun f args h nx tp => bif Nat.beq f 34 then some (match rdAs h [.s 1] args with
  | some ([.sl xs n], o1) => .ok ((.slice (some ⟨nx, 0, none⟩) n0 (capBig + nx), (nx, ⟨.held n0, R⟩) :: h, nx + 1, []), tp, o1 ++ [Byts R ∧ n0 ≤ 140737488355328 ∧ R = xs ∧ n0 = n])
  | _ => .no) else none
theorem clT_one (R : List Value) (n0 : Nat) : TOneZ Try.prog (clT R n0) := by
  intro f args h nx tp out tp' ob e ho
  unfold clT at e
  rcases bif_or e with ⟨hf, e1⟩ | ⟨_, e1⟩
  case inr => cases e1
  clear e
  obtain rfl := Nat.eq_of_beq_eq_true hf
  have e := Option.some.inj e1
  clear e1
  split at e
  case h_2 => cases e
  rename_i xs n o1 hr
  simp only [Res.ok.injEq, Prod.mk.injEq] at e
  obtain ⟨rfl, rfl, rfl⟩ := e
  obtain ⟨g1, g2⟩ := Alls_app.1 ho
  obtain ⟨⟨hb, hn, hRx, hnn⟩, _⟩ := g2
  rw [hRx] at hb
  rw [hnn] at hn
  rw [hRx, hnn]
  clear hRx hnn ho
  obtain ⟨hP, hA⟩ := rdAs_ok hr g1
  have hl : xs.length = n := by have := hP.1.2; omega
  refine tri_held hl (fl_byts hb) fun W σ w args' hR ha => ?_
  obtain ⟨qs, hAt, hL⟩ := hA W σ w args' hR ha
  obtain ⟨h1, h2, h3, h4⟩ := can_rl hAt (W := w) fun j ad c hj => by
    have hlen := avs_len hAt
    have hlt := (List.getElem?_eq_some_iff.1 hj).1
    obtain ⟨a, haj⟩ : ∃ a, [Av.sl xs n][j]? = some a := ⟨_, List.getElem?_eq_getElem (by omega)⟩
    obtain ⟨x1, x2⟩ := hL j a _ haj hj ad c rfl
    refine ⟨x1, fun a' ha' => ?_⟩
    rw [haj] at ha'
    cases ha'
    exact x2
  have hcaps := avs_caps hAt
  obtain ⟨c, hc⟩ := caps1 hcaps
  rw [hc] at h4
  have hX : ∀ m, XOkZ (clV m) Try.prog := fun m => noXz_ok rfl
  have hT : ∀ m, TOkZ (clV m) Try.prog := fun m => noTz_okV rfl
  have hL' : ∀ m, LOkZ (clV m) Try.prog := fun m => noL_okV rfl
  by_cases h0 : n = 0
  · subst h0
    obtain rfl := List.eq_nil_of_length_eq_zero hl
    have T := run_tri (hX 4) (hT 4) (hL' 4) (cl_e [] c) alls_nil rfl
    refine (T.2 h2 w _ w args' h1 (fun k k1 k2 => h3 k k1) h4).mono ?_
    rintro e w' ⟨τ, v', S, hv, rfl⟩
    obtain ⟨p, c', hp, hc', rfl⟩ := renV_slice hv
    obtain ⟨b, s, vs, e1, e2, e3, e4, t, e5⟩ := S.rl.row 1 _ rfl
    rw [hp] at e1
    cases e1
    subst e3
    simp only [renL, Option.some.injEq] at e2
    subst e2
    unfold cpR at hc'
    rw [if_pos (by unfold capBig; omega)] at hc'
    cases hc'
    exact ⟨b, 0, [], t, rfl, S.rl.ext, e4, by simpa using e5, Nat.le_refl _, by decide⟩
  · have T := run_tri (hX 2) (hT 2) (hL' 2) (cl_x xs n c) (by
      have hz := take_len (show xs.length = n from hl)
      refine ⟨by omega, by omega, by omega, ⟨by omega, by omega⟩, by omega, ?_, trivial⟩
      rw [hz]; exact all1_byts hb) rfl
    refine (T.2 h2 w _ w args' h1 (fun k k1 k2 => h3 k k1) h4).mono ?_
    rintro e w' ⟨τ, v', S, hv, rfl⟩
    obtain ⟨p, c', hp, hc', rfl⟩ := renV_slice hv
    obtain ⟨b, s, vs, e1, e2, e3, e4, t, rest, c2, e5, e6, e7, e8, e9⟩ := S.rl.row 2 _ rfl
    rw [hp] at e1
    cases e1
    subst e3
    have hz := take_len (show xs.length = n from hl)
    rw [List.nil_append, hz, fl_byts hb] at e2
    cases e2
    unfold cpR at hc'
    rw [if_neg (by unfold capBig; omega), show capBig + 2 - capBig = 2 by omega, e5] at hc'
    cases hc'
    refine ⟨b, c', rest, t, by simp, S.rl.ext, e4, e6, ?_, e8⟩
    rw [List.length_append] at e7
    omega

/-! ### a row that a call changes -/
/-- Values that name only the first two rows. -/
def Lo2 (vs : List Value) : Prop := ∀ σ τ : Sg, (∀ k, k < 2 → σ.b k = τ.b k ∧ σ.c k = τ.c k) → renL σ vs = renL τ vs
theorem tri_upd {P : Program} {f : FuncId} {args : List Value} {cs cs' xs : List Value} {v : Value} {h0' : Hp} {nx0 : Nat} {d0 : List Nat}
    (T : Tri P f args [(1, ⟨.shut, cs⟩), (0, ⟨.old, xs⟩)] 2 (v, h0', nx0, d0)) (hl' : lk h0' 1 = some ⟨.shut, cs'⟩)
    (ha0 : Lo2 args) (hc0 : Lo2 cs) (hc1 : Lo2 cs') (hv : ∀ σ, renV σ v = some v) (hx : Fl xs)
    {h : Hp} {nx : Nat} (l1 : lk h 1 = some ⟨.shut, cs⟩) (l0 : lk h 0 = some ⟨.old, xs⟩) :
    Tri P f args h nx (v, (1, ⟨.shut, cs'⟩) :: delH h 1, nx, [1]) := by
  refine ⟨⟨Nat.le_refl _, fun m _ hd => ?_, fun hB m hm => ?_⟩, fun hB W σ w args' hR hf ha => ?_⟩
  · simp only [List.mem_singleton] at hd
    simp only
    rw [lk_cons, if_neg (Ne.symm hd), lk_delH, if_neg (Ne.symm hd)]
  · simp only at hm ⊢
    have hn : 1 < nx := Nat.lt_of_not_le fun e => by have := hB 1 e; rw [l1] at this; cases this
    rw [lk_cons, if_neg (by omega), lk_delH, if_neg (by omega)]
    exact hB m hm
  obtain ⟨σ0, hσ⟩ : ∃ σ0 : Sg, σ0 = ⟨fun k => if k < 2 then σ.b k else none, fun k => if k < 2 then σ.c k else none⟩ := ⟨_, rfl⟩
  have ag : ∀ k, k < 2 → σ.b k = σ0.b k ∧ σ.c k = σ0.c k := fun k hk => by subst hσ; simp [hk]
  have out : ∀ k, 2 ≤ k → σ0.b k = none ∧ σ0.c k = none := fun k hk => by subst hσ; simp [Nat.not_lt.2 hk]
  have cl0 : ∀ k r, lk [(1, (⟨.shut, cs⟩ : Rw)), (0, ⟨.old, xs⟩)] k = some r → (k = 1 ∧ r = ⟨.shut, cs⟩) ∨ (k = 0 ∧ r = ⟨.old, xs⟩) := fun k r hk => by
    rw [lk_cons] at hk
    split at hk
    · rename_i e; cases hk; exact .inl ⟨e.symm, rfl⟩
    · rw [lk_cons] at hk
      split at hk
      · rename_i e; cases hk; exact .inr ⟨e.symm, rfl⟩
      · cases hk
  have hR0 : Rl W σ0 [(1, ⟨.shut, cs⟩), (0, ⟨.old, xs⟩)] w := by
    refine ⟨hR.ext, fun k r hk => ?_, fun k m r1 s1 p1 q1 h1 h2 o1 o2 _ _ _ => ?_⟩
    · rcases cl0 k r hk with ⟨rfl, rfl⟩ | ⟨rfl, rfl⟩
      · obtain ⟨b, s, vs, e1, e2, e3⟩ := hR.row 1 _ l1
        exact ⟨b, s, vs, by rw [← (ag 1 (by omega)).1]; exact e1, by rw [← hc0 σ σ0 ag]; exact e2, e3⟩
      · obtain ⟨b, s, vs, e1, e2, e3⟩ := hR.row 0 _ l0
        exact ⟨b, s, vs, by rw [← (ag 0 (by omega)).1]; exact e1, by rw [hx σ0]; rw [hx σ] at e2; exact e2, e3⟩
    · rcases cl0 k _ h1 with ⟨rfl, rfl⟩ | ⟨rfl, rfl⟩
      · rcases cl0 m _ h2 with ⟨rfl, rfl⟩ | ⟨rfl, rfl⟩
        · rfl
        · exact absurd rfl o2
      · exact absurd rfl o1
  refine (T.2 (bdB_ok rfl) W σ0 w args' hR0 (fun k h1 _ => out k h1) (by rw [← ha0 σ σ0 ag]; exact ha)).mono ?_
  rintro e w' ⟨τ, u, S, hu, rfl⟩
  rw [hv] at hu
  cases hu
  have ho : (⟨.shut, cs⟩ : Rw).own := fun e => by cases e
  obtain ⟨b, s, vs, hp, _, hs0, hge, t0, hb0⟩ := hR.row 1 _ l1
  subst hs0
  have ag2 : ∀ k, k < 2 → σ.b k = τ.b k ∧ σ.c k = τ.c k := fun k hk => by
    have := S.only k (.inl hk)
    rw [this.1, this.2]
    exact ag k hk
  have keep : ∀ b', b' < w.heap.size → b' ≠ b → w'.heap[b']? = w.heap[b']? := fun b' h1 h2 => S.fr b' h1 fun k r1 p1 hk1 ho1 hp1 => by
    rcases cl0 k r1 hk1 with ⟨rfl, rfl⟩ | ⟨rfl, rfl⟩
    · rw [← (ag 1 (by omega)).1, hp] at hp1
      cases hp1
      exact Ne.symm h2
    · exact absurd rfl ho1
  have hdel : ∀ m r', lk (delH h 1) m = some r' → lk h m = some r' ∧ m ≠ 1 := fun m r' hm => by
    rw [lk_delH] at hm
    split at hm
    · cases hm
    · rename_i e; exact ⟨hm, Ne.symm e⟩
  have cls : ∀ m r', lk ((1, ⟨.shut, cs'⟩) :: delH h 1) m = some r' → (m = 1 ∧ r' = ⟨.shut, cs'⟩) ∨ (lk h m = some r' ∧ m ≠ 1) := fun m r' hm => by
    rw [lk_cons] at hm
    split at hm
    · rename_i e; cases hm; exact .inl ⟨e.symm, rfl⟩
    · exact .inr (hdel m r' hm)
  have own : ∀ m r', lk ((1, ⟨.shut, cs'⟩) :: delH h 1) m = some r' → r'.own → ∃ s, lk h m = some s ∧ s.own := fun m r' hm hw => by
    rcases cls m r' hm with ⟨rfl, _⟩ | ⟨h1, _⟩
    · exact ⟨_, l1, ho⟩
    · exact ⟨r', h1, hw⟩
  obtain ⟨b2, s2, vs2, e1, e2, e3, e4, t2, e5⟩ := S.rl.row 1 _ hl'
  rw [← (ag2 1 (by omega)).1, hp] at e1
  cases e1
  rw [← hc1 σ τ ag2] at e2
  refine ⟨σ, v, ⟨Sg.le.refl σ, fun _ _ => ⟨rfl, rfl⟩, ⟨S.rl.ext, fun m r' hm => ?_, fun m k r1 s1 p1 q1 h1 h2 o1 o2 hp1 hq1 e => ?_⟩, S.size, fun b' h1 h2 => keep b' h1 fun e => h2 1 _ (b, 0) l1 ho hp e.symm, fun m r1 p1 h1 h2 h3 => ?_⟩, hv σ, rfl⟩
  · rcases cls m r' hm with ⟨rfl, rfl⟩ | ⟨h1, h2⟩
    · exact ⟨b, 0, vs2, hp, e2, rfl, hge, t2, e5⟩
    · exact (hR.row m r' h1).keep (Sg.le.refl σ) fun ho' q hq => keep _ (hR.lt h1 hq) fun e => h2 (hR.inj m 1 r' _ q (b, 0) h1 l1 ho' ho hq hp e)
  · obtain ⟨s1', g1, g2⟩ := own _ _ h1 o1
    obtain ⟨s2', g3, g4⟩ := own _ _ h2 o2
    exact hR.inj m k s1' s2' p1 q1 g1 g3 g2 g4 hp1 hq1 e
  · obtain ⟨s1', g1, g2⟩ := own _ _ h1 h2
    exact .inr ⟨m, s1', p1, g1, g2, h3, rfl⟩

/-! ### a reader's numbers -/
/-- A reader: where its bytes begin, how many, the capacity, whether it is bad. -/
structure RS where
  O : Nat
  L : Nat
  C : Nat
  B : Bool
def rdR (O L C : Nat) (b : Bool) : Rw := ⟨.shut, [.slice (some ⟨0, O, none⟩) L C, .bool b]⟩
def nbTab : FuncId → List Nat := fun f => bif Nat.beq f 41 then [9, 17] else []
def nbSy : FuncId → Nat → Option Nat := orSy (lsSy 39 [(7, 0), (11, 0), (17, 0), (23, 0), (8, 0), (12, 0), (18, 0), (24, 0), (9, 0), (13, 0), (19, 0), (25, 0), (14, 0), (20, 0), (26, 0), (15, 7), (21, 7), (27, 7), (28, 0)]) (lsSy 41 [(31, 0), (38, 0), (24, 0)])
def nbV : Tv := ⟨noTz, noXz, noL, nbTab, nbSy, fun _ => [], fun _ => 0⟩
theorem nb_ok (xs : List Value) (O L C : Nat) (B : Bool) : prjR 1 (runZ nbV Try.prog 5 39 [.pointer (some ⟨1, 0, none⟩)] [(1, rdR O L C B), (0, ⟨.old, xs⟩)] 2 [false, false]) =
  Res.ok ((Value.int IntKind.i64 (adI (adI (adI (intAt xs (ixO (loO none O 0 4 1) 0 1)) (slI (intAt xs (ixO (loO none O 0 4 1) 1 1)) (8 : Int))) (slI (intAt xs (ixO (loO none O 0 4 1) 2 1)) (16 : Int))) (slI (intAt xs (ixO
 (loO none O 0 4 1) 3 1)) (24 : Int))), Rw.mk Kd.shut [Value.slice (some (Addr.mk 0 (loO (some (Value.int IntKind.i64 (4 : Int))) O 4 C 1) none)) (L - 4) (C - 4), Value.bool B]), [], [B = false, decide ((4 : Int) > (↑L :
 Int)) = false, C < 18446744073709551616, (0 : Int) ≤ (4 : Int) ∧ (4 : Int) ≤ (↑C : Int), (0 : Int) ≤ (4 : Int) ∧ (4 : Int) ≤ (4 : Int), C < 18446744073709551616, (0 : Int) ≤ (4 : Int) ∧ (4 : Int) ≤ (↑L : Int), (0 : Int) ≤
 (0 : Int) ∧ (0 : Int) < (4 : Int), xs[ixO (loO none O 0 4 1) 0 1]? = some (Value.int IntKind.u8 (intAt xs (ixO (loO none O 0 4 1) 0 1))), rg IntKind.u32 (intAt xs (ixO (loO none O 0 4 1) 0 1)), (0 : Int) ≤ (1 : Int) ∧ (1
 : Int) < (4 : Int), xs[ixO (loO none O 0 4 1) 1 1]? = some (Value.int IntKind.u8 (intAt xs (ixO (loO none O 0 4 1) 1 1))), rg IntKind.u32 (intAt xs (ixO (loO none O 0 4 1) 1 1)), (0 : Int) ≤ (8 : Int) ∧ (8 : Int) ≤ (32 :
 Int) ∧ rg IntKind.u32 (slI (intAt xs (ixO (loO none O 0 4 1) 1 1)) (8 : Int)), IntKind.wrap IntKind.u32 (↑(BitVec.toNat (BitVec.ofInt 32 (intAt xs (ixO (loO none O 0 4 1) 0 1)) ||| BitVec.ofInt 32 (slI (intAt xs (ixO (loO
 none O 0 4 1) 1 1)) (8 : Int)))) : Int) = adI (intAt xs (ixO (loO none O 0 4 1) 0 1)) (slI (intAt xs (ixO (loO none O 0 4 1) 1 1)) (8 : Int)), (0 : Int) ≤ (2 : Int) ∧ (2 : Int) < (4 : Int), xs[ixO (loO none O 0 4 1) 2 1]?
 = some (Value.int IntKind.u8 (intAt xs (ixO (loO none O 0 4 1) 2 1))), rg IntKind.u32 (intAt xs (ixO (loO none O 0 4 1) 2 1)), (0 : Int) ≤ (16 : Int) ∧ (16 : Int) ≤ (32 : Int) ∧ rg IntKind.u32 (slI (intAt xs (ixO (loO
 none O 0 4 1) 2 1)) (16 : Int)), IntKind.wrap IntKind.u32 (↑(BitVec.toNat (BitVec.ofInt 32 (adI (intAt xs (ixO (loO none O 0 4 1) 0 1)) (slI (intAt xs (ixO (loO none O 0 4 1) 1 1)) (8 : Int))) ||| BitVec.ofInt 32 (slI
 (intAt xs (ixO (loO none O 0 4 1) 2 1)) (16 : Int)))) : Int) = adI (adI (intAt xs (ixO (loO none O 0 4 1) 0 1)) (slI (intAt xs (ixO (loO none O 0 4 1) 1 1)) (8 : Int))) (slI (intAt xs (ixO (loO none O 0 4 1) 2 1)) (16 :
 Int)), (0 : Int) ≤ (3 : Int) ∧ (3 : Int) < (4 : Int), xs[ixO (loO none O 0 4 1) 3 1]? = some (Value.int IntKind.u8 (intAt xs (ixO (loO none O 0 4 1) 3 1))), rg IntKind.u32 (intAt xs (ixO (loO none O 0 4 1) 3 1)), (0 :
 Int) ≤ (24 : Int) ∧ (24 : Int) ≤ (32 : Int) ∧ rg IntKind.u32 (slI (intAt xs (ixO (loO none O 0 4 1) 3 1)) (24 : Int)), IntKind.wrap IntKind.u32 (↑(BitVec.toNat (BitVec.ofInt 32 (adI (adI (intAt xs (ixO (loO none O 0 4 1)
 0 1)) (slI (intAt xs (ixO (loO none O 0 4 1) 1 1)) (8 : Int))) (slI (intAt xs (ixO (loO none O 0 4 1) 2 1)) (16 : Int))) ||| BitVec.ofInt 32 (slI (intAt xs (ixO (loO none O 0 4 1) 3 1)) (24 : Int)))) : Int) = adI (adI
 (adI (intAt xs (ixO (loO none O 0 4 1) 0 1)) (slI (intAt xs (ixO (loO none O 0 4 1) 1 1)) (8 : Int))) (slI (intAt xs (ixO (loO none O 0 4 1) 2 1)) (16 : Int))) (slI (intAt xs (ixO (loO none O 0 4 1) 3 1)) (24 : Int)), rg
 IntKind.i64 (adI (adI (adI (intAt xs (ixO (loO none O 0 4 1) 0 1)) (slI (intAt xs (ixO (loO none O 0 4 1) 1 1)) (8 : Int))) (slI (intAt xs (ixO (loO none O 0 4 1) 2 1)) (16 : Int))) (slI (intAt xs (ixO (loO none O 0 4 1)
 3 1)) (24 : Int)))]) := by kernel_rfl
theorem nb_bb (xs : List Value) (O L C : Nat) (B : Bool) : prjR 1 (runZ nbV Try.prog 5 39 [.pointer (some ⟨1, 0, none⟩)] [(1, rdR O L C B), (0, ⟨.old, xs⟩)] 2 [true]) =
  Res.ok ((Value.int IntKind.i64 (0 : Int), Rw.mk Kd.shut [Value.slice (some (Addr.mk 0 O none)) L C, Value.bool true]), [], [B = true, (0 : Int) ≤ (4 : Int) ∧ (4 : Int) ≤ (4 : Int) ∧ (4 : Int) ≤ (281474976710656 : Int) ∧
 (4 : Int) ≤ (9223372036854775807 : Int), (0 : Int) ≤ (0 : Int) ∧ (0 : Int) < (4 : Int), [Value.int IntKind.u8 (0 : Int), Value.int IntKind.u8 (0 : Int), Value.int IntKind.u8 (0 : Int), Value.int IntKind.u8 (0 : Int)][0]?
 = some (Value.int IntKind.u8 (0 : Int)), rg IntKind.u32 (0 : Int), (0 : Int) ≤ (1 : Int) ∧ (1 : Int) < (4 : Int), [Value.int IntKind.u8 (0 : Int), Value.int IntKind.u8 (0 : Int), Value.int IntKind.u8 (0 : Int), Value.int
 IntKind.u8 (0 : Int)][1]? = some (Value.int IntKind.u8 (0 : Int)), rg IntKind.u32 (0 : Int), (0 : Int) ≤ (8 : Int) ∧ (8 : Int) ≤ (32 : Int) ∧ rg IntKind.u32 (0 : Int), (0 : Int) = (0 : Int), (0 : Int) ≤ (2 : Int) ∧ (2 :
 Int) < (4 : Int), [Value.int IntKind.u8 (0 : Int), Value.int IntKind.u8 (0 : Int), Value.int IntKind.u8 (0 : Int), Value.int IntKind.u8 (0 : Int)][2]? = some (Value.int IntKind.u8 (0 : Int)), rg IntKind.u32 (0 : Int), (0
 : Int) ≤ (16 : Int) ∧ (16 : Int) ≤ (32 : Int) ∧ rg IntKind.u32 (0 : Int), (0 : Int) = (0 : Int), (0 : Int) ≤ (3 : Int) ∧ (3 : Int) < (4 : Int), [Value.int IntKind.u8 (0 : Int), Value.int IntKind.u8 (0 : Int), Value.int
 IntKind.u8 (0 : Int), Value.int IntKind.u8 (0 : Int)][3]? = some (Value.int IntKind.u8 (0 : Int)), rg IntKind.u32 (0 : Int), (0 : Int) ≤ (24 : Int) ∧ (24 : Int) ≤ (32 : Int) ∧ rg IntKind.u32 (0 : Int), (0 : Int) = (0 :
 Int), rg IntKind.i64 (0 : Int)]) := by kernel_rfl
theorem nb_bl (xs : List Value) (O L C : Nat) (B : Bool) : prjR 1 (runZ nbV Try.prog 5 39 [.pointer (some ⟨1, 0, none⟩)] [(1, rdR O L C B), (0, ⟨.old, xs⟩)] 2 [false, true]) =
  Res.ok ((Value.int IntKind.i64 (0 : Int), Rw.mk Kd.shut [Value.slice (some (Addr.mk 0 O none)) L C, Value.bool true]), [], [B = false, decide ((4 : Int) > (↑L : Int)) = true, (0 : Int) ≤ (4 : Int) ∧ (4 : Int) ≤ (4 : Int)
 ∧ (4 : Int) ≤ (281474976710656 : Int) ∧ (4 : Int) ≤ (9223372036854775807 : Int), (0 : Int) ≤ (0 : Int) ∧ (0 : Int) < (4 : Int), [Value.int IntKind.u8 (0 : Int), Value.int IntKind.u8 (0 : Int), Value.int IntKind.u8 (0 :
 Int), Value.int IntKind.u8 (0 : Int)][0]? = some (Value.int IntKind.u8 (0 : Int)), rg IntKind.u32 (0 : Int), (0 : Int) ≤ (1 : Int) ∧ (1 : Int) < (4 : Int), [Value.int IntKind.u8 (0 : Int), Value.int IntKind.u8 (0 : Int),
 Value.int IntKind.u8 (0 : Int), Value.int IntKind.u8 (0 : Int)][1]? = some (Value.int IntKind.u8 (0 : Int)), rg IntKind.u32 (0 : Int), (0 : Int) ≤ (8 : Int) ∧ (8 : Int) ≤ (32 : Int) ∧ rg IntKind.u32 (0 : Int), (0 : Int) =
 (0 : Int), (0 : Int) ≤ (2 : Int) ∧ (2 : Int) < (4 : Int), [Value.int IntKind.u8 (0 : Int), Value.int IntKind.u8 (0 : Int), Value.int IntKind.u8 (0 : Int), Value.int IntKind.u8 (0 : Int)][2]? = some (Value.int IntKind.u8
 (0 : Int)), rg IntKind.u32 (0 : Int), (0 : Int) ≤ (16 : Int) ∧ (16 : Int) ≤ (32 : Int) ∧ rg IntKind.u32 (0 : Int), (0 : Int) = (0 : Int), (0 : Int) ≤ (3 : Int) ∧ (3 : Int) < (4 : Int), [Value.int IntKind.u8 (0 : Int),
 Value.int IntKind.u8 (0 : Int), Value.int IntKind.u8 (0 : Int), Value.int IntKind.u8 (0 : Int)][3]? = some (Value.int IntKind.u8 (0 : Int)), rg IntKind.u32 (0 : Int), (0 : Int) ≤ (24 : Int) ∧ (24 : Int) ≤ (32 : Int) ∧ rg
 IntKind.u32 (0 : Int), (0 : Int) = (0 : Int), rg IntKind.i64 (0 : Int)]) := by kernel_rfl
def n4 (xs : List Value) : Int := intAt xs 0 + 256 * intAt xs 1 + 65536 * intAt xs 2 + 16777216 * intAt xs 3
/-- A reader that may be. -/
structure RI (xs : List Value) (s : RS) : Prop where
  y : Byts xs
  o : s.O + s.L ≤ xs.length
  c : s.L ≤ s.C ∧ s.C ≤ 9223372036854775807
def rbad (s : RS) (n : Nat) : Bool := s.B || decide (s.L < n)
/-- A reader after n bytes. -/
def rnx (s : RS) (n : Nat) : RS := if rbad s n then { s with B := true } else ⟨if s.C = n then s.O else s.O + n, s.L - n, s.C - n, false⟩
def rnv (xs : List Value) (s : RS) : Int := if rbad s 4 then 0 else n4 (xs.drop s.O)
structure NbF (xs : List Value) (s t : RS) (v : Int) : Prop where
  i : RI xs s
  t : t = rnx s 4
  v : v = rnv xs s
def nthO : List (RS × Int) → Nat → Option (RS × Int)
  | [], _ => none
  | x :: _, 0 => some x
  | _ :: l, n + 1 => nthO l n
/-- A number that the tape gives in ones. -/
def cntT : Tape → Option (Nat × Tape)
  | [] => none
  | false :: t => some (0, t)
  | true :: t => match cntT t with | some (n, t') => some (n + 1, t') | none => none
def nbT (G : List (RS × Int)) : TFun := fun f args h nx tp => bif Nat.beq f 39 then some (match args, cntT tp, lk h 1, lk h 0 with
  | [.pointer (some ⟨1, 0, none⟩)], some (k, tp'), some ⟨.shut, [.slice (some ⟨0, O, none⟩) L C, .bool B]⟩, some ⟨.old, xs⟩ => (match nthO G k with
    | some (g, v) => .ok ((.int .i64 v, (1, rdR g.O g.L g.C g.B) :: delH h 1, nx, [1]), tp', [NbF xs ⟨O, L, C, B⟩ g v])
    | none => .no)
  | _, _, _, _ => .no) else none
theorem or_add {x y : Nat} (m K : Nat) (hK : 2 ^ m = K) (hx : x < K) (hs : x + y * K < 4294967296) : IntKind.u32.wrap (((BitVec.ofInt 32 (x : Int) ||| BitVec.ofInt 32 ((y : Int) * (K : Int))).toNat : Nat) : Int) = (x : Int) + (y : Int) * (K : Int) := by
  have e : ((y : Int) * (K : Int)) = ((y * K : Nat) : Int) := by push_cast; rfl
  have h1 : x < 2 ^ 32 := by omega
  have h2 : y * K < 2 ^ 32 := by omega
  rw [e]
  simp only [BitVec.toNat_or, BitVec.ofInt_natCast, BitVec.toNat_ofNat, Nat.mod_eq_of_lt h1, Nat.mod_eq_of_lt h2]
  rw [Nat.or_comm, Nat.mul_comm y K, ← hK, ← Nat.two_pow_add_eq_or_of_lt (by omega), IntKind.wrap_u32, hK, Nat.mul_comm]
  have : (x : Int) + (y * K : Nat) < 4294967296 := by omega
  omega
theorem intAt_drop {a : List Value} {o i : Nat} : intAt (a.drop o) i = intAt a (o + i) := by unfold intAt; rw [List.getElem?_drop]
theorem lo2_rd {O L C : Nat} {B : Bool} (hC : C < capBig) : Lo2 [.slice (some ⟨0, O, none⟩) L C, .bool B] := fun σ τ h => by
  simp only [renL, renV, adR, cpR, (h 0 (by omega)).1, if_pos hC]
theorem lo2_ptr : Lo2 [.pointer (some ⟨1, 0, none⟩)] := fun σ τ h => by
  simp only [renL, renV, adR, (h 1 (by omega)).1]
theorem nbT_one (G : List (RS × Int)) : TOneZ Try.prog (nbT G) := by
  intro f args h nx tp out tp' ob e ho
  unfold nbT at e
  rcases bif_or e with ⟨hf, e1⟩ | ⟨_, e1⟩
  case inr => cases e1
  clear e
  obtain rfl := Nat.eq_of_beq_eq_true hf
  have e := Option.some.inj e1
  clear e1
  split at e
  case h_2 => cases e
  rename_i k tp2 O L C B xs ht l1 l0
  split at e
  case h_2 => cases e
  rename_i g v hk
  clear hk
  simp only [Res.ok.injEq, Prod.mk.injEq] at e
  obtain ⟨rfl, rfl, rfl⟩ := e
  obtain ⟨⟨⟨hb, ho, hc⟩, hg, hv⟩, _⟩ := ho
  simp only at ho hc
  subst hg
  subst hv
  have hX : XOkZ nbV Try.prog := noXz_ok rfl
  have hT : TOkZ nbV Try.prog := noTz_okV rfl
  have hL : LOkZ nbV Try.prog := noL_okV rfl
  have hC : C < capBig := by unfold capBig; omega
  cases B with
  | true =>
    have e1 : rbad ⟨O, L, C, true⟩ 4 = true := rfl
    obtain ⟨h', nx', d, T, hl⟩ := run_row hX hT hL (nb_bb xs O L C true) (by
      simp only [Alls, rg]
      repeat' (first | with_reducible exact trivial | with_reducible apply And.intro)
      all_goals first | with_reducible assumption | omega | with_reducible rfl | (first | exact rfl | decide)) rfl
    unfold rnx rnv
    rw [if_pos e1, if_pos e1]
    exact tri_upd T hl lo2_ptr (lo2_rd hC) (lo2_rd hC) (fun σ => rfl) (fl_byts hb) l1 l0
  | false =>
    by_cases h4 : L < 4
    · have e1 : rbad ⟨O, L, C, false⟩ 4 = true := by simp [rbad, h4]
      obtain ⟨h', nx', d, T, hl⟩ := run_row hX hT hL (nb_bl xs O L C false) (by
        simp only [Alls, rg]
        have : decide ((4 : Int) > (L : Int)) = true := by simp only [decide_eq_true_eq]; omega
        repeat' (first | with_reducible exact trivial | with_reducible apply And.intro)
        all_goals first | with_reducible assumption | omega | with_reducible rfl | (first | exact rfl | decide)) rfl
      unfold rnx rnv
      rw [if_pos e1, if_pos e1]
      exact tri_upd T hl lo2_ptr (lo2_rd hC) (lo2_rd hC) (fun σ => rfl) (fl_byts hb) l1 l0
    · have e1 : ¬ rbad ⟨O, L, C, false⟩ 4 = true := by simp [rbad, h4]
      obtain ⟨g0, l0', u0⟩ := hb.get (i := O) (by omega)
      obtain ⟨g1, l1', u1⟩ := hb.get (i := O + 1) (by omega)
      obtain ⟨g2, l2', u2⟩ := hb.get (i := O + 2) (by omega)
      obtain ⟨g3, l3', u3⟩ := hb.get (i := O + 3) (by omega)
      have i0 : ixO (loO none O 0 4 1) 0 1 = O := by rw [ixO_eq]; show O + 0 * 1 = O; omega
      have i1 : ixO (loO none O 0 4 1) 1 1 = O + 1 := by rw [ixO_eq]; rfl
      have i2 : ixO (loO none O 0 4 1) 2 1 = O + 2 := by rw [ixO_eq]; rfl
      have i3 : ixO (loO none O 0 4 1) 3 1 = O + 3 := by rw [ixO_eq]; rfl
      have hr := fun o => run_row hX hT hL (nb_ok xs O L C false) o rfl
      rw [i0, i1, i2, i3] at hr
      obtain ⟨x0, e0⟩ := Int.eq_ofNat_of_zero_le l0'
      obtain ⟨x1, e1'⟩ := Int.eq_ofNat_of_zero_le l1'
      obtain ⟨x2, e2⟩ := Int.eq_ofNat_of_zero_le l2'
      obtain ⟨x3, e3⟩ := Int.eq_ofNat_of_zero_le l3'
      have o1 := or_add (x := x0) (y := x1) 8 256 (by decide) (by omega) (by omega)
      have o2 := or_add (x := x0 + x1 * 256) (y := x2) 16 65536 (by decide) (by omega) (by omega)
      have o3 := or_add (x := x0 + x1 * 256 + x2 * 65536) (y := x3) 24 16777216 (by decide) (by omega) (by omega)
      rw [show ((x0 + x1 * 256 : Nat) : Int) = (x0 : Int) + (x1 : Int) * 256 by omega] at o2
      rw [show ((x0 + x1 * 256 + x2 * 65536 : Nat) : Int) = (x0 : Int) + (x1 : Int) * 256 + (x2 : Int) * 65536 by omega] at o3
      have hd : decide ((4 : Int) > (L : Int)) = false := by simp only [decide_eq_false_iff_not]; omega
      obtain ⟨h', nx', d, T, hl⟩ := hr (by
        repeat' (first | exact alls_nil | refine alls_cons ?_ ?_)
        all_goals first
          | exact hd
          | rfl
          | exact g0
          | exact g1
          | exact g2
          | exact g3
          | (rw [adI_eq, s8, e0, e1']; exact o1)
          | (rw [adI_eq, adI_eq, s8, s16, e0, e1', e2]; exact o2)
          | (rw [adI_eq, adI_eq, adI_eq, s8, s16, s24, e0, e1', e2, e3]; exact o3)
          | ((try simp only [rg, adI_eq, s8, s16, s24, e0, e1', e2, e3]); omega))
      have ev : adI (adI (adI (intAt xs O) (slI (intAt xs (O + 1)) 8)) (slI (intAt xs (O + 2)) 16)) (slI (intAt xs (O + 3)) 24) = n4 (xs.drop O) := by
        simp only [adI_eq, s8, s16, s24, n4, intAt_drop, Nat.add_zero]; omega
      have eo : loO (some (Value.int IntKind.i64 4)) O 4 C 1 = if C = 4 then O else O + 4 := by
        show slO O 4 C 1 = _
        unfold slO
        by_cases hc4 : C = 4
        · rw [if_pos hc4, hc4]; rfl
        · rw [if_neg hc4, nbeq_ne hc4]; rfl
      unfold rnx rnv
      rw [if_neg e1, if_neg e1]
      rw [ev] at T
      rw [eo] at hl
      exact tri_upd T hl lo2_ptr (lo2_rd hC) (lo2_rd (Nat.lt_of_le_of_lt (Nat.sub_le _ _) hC)) (fun σ => rfl) (fl_byts hb) l1 l0
end Go.Proofs.Ytdcakhahagbedaa
