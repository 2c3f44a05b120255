/-
  Lists of numbers; rows under new names; contracts of functions of one list, of two.
-/
import Derived.Test.YtmoflcoijmmpjaaKitO
namespace Go.Proofs.Ytmoflcoijmmpjaa
set_option linter.unusedSimpArgs false
set_option linter.unusedVariables false
set_option linter.unusedSectionVars false
open Go Go.RowKit

def Ints (k : IntKind) (xs : List Value) : Prop := xs = (intsOf xs).map (Value.int k)
theorem Ints.get {k : IntKind} {xs : List Value} (h : Ints k xs) {i : Nat} (hi : i < xs.length) : xs[i]? = some (.int k (intAt xs i)) := by
  have hl : (intsOf xs).length = xs.length := by simp [intsOf]
  have hi' : i < (intsOf xs).length := by omega
  have e : xs[i]? = some (.int k (intsOf xs)[i]) := by
    conv => lhs; rw [h]
    rw [List.getElem?_map, List.getElem?_eq_getElem hi']
    rfl
  have ei : intAt xs i = (intsOf xs)[i] := by unfold intAt; rw [e]
  rw [ei]; exact e
theorem Ints.fl {k : IntKind} {xs : List Value} (h : Ints k xs) : Fl xs := by rw [h]; exact Fl.ints _ _
theorem drop_get {xs : List Value} {o : Nat} {a : Value} (h : xs[o]? = some a) : xs.drop o = a :: xs.drop (o + 1) := by
  obtain ⟨h1, h2⟩ := List.getElem?_eq_some_iff.1 h
  rw [← h2]; exact List.drop_eq_getElem_cons h1
theorem Ints.of {k : IntKind} {l : List Int} : Ints k (l.map (Value.int k)) := by unfold Ints; rw [intsOf_map]
theorem intsOf_take (l : List Value) (n : Nat) : intsOf (l.take n) = (intsOf l).take n := by unfold intsOf; rw [List.map_take]
theorem intsOf_drop (l : List Value) (n : Nat) : intsOf (l.drop n) = (intsOf l).drop n := by unfold intsOf; rw [List.map_drop]
theorem Byts.take {l : List Value} (h : Byts l) (n : Nat) : Byts (l.take n) := by
  refine ⟨?_, fun x hx => h.2 x ?_⟩
  · rw [intsOf_take, List.map_take, ← h.1]
  · rw [intsOf_take] at hx; exact List.mem_of_mem_take hx
theorem Byts.drop {l : List Value} (h : Byts l) (n : Nat) : Byts (l.drop n) := by
  refine ⟨?_, fun x hx => h.2 x ?_⟩
  · rw [intsOf_drop, List.map_drop, ← h.1]
  · rw [intsOf_drop] at hx; exact List.mem_of_mem_drop hx
theorem take_len {xs : List Value} {n : Nat} (h : xs.length = n) : xs.take n = xs := List.take_of_length_le (by omega)
theorem lo_at {v : Value} {o l m : Nat} (h : l < m) : loO (some v) o l m 1 = o + l := by
  unfold loO slO
  rw [show Nat.beq m l = false from nbeq_false (by omega)]
  simp
theorem rb_old {lo N : Nat} {ρ : Nat → Nat} {h0 h1 : Hp} {n : Nat} {xs : List Value} (h : n < lo) (hl : lk h1 n = some ⟨.old, xs⟩) (hx : Fl xs) : RbRow lo N ρ h0 h1 n ⟨.old, xs⟩ :=
  ⟨n, _, by unfold fnN; rw [blt_of h]; rfl, hl, rfl, rfl, .inl (hx _)⟩
theorem rb_row {lo N : Nat} {ρ : Nat → Nat} {h0 h1 : Hp} {n m : Nat} {kd : Kd} {cs ds : List Value} (hn : fnN lo N ρ n = some m) (hl : lk h1 m = some ⟨kd, ds⟩) (hk : plainKd kd = true) (e : ds = cs) (hx : Fl cs) : RbRow lo N ρ h0 h1 n ⟨kd, cs⟩ :=
  ⟨m, _, hn, hl, rfl, recKd_of hk, .inl (by rw [e]; exact hx _)⟩
theorem rb_rec {lo N : Nat} {ρ : Nat → Nat} {h0 h1 : Hp} {n m : Nat} {kd : Kd} (hn : fnN lo N ρ n = some m) (hl : lk h1 m = some ⟨kd, []⟩) (hk : recKd (sgf lo N ρ) kd) : RbRow lo N ρ h0 h1 n ⟨kd, []⟩ :=
  ⟨m, _, hn, hl, rfl, hk, .inl rfl⟩
/-- A round after which there are more names. -/
theorem LRuns.stepTo {inr : Bool} {P : Program} {x : Code} {lo M N N' n : Nat} {h0 h h1 h2 : Hp} {l l1 l2 : List (Nat × Value)} {nx1 : Nat} {d1 : List Nat} {o : LO} (hrun : RunsL inr (fun F m Q => x.wpIn F m P Q) (SL n l) h N (.normal, n, l1, h1, nx1, d1, [])) (hB : bdB h N = true) (hlN : lo ≤ N) (hM : nx1 ≤ M) (hlN' : lo ≤ N') (hNM : N' ≤ M) (ρ : Nat → Nat) (hT : RbT (sgf lo N' ρ) l2 l1) (hH : RbL lo N' ρ h0 h1 h2) (hI : injN lo N' ρ h2 = true) (hnext : LRuns inr P x lo M h0 n l2 h2 N' o) :
    LRuns inr P x lo M h0 n l h N o := by
  intro W σ0 w0 σ w a hR0 hf S ht ds hd F m hF hr Q hQ
  have hNx : N ≤ nx1 := hrun.1.1
  refine again_of (hrun.2 (bdB_ok hB) W σ w a S.rl (fun k h1 h2 => by simp only at h2; rw [(S.only k (.inr h1)).1, (S.only k (.inr h1)).2]; exact hf k (by omega) (by omega)) ht.rt ds hd F m hF hr _ fun σ1 w1 a1 es S1 t1 he hd1 => ?_)
  simp only [dfR, Option.some.injEq] at he
  subst he
  obtain ⟨τ, S2, hv⟩ := (S.trans S1 hlN hNx).rebase hR0 hf hlN' hNM hH hI
  exact hnext W σ0 w0 τ w1 a1 hR0 hf S2 (t1.via hT hv) ds (by simpa using hd1) F m hF hr Q hQ
/-! ### contracts of functions of one list -/
abbrev Spec1 := List Value → Nat → Tape → Option (Gr × Tape × List Prop)
def gS (S : Spec1) : GSpec := fun av tp => match av with
  | [a] => (match bytsA a with | some xs => S xs (avLen a) tp | none => none)
  | _ => none
/-- A contract's run at arguments of its own. -/
def Ran (P : Program) (f : FuncId) (args : List Value) (h : Hp) (nx : Nat) (gr : Gr) : Prop := ∃ v0 h0' nx0' d0 g, Tri P f args h nx (v0, h0', nx0', d0) ∧ GrIs gr v0 h0' g
theorem gS_ok {P : Program} {f : FuncId} {size : Nat} {S : Spec1} (hnil : ∀ tp gr tp' ob, S [] 0 tp = some (gr, tp', ob) → Alls ob → Ran P f [.slice none 0 0] [] 1 gr)
    (hsl : ∀ xs n c tp gr tp' ob, S xs n tp = some (gr, tp', ob) → Alls ob → Fl xs → xs.length = n * size → n ≤ c ∧ c ≤ 9223372036854775807 → Ran P f [.slice (some ⟨0, 0, none⟩) n c] [(0, ⟨.old, xs⟩)] 1 gr) : GOk P f [.s size] (gS S) := by
  intro av tp gr tp' ob hG ho hP caps hcap
  obtain ⟨a, rfl, pa⟩ := avps1 hP
  obtain ⟨c, rfl⟩ := caps1 hcap
  unfold gS at hG
  simp only at hG
  cases a with
  | ag p zs m => simp [AvP] at pa
  | sc zs l m => simp [AvP] at pa
  | fl v =>
    simp only [AvP] at pa
    subst pa
    exact hnil _ _ _ _ hG ho
  | sl zs n => exact hsl _ _ _ _ _ _ _ hG ho pa.1 pa.2 hcap.1
/-! ### of two -/
abbrev Spec2 := List Value → Nat → List Value → Nat → Tape → Option (Gr × Tape × List Prop)
def gSS (S : Spec2) : GSpec := fun av tp => match av with
  | [a, b] => (match bytsA a, bytsA b with | some xs, some ys => S xs (avLen a) ys (avLen b) tp | _, _ => none)
  | _ => none
theorem gSS_ok {P : Program} {f : FuncId} {sa sb : Nat} {S : Spec2}
    (h0 : ∀ tp gr tp' ob, S [] 0 [] 0 tp = some (gr, tp', ob) → Alls ob → Ran P f [.slice none 0 0, .slice none 0 0] [] 2 gr)
    (h1 : ∀ xs n c tp gr tp' ob, S xs n [] 0 tp = some (gr, tp', ob) → Alls ob → Fl xs → xs.length = n * sa → n ≤ c ∧ c ≤ 9223372036854775807 → Ran P f [.slice (some ⟨0, 0, none⟩) n c, .slice none 0 0] [(0, ⟨.old, xs⟩)] 2 gr)
    (h2 : ∀ ys m d tp gr tp' ob, S [] 0 ys m tp = some (gr, tp', ob) → Alls ob → Fl ys → ys.length = m * sb → m ≤ d ∧ d ≤ 9223372036854775807 → Ran P f [.slice none 0 0, .slice (some ⟨1, 0, none⟩) m d] [(1, ⟨.old, ys⟩)] 2 gr)
    (h3 : ∀ xs n c ys m d tp gr tp' ob, S xs n ys m tp = some (gr, tp', ob) → Alls ob → Fl xs → xs.length = n * sa → n ≤ c ∧ c ≤ 9223372036854775807 → Fl ys → ys.length = m * sb → m ≤ d ∧ d ≤ 9223372036854775807 → Ran P f [.slice (some ⟨0, 0, none⟩) n c, .slice (some ⟨1, 0, none⟩) m d] [(0, ⟨.old, xs⟩), (1, ⟨.old, ys⟩)] 2 gr) : GOk P f [.s sa, .s sb] (gSS S) := by
  intro av tp gr tp' ob hG ho hP caps hcap
  obtain ⟨a, b, rfl, pa, pb⟩ := avps2 hP
  obtain ⟨c, d, rfl⟩ := caps2 hcap
  unfold gSS at hG
  simp only at hG
  cases a with
  | ag p zs m => simp [AvP] at pa
  | sc zs l m => simp [AvP] at pa
  | fl v =>
    simp only [AvP] at pa
    subst pa
    cases b with
    | ag p zs m => simp [AvP] at pb
    | sc zs l m => simp [AvP] at pb
    | fl u =>
      simp only [AvP] at pb
      subst pb
      exact h0 _ _ _ _ hG ho
    | sl zs m => exact h2 _ _ _ _ _ _ _ hG ho pb.1 pb.2 hcap.1
  | sl xs n =>
    cases b with
    | ag p zs m => simp [AvP] at pb
    | sc zs l m => simp [AvP] at pb
    | fl u =>
      simp only [AvP] at pb
      subst pb
      exact h1 _ _ _ _ _ _ _ hG ho pa.1 pa.2 hcap.1
    | sl zs m => exact h3 _ _ _ _ _ _ _ _ _ _ hG ho pa.1 pa.2 hcap.1 pb.1 pb.2 hcap.2.1
end Go.Proofs.Ytmoflcoijmmpjaa
