/-
  A region that draws its order: operations that only read, operations and calls that make new memory, in any order; at most a forced tail behind them. One walk in the order of the text serves every order.
-/
import Derived.Test.YtcahhoemlmbnaaaHeap
import Derived.StillTail
namespace Go.Proofs.Ytcahhoemlmbnaaa
set_option linter.unusedSimpArgs false
set_option linter.unusedVariables false
set_option linter.unusedSectionVars false
open Go

abbrev Blocks := List (Nat × List Value)

theorem Has.perm {B : Nat} {w : World} {L L' : Blocks} (h : Has B w L) (hp : L.Perm L') : Has B w L' :=
  ⟨fun p hp' => h.1 p (hp.mem_iff.2 hp'), (hp.map _).nodup_iff.1 h.2⟩
theorem Has.append {B : Nat} {w w' : World} {L Ln : Blocks} (h : Has B w L) (hB : B ≤ w.heap.size) (hx : Ext w w') (hn : Has w.heap.size w' Ln) : Has B w' (Ln ++ L) := by
  have h' := h.ext hx
  refine ⟨fun p hp => ?_, ?_⟩
  · rcases List.mem_append.1 hp with hp | hp
    · exact ⟨Nat.le_trans hB (hn.1 p hp).1, (hn.1 p hp).2⟩
    · exact h'.1 p hp
  · rw [List.map_append, List.nodup_append]
    refine ⟨hn.2, h'.2, fun x hx1 y hy1 e => ?_⟩
    obtain ⟨p, hp, rfl⟩ := List.mem_map.1 hx1
    obtain ⟨q, hq, rfl⟩ := List.mem_map.1 hy1
    have := (hn.1 p hp).1
    have := (h.1 q hq).2.lt
    omega

section
variable {P : Program} {ops : Array Oper} {md : Region.Mode} {w0 : World} {Φ : Nat → Option (Value → Blocks → Prop)}

/-- The operation reads alone: one value in every later world, which it leaves as it is. -/
def OReads (P : Program) (w0 : World) (o : Oper) (a : Act) (v : Value) : Prop := ∀ w, Ext w0 w → (execOp a.eval o).run P w = .ok (.value v) w
/-- The operation makes memory alone: a value and new blocks of which φ holds. -/
def MadeBy (P : Program) (φ : Value → Blocks → Prop) (w : World) : Result Next → Prop
  | .ok (.value v) w' => ∃ Ln, φ v Ln ∧ Ext w w' ∧ Has w.heap.size w' Ln
  | .ok (.enter f args) w' => Calls P f args w' fun e w'' => ∃ v Ln, e = .returned v ∧ φ v Ln ∧ Ext w w'' ∧ Has w.heap.size w'' Ln
  | _ => False
def OMakes (P : Program) (w0 : World) (o : Oper) (a : Act) (φ : Value → Blocks → Prop) : Prop :=
  ∀ w, Ext w0 w → MadeBy P φ w ((execOp a.eval o).run P w)
theorem wp_of_makes {o : Oper} {a : Act} {φ : Value → Blocks → Prop} (h : OMakes P w0 o a φ) {w : World} (hw : Ext w0 w) {K : Act → World → Prop} {Q : Exit → Act → World → Prop}
    (hK : ∀ v Ln w', φ v Ln → Ext w w' → Has w.heap.size w' Ln → K (a.put o.dst v) w') : o.wp P a w K Q := by
  have h1 := h w hw
  unfold Oper.wp
  generalize (execOp a.eval o).run P w = r at *
  cases r with
  | ok n w' =>
    cases n <;> simp only [MadeBy] at h1 <;> simp only [Oper.upon]
    case value v => obtain ⟨Ln, h2, h3, h4⟩ := h1; exact hK _ _ _ h2 h3 h4
    case enter f args => exact h1.mono fun e w'' ⟨v, Ln, he, h2, h3, h4⟩ => by subst he; exact hK _ _ _ h2 h3 h4
  | halt x w' => simp only [MadeBy] at h1
theorem wp_of_reads {o : Oper} {a : Act} {v : Value} (h : ∀ w, Ext w0 w → (execOp a.eval o).run P w = .ok (.value v) w) {w : World} (hw : Ext w0 w) {K : Act → World → Prop} {Q : Exit → Act → World → Prop}
    (hK : K (a.put o.dst v) w) : o.wp P a w K Q := by
  unfold Oper.wp
  rw [h w hw]
  exact hK

def mOp (P : Program) (ops : Array Oper) (w0 : World) (Φ : Nat → Option (Value → Blocks → Prop)) (i : Nat) (K : Act → Blocks → Prop) (a : Act) (L : Blocks) : Prop :=
  match ops[i]? with
  | none => K a L
  | some o => if Region.wanted o (yielded ops a.tmps) then
      match Φ i with
      | none => ∃ v, OReads P w0 o a v ∧ K (a.put o.dst v) L
      | some φ => OMakes P w0 o a φ ∧ (∃ v Ln, φ v Ln) ∧ ∀ v Ln, φ v Ln → K (a.put o.dst v) (Ln ++ L)
    else K (a.put o.dst undef) L

/-- In the order of the text. -/
def wpM (P : Program) (ops : Array Oper) (w0 : World) (Φ : Nat → Option (Value → Blocks → Prop)) (Q : Act → Blocks → Prop) : Nat → List Oper → Act → Blocks → Prop
  | _, [], a, L => Q a L
  | k, o :: rest, a, L => if Region.wanted o (yielded ops a.tmps) then
      match Φ k with
      | none => ∃ v, OReads P w0 o a v ∧ wpM P ops w0 Φ Q (k + 1) rest (a.put o.dst v) L
      | some φ => OMakes P w0 o a φ ∧ (∃ v Ln, φ v Ln) ∧ ∀ v Ln, φ v Ln → wpM P ops w0 Φ Q (k + 1) rest (a.put o.dst v) (Ln ++ L)
    else wpM P ops w0 Φ Q (k + 1) rest (a.put o.dst undef) L

def PermInv (K : Act → Blocks → Prop) : Prop := ∀ a L L', L.Perm L' → K a L → K a L'

theorem mOp_perm {i : Nat} {K : Act → Blocks → Prop} (hK : PermInv K) : PermInv (mOp P ops w0 Φ i K) := by
  intro a L L' hp h
  unfold mOp at *
  split
  · rename_i ho; simp only [ho] at h; exact hK _ _ _ hp h
  · rename_i o ho
    simp only [ho] at h
    split
    · rename_i hw
      rw [if_pos hw] at h
      split
      · rename_i e; simp only [e] at h; obtain ⟨v, h1, h2⟩ := h; exact ⟨v, h1, hK _ _ _ hp h2⟩
      · rename_i φ e; simp only [e] at h; exact ⟨h.1, h.2.1, fun v Ln hv => hK _ _ _ (hp.append_left Ln) (h.2.2 v Ln hv)⟩
    · rename_i hw; rw [if_neg hw] at h; exact hK _ _ _ hp h

/-- What an operation of the region may yield. -/
def Yd (P : Program) (ops : Array Oper) (w0 : World) (Φ : Nat → Option (Value → Blocks → Prop)) (i : Nat) (o : Oper) (a : Act) (S : Value → Blocks → Prop) : Prop :=
  (∃ v Ln, S v Ln) ∧
  ((Region.wanted o (yielded ops a.tmps) = true ∧ Φ i = none ∧ ∃ v, OReads P w0 o a v ∧ ∀ u Ln, S u Ln ↔ u = v ∧ Ln = []) ∨
   (Region.wanted o (yielded ops a.tmps) = true ∧ Φ i = some S ∧ OMakes P w0 o a S) ∨
   (Region.wanted o (yielded ops a.tmps) = false ∧ ∀ u Ln, S u Ln ↔ u = undef ∧ Ln = []))

theorem Yd.mOp {i : Nat} {o : Oper} {a : Act} {S : Value → Blocks → Prop} (hi : ops[i]? = some o) (hy : Yd P ops w0 Φ i o a S) {K : Act → Blocks → Prop} {L : Blocks} (h : ∀ v Ln, S v Ln → K (a.put o.dst v) (Ln ++ L)) : mOp P ops w0 Φ i K a L := by
  unfold Go.Proofs.Ytcahhoemlmbnaaa.mOp
  simp only [hi]
  rcases hy.2 with ⟨hw, hΦ, v, hr, hS⟩ | ⟨hw, hΦ, hm⟩ | ⟨hw, hS⟩
  · simp only [hw, if_true, hΦ]
    exact ⟨v, hr, by simpa using h v [] ((hS v []).2 ⟨rfl, rfl⟩)⟩
  · simp only [hw, if_true, hΦ]
    exact ⟨hm, hy.1, h⟩
  · simp only [hw, Bool.false_eq_true, if_false]
    simpa using h undef [] ((hS undef []).2 ⟨rfl, rfl⟩)

theorem yd_of_mOp {i : Nat} {o : Oper} {a : Act} {K : Act → Blocks → Prop} {L : Blocks} (hi : ops[i]? = some o) (h : mOp P ops w0 Φ i K a L) : ∃ S, Yd P ops w0 Φ i o a S ∧ ∀ v Ln, S v Ln → K (a.put o.dst v) (Ln ++ L) := by
  unfold mOp at h
  simp only [hi] at h
  by_cases hw : Region.wanted o (yielded ops a.tmps) = true
  · rw [if_pos hw] at h
    cases hΦ : Φ i with
    | none =>
      simp only [hΦ] at h
      obtain ⟨v, h1, h2⟩ := h
      exact ⟨fun u Ln => u = v ∧ Ln = [], ⟨⟨v, [], rfl, rfl⟩, .inl ⟨hw, hΦ, v, h1, fun _ _ => Iff.rfl⟩⟩, fun u Ln hu => by obtain ⟨rfl, rfl⟩ := hu; simpa using h2⟩
    | some φ =>
      simp only [hΦ] at h
      exact ⟨φ, ⟨h.2.1, .inr (.inl ⟨hw, hΦ, h.1⟩)⟩, h.2.2⟩
  · rw [if_neg hw] at h
    exact ⟨fun u Ln => u = undef ∧ Ln = [], ⟨⟨undef, [], rfl, rfl⟩, .inr (.inr ⟨by simpa using hw, fun _ _ => Iff.rfl⟩)⟩, fun u Ln hu => by obtain ⟨rfl, rfl⟩ := hu; simpa using h⟩

theorem reads_same {o : Oper} {a a' : Act} {v : Value} (he : execOp a'.eval o = execOp a.eval o) (h : OReads P w0 o a v) : OReads P w0 o a' v := by
  intro w hw; rw [he]; exact h w hw
theorem makes_same {o : Oper} {a a' : Act} {φ : Value → Blocks → Prop} (he : execOp a'.eval o = execOp a.eval o) (h : OMakes P w0 o a φ) : OMakes P w0 o a' φ := by
  intro w hw; rw [he]; exact h w hw
theorem Yd.same {i : Nat} {o : Oper} {a a' : Act} {S : Value → Blocks → Prop} (he : execOp a'.eval o = execOp a.eval o) (hw : Region.wanted o (yielded ops a'.tmps) = Region.wanted o (yielded ops a.tmps))
    (hy : Yd P ops w0 Φ i o a S) : Yd P ops w0 Φ i o a' S := by
  refine ⟨hy.1, ?_⟩
  rw [hw]
  rcases hy.2 with ⟨h1, h2, v, hr, hS⟩ | ⟨h1, h2, hm⟩ | h
  · exact .inl ⟨h1, h2, v, reads_same he hr, hS⟩
  · exact .inr (.inl ⟨h1, h2, makes_same he hm⟩)
  · exact .inr (.inr h)

/-- Operation j, apart from i: whether what i yields is already there makes no difference to it, and it makes none to i. -/
theorem mOp_put {i j : Nat} {oi oj : Oper} {S : Value → Blocks → Prop} (hj : ops[j]? = some oj) (hap : oi.apart ops oj = true)
    (hsi : ∀ cs b, oi.op ≠ .select cs b) (hsj : ∀ cs b, oj.op ≠ .select cs b) {K : Act → Blocks → Prop} (hK : PermInv K) {a : Act} {L : Blocks}
    (hy : Yd P ops w0 Φ i oi a S) (h : ∀ v Ln, S v Ln → mOp P ops w0 Φ j K (a.put oi.dst v) (Ln ++ L)) :
    mOp P ops w0 Φ j (fun a' L' => Yd P ops w0 Φ i oi a' S ∧ ∀ v Ln, S v Ln → K (a'.put oi.dst v) (Ln ++ L')) a L := by
  obtain ⟨h1, h2, h3⟩ := Oper.apart_spec hap
  have keep : ∀ u, Yd P ops w0 Φ i oi (a.put oj.dst u) S := fun u => hy.same (execOp_put oi hsi a oj.dst u h3) (wanted_put oi a oj.dst u h3)
  obtain ⟨v0, L0, hS0⟩ := hy.1
  have h0 := h v0 L0 hS0
  unfold mOp at *
  simp only [hj] at *
  rw [wanted_put oj a oi.dst v0 h1] at h0
  split
  · rename_i hw
    rw [if_pos hw] at h0
    cases hΦ : Φ j with
    | none =>
      simp only [hΦ] at h0 h ⊢
      obtain ⟨u, hu, _⟩ := h0
      have hu' := reads_same (a' := a) (execOp_put oj hsj a oi.dst v0 h1).symm hu
      refine ⟨u, hu', keep u, fun v Ln hv => ?_⟩
      have hh := h v Ln hv
      rw [wanted_put oj a oi.dst v h1, if_pos hw] at hh
      obtain ⟨u', hr', hk⟩ := hh
      have e1 := hu' w0 (Ext.refl w0)
      have e2 := hr' w0 (Ext.refl w0)
      rw [execOp_put oj hsj a oi.dst v h1, e1] at e2
      have : u = u' := by simpa using e2
      subst this
      rw [← Act.put_comm a v u h2]
      exact hk
    | some φ =>
      simp only [hΦ] at h0 h ⊢
      refine ⟨makes_same (execOp_put oj hsj a oi.dst v0 h1).symm h0.1, h0.2.1, fun u Lu hu => ⟨keep u, fun v Ln hv => ?_⟩⟩
      have hh := h v Ln hv
      rw [wanted_put oj a oi.dst v h1, if_pos hw] at hh
      have := hh.2.2 u Lu hu
      rw [← Act.put_comm a v u h2]
      refine hK _ _ _ ?_ this
      rw [← List.append_assoc, ← List.append_assoc]
      exact List.Perm.append_right L List.perm_append_comm
  · rename_i hw
    refine ⟨keep _, fun v Ln hv => ?_⟩
    have hh := h v Ln hv
    rw [wanted_put oj a oi.dst v h1, if_neg hw] at hh
    rw [← Act.put_comm a v undef h2]
    exact hh

theorem mOp_mono {i : Nat} {a : Act} {L : Blocks} {K K' : Act → Blocks → Prop} (h : ∀ a L, K a L → K' a L) (hh : mOp P ops w0 Φ i K a L) : mOp P ops w0 Φ i K' a L := by
  unfold mOp at *
  split
  · rename_i ho; simp only [ho] at hh; exact h _ _ hh
  · rename_i o ho
    simp only [ho] at hh
    split
    · rename_i hw
      rw [if_pos hw] at hh
      split
      · rename_i e; simp only [e] at hh; obtain ⟨v, h1, h2⟩ := hh; exact ⟨v, h1, h _ _ h2⟩
      · rename_i φ e; simp only [e] at hh; exact ⟨hh.1, hh.2.1, fun v Ln hv => h _ _ (hh.2.2 v Ln hv)⟩
    · rename_i hw; rw [if_neg hw] at hh; exact h _ _ hh

theorem wpOp_of_mOp {B i : Nat} {a : Act} {L : Blocks} {K : Act → Blocks → Prop} {K' : Act → World → Prop} {Q' : Exit → Act → World → Prop} {w : World} (hx : Ext w0 w) (hB : B ≤ w.heap.size) (hH : Has B w L)
    (h : ∀ a' L' w', Ext w0 w' → B ≤ w'.heap.size → Has B w' L' → K a' L' → K' a' w') (hh : mOp P ops w0 Φ i K a L) : wpOp P ops Q' i K' a w := by
  unfold mOp at hh
  unfold wpOp
  split
  · rename_i ho; simp only [ho] at hh; exact h _ _ _ hx hB hH hh
  · rename_i o ho
    simp only [ho] at hh
    split
    · rename_i hw
      rw [if_pos hw] at hh
      split at hh
      · obtain ⟨v, h1, h2⟩ := hh
        exact .inl (wp_of_reads h1 hx (h _ _ _ hx hB hH h2))
      · obtain ⟨hm, _, h2⟩ := hh
        exact .inl (wp_of_makes hm hx fun v Ln w' hv hx' hn => h _ _ _ (hx.trans hx') (Nat.le_trans hB hx'.size) (hH.append hB hx' hn) (h2 v Ln hv))
    · rename_i hw; rw [if_neg hw] at hh; exact h _ _ _ hx hB hH hh

/-- The next f operations, whichever come up, are among the first n; behind them R. -/
def mHead (P : Program) (md : Region.Mode) (ops : Array Oper) (w0 : World) (Φ : Nat → Option (Value → Blocks → Prop)) (n : Nat) (R : Array Bool → Act → Blocks → Prop) : Nat → Array Bool → Act → Blocks → Prop
  | 0 => R
  | f + 1 => fun lst a L => (∃ i, i ∈ Region.ready md ops lst) ∧ ∀ i ∈ Region.ready md ops lst, i < n ∧ mOp P ops w0 Φ i (mHead P md ops w0 Φ n R f (lst.setIfInBounds i true)) a L

theorem mHead_perm {n : Nat} {R : Array Bool → Act → Blocks → Prop} (hR : ∀ lst, PermInv (R lst)) : ∀ (f : Nat) (lst : Array Bool), PermInv (mHead P md ops w0 Φ n R f lst)
  | 0, lst => hR lst
  | f + 1, lst => fun a L L' hp h => ⟨h.1, fun i hi => ⟨(h.2 i hi).1, mOp_perm (mHead_perm hR f _) _ _ _ hp (h.2 i hi).2⟩⟩

theorem mHead_any {B n g : Nat} {R : Array Bool → Act → Blocks → Prop} {Q' : Exit → Act → World → Prop} (hR : ∀ lst a L w, Ext w0 w → B ≤ w.heap.size → Has B w L → R lst a L → wpAny P md ops Q' g lst a w) (f : Nat) :
    ∀ lst a L w, Ext w0 w → B ≤ w.heap.size → Has B w L → mHead P md ops w0 Φ n R f lst a L → wpAny P md ops Q' (g + f) lst a w := by
  induction f with
  | zero => intro lst a L w hx hB hH h; exact hR lst a L w hx hB hH h
  | succ f ih =>
    intro lst a L w hx hB hH ⟨⟨i, hi⟩, h⟩
    constructor
    · intro h0; rw [h0] at hi; cases hi
    · intro j hj
      exact wpOp_of_mOp hx hB hH (fun a' L' w' hx' hB' hH' h' => ih _ a' L' w' hx' hB' hH' h') (h j hj).2

/-- One of the first n that may come up now may be taken first. -/
theorem mHead_take {n i : Nat} {oi : Oper} {S : Value → Blocks → Prop} {R : Array Bool → Act → Blocks → Prop} (hRp : ∀ lst, PermInv (R lst)) (hi : ops[i]? = some oi) (hns : Region.noSelect ops = true)
    (Inv : Array Bool → Prop) (hset : ∀ lst j, Inv lst → j ∈ Region.ready md ops lst → j < n → Inv (lst.setIfInBounds j true))
    (hlt : ∀ lst, Inv lst → lst.getD i true = false → ∀ j ∈ Region.ready md ops lst, j < n) (hin : i < n)
    (hend : ∀ lst a L, R lst a L → ∀ j ∈ Region.ready md ops lst, n ≤ j) (f : Nat) :
    ∀ lst a L, Inv lst →
      (∀ j oj, ops[j]? = some oj → j ≠ i → lst.getD j true = false → (∀ e ∈ oj.after, Region.binds md e = true → e.on ≠ i) → oi.apart ops oj = true) →
      i ∈ Region.ready md ops lst → Yd P ops w0 Φ i oi a S → (∀ v Ln, S v Ln → mHead P md ops w0 Φ n R f (lst.setIfInBounds i true) (a.put oi.dst v) (Ln ++ L)) → mHead P md ops w0 Φ n R (f + 1) lst a L := by
  induction f with
  | zero =>
    intro lst a L inv _ hr hy H
    refine ⟨⟨i, hr⟩, fun j hj => ?_⟩
    have hjn : j < n := hlt lst inv (mem_ready.1 hr).1 j hj
    by_cases e : j = i
    · subst e; exact ⟨hjn, hy.mOp hi H⟩
    · obtain ⟨v, Ln, hv⟩ := hy.1
      have := hend _ _ _ (H v Ln hv) j (ready_mono hj e); omega
  | succ f ih =>
    intro lst a L inv hfree hr hy H
    refine ⟨⟨i, hr⟩, fun j hj => ?_⟩
    have hjn : j < n := hlt lst inv (mem_ready.1 hr).1 j hj
    by_cases e : j = i
    · subst e; exact ⟨hjn, hy.mOp hi H⟩
    refine ⟨hjn, ?_⟩
    obtain ⟨hju, oj, hoj, hall⟩ := mem_ready.1 hj
    have hiu := (mem_ready.1 hr).1
    have hnot : ∀ x ∈ oj.after, Region.binds md x = true → x.on ≠ i := by
      intro x hx hb hon
      have h1 := hall x hx hb
      rw [hon, getD_both hiu] at h1
      cases h1
    have h2 := mOp_put hoj (hfree j oj hoj e hju hnot) (fun cs b => Region.noSelect_spec hns i oi cs b hi) (fun cs b => Region.noSelect_spec hns j oj cs b hoj) (mHead_perm hRp f _) hy (fun v Ln hv => ((H v Ln hv).2 j (ready_mono hj e)).2)
    refine mOp_mono (fun a' L' h3 => ih (lst.setIfInBounds j true) a' L' (hset lst j inv hj hjn) ?_ (ready_mono hr (Ne.symm e)) h3.1 ?_) h2
    · intro k ok hk hki hun hno
      by_cases ejk : j = k
      · subst ejk; exact hfree j ok hk hki hju hno
      · rw [getD_set_ne true ejk] at hun; exact hfree k ok hk hki hun hno
    · rw [Array.setIfInBounds_comm _ _ e]; exact h3.2

/-! ### with a forced tail -/
theorem mHead_lex {n g : Nat} {Lq : Act → Blocks → Prop} (hLp : PermInv Lq) (hns : Region.noSelect ops = true) (hs : Region.sinkB md ops n = true) (hc : Region.chainB md ops n = true) (hn : n < ops.size) :
    ∀ (l : List Oper) (k : Nat) (lst : Array Bool) (a : Act) (L : Blocks), (∀ j, j < l.length → l[j]? = ops[k + j]?) → k + l.length = n → HeadInv md ops n lst →
      Region.lexHead md ops g l.length k lst = true → wpM P ops w0 Φ Lq k l a L → mHead P md ops w0 Φ n (fun lst' a' L' => Region.seqB md ops g n lst' = true ∧ Lq a' L') l.length lst a L := by
  intro l
  induction l with
  | nil =>
    intro k lst a L _ hk _ hB h
    obtain rfl : k = n := by simpa using hk
    exact ⟨by simpa [Region.lexHead] using hB, h⟩
  | cons o l ih =>
    intro k lst a L hl hk inv hB h
    have h0 : ops[k]? = some o := by simpa using (hl 0 (by simp)).symm
    simp only [List.length_cons, Region.lexHead, Bool.and_eq_true] at hB
    obtain ⟨⟨hr, hf⟩, hB'⟩ := hB
    have hr' : k ∈ Region.ready md ops lst := by simpa using hr
    have hkn : k < n := by simp only [List.length_cons] at hk; omega
    have hst : mOp P ops w0 Φ k (wpM P ops w0 Φ Lq (k + 1) l) a L := by unfold mOp; simp only [h0]; exact h
    obtain ⟨S, hy, hK⟩ := yd_of_mOp h0 hst
    refine mHead_take (fun lst' a' L1 L2 hp h => ⟨h.1, hLp _ _ _ hp h.2⟩) h0 hns (HeadInv md ops n) (fun lst j inv hj hjn => inv.set hj hjn)
      (fun lst inv hun j hj => Nat.lt_of_not_le fun h => tail_waits hs hc hn inv _ k rfl hkn hun j h hj) hkn (fun lst' a' L' hL => seqB_ready hL.1) l.length lst a L inv (Region.free_spec h0 hf) hr' hy ?_
    intro v Ln hv
    refine ih (k + 1) _ _ _ (fun j hj => ?_) (by simp only [List.length_cons] at hk; omega) (inv.set hr' hkn) hB' (hK v Ln hv)
    have := hl (j + 1) (by simp; omega)
    simpa [Nat.add_assoc, Nat.add_comm 1 j] using this

theorem wp_region_mk_tail {B id : Nat} {Q : Exit → Act → World → Prop} {a : Act} {w : World} {L : Blocks} {l : List Oper} (n : Nat) (Φ : Nat → Option (Value → Blocks → Prop)) (hm : P.follows .mixedOrders = true) (hB : Region.lexTailB .any l.toArray n = true)
    (hb : B ≤ w.heap.size) (hH : Has B w L) (h : wpM P l.toArray w Φ (fun a' L' => ∀ w', Ext w w' → B ≤ w'.heap.size → Has B w' L' → wpList P l.toArray Q (l.drop n) a' w') 0 (l.take n) a L) : (Code.region id l.toArray true).wp P Q a w := by
  simp only [Region.lexTailB, Bool.and_eq_true, decide_eq_true_eq] at hB
  obtain ⟨⟨⟨⟨hns, hn⟩, hs⟩, hc⟩, hlex⟩ := hB
  have hn' : n < l.length := by simpa using hn
  have htl : (l.take n).length = n := by simp; omega
  have hdl : (l.drop n).length = l.toArray.size - n := by simp
  have inv : HeadInv .any l.toArray n (Array.replicate l.toArray.size false) := by
    refine ⟨by simp, fun j oj _ hl => ?_, fun t _ ht => getD_in (by simpa using ht) (getD_replicate_false _ _)⟩
    rw [getD_replicate_false] at hl; cases hl
  have hLp : PermInv (fun a' L' => ∀ w', Ext w w' → B ≤ w'.heap.size → Has B w' L' → wpList P l.toArray Q (l.drop n) a' w') := fun a' L1 L2 hp h w' hx hb' hH' => h w' hx hb' (hH'.perm hp.symm)
  have H := mHead_lex (md := .any) (g := l.toArray.size - n) hLp hns hs hc hn (l.take n) 0 _ a L (fun j hj => by rw [htl] at hj; simp [hj]) (by simpa using htl) inv (by rw [htl]; exact hlex) h
  refine wp_region_any hm ?_
  have hd : Ext w { w with drawn := w.drawn + 1 } := Ext.drew (Ext.refl w)
  have H2 := mHead_any (B := B) (Q' := Q) (g := l.toArray.size - n) (fun lst a' L' w' hw' hb' hH' hL => by
    have h1 := wpAny_of_seq (md := .any) (Q' := Q) (l.drop n) n lst a' w' (fun j => by simp [List.getElem?_drop]) (by rw [hdl]; exact hL.1) (hL.2 w' hw' hb' hH')
    rwa [hdl] at h1) _ _ _ _ _ hd (Nat.le_trans hb hd.size) (hH.ext hd) H
  rw [htl, show l.toArray.size - n + n = l.toArray.size by omega] at H2
  exact H2

/-! ### without a tail -/
theorem mHead_lex0 {Lq : Act → Blocks → Prop} (hLp : PermInv Lq) (hns : Region.noSelect ops = true) :
    ∀ (l : List Oper) (k : Nat) (lst : Array Bool) (a : Act) (L : Blocks), (∀ j, j < l.length → l[j]? = ops[k + j]?) → k + l.length = ops.size →
      Region.lexFrom md ops l.length k lst = true → wpM P ops w0 Φ Lq k l a L → mHead P md ops w0 Φ ops.size (fun lst' a' L' => Region.ready md ops lst' = [] ∧ Lq a' L') l.length lst a L := by
  intro l
  induction l with
  | nil =>
    intro k lst a L _ hk hB h
    exact ⟨by simpa [Region.lexFrom] using hB, h⟩
  | cons o l ih =>
    intro k lst a L hl hk hB h
    have h0 : ops[k]? = some o := by simpa using (hl 0 (by simp)).symm
    simp only [List.length_cons, Region.lexFrom, Bool.and_eq_true] at hB
    obtain ⟨⟨hr, hf⟩, hB'⟩ := hB
    have hr' : k ∈ Region.ready md ops lst := by simpa using hr
    have hkn : k < ops.size := by simp only [List.length_cons] at hk; omega
    have hst : mOp P ops w0 Φ k (wpM P ops w0 Φ Lq (k + 1) l) a L := by unfold mOp; simp only [h0]; exact h
    obtain ⟨S, hy, hK⟩ := yd_of_mOp h0 hst
    refine mHead_take (fun lst' a' L1 L2 hp h => ⟨h.1, hLp _ _ _ hp h.2⟩) h0 hns (fun _ => True) (fun _ _ _ _ _ => trivial)
      (fun lst _ hun j hj => by obtain ⟨_, oj, hoj, _⟩ := mem_ready.1 hj; exact (Array.getElem?_eq_some_iff.1 hoj).1) hkn (fun lst' a' L' hL j hj => by rw [hL.1] at hj; cases hj) l.length lst a L trivial (Region.free_spec h0 hf) hr' hy ?_
    intro v Ln hv
    refine ih (k + 1) _ _ _ (fun j hj => ?_) (by simp only [List.length_cons] at hk; omega) hB' (hK v Ln hv)
    have := hl (j + 1) (by simp; omega)
    simpa [Nat.add_assoc, Nat.add_comm 1 j] using this

theorem wp_region_mk {B id : Nat} {Q : Exit → Act → World → Prop} {a : Act} {w : World} {L : Blocks} {l : List Oper} (Φ : Nat → Option (Value → Blocks → Prop)) (hm : P.follows .mixedOrders = true) (hB : Region.lexB .any l.toArray = true)
    (hb : B ≤ w.heap.size) (hH : Has B w L) (h : wpM P l.toArray w Φ (fun a' L' => ∀ w', Ext w w' → B ≤ w'.heap.size → Has B w' L' → Q .normal a' w') 0 l a L) : (Code.region id l.toArray true).wp P Q a w := by
  simp only [Region.lexB, Bool.and_eq_true] at hB
  have hLp : PermInv (fun a' L' => ∀ w', Ext w w' → B ≤ w'.heap.size → Has B w' L' → Q .normal a' w') := fun a' L1 L2 hp h w' hx hb' hH' => h w' hx hb' (hH'.perm hp.symm)
  have H := mHead_lex0 (md := .any) hLp hB.1 l 0 (Array.replicate l.toArray.size false) a L (fun j hj => by simp) (by simp) (by simpa using hB.2) h
  refine wp_region_any hm ?_
  have hd : Ext w { w with drawn := w.drawn + 1 } := Ext.drew (Ext.refl w)
  have H2 := mHead_any (B := B) (Q' := Q) (g := 0) (fun lst a' L' w' hw' hb' hH' hL => ⟨hL.1, hL.2 w' hw' hb' hH'⟩) _ _ _ _ _ hd (Nat.le_trans hb hd.size) (hH.ext hd) H
  simpa using H2

/-! ### one operation at a time -/
theorem m_read {Q : Act → Blocks → Prop} {k : Nat} {o : Oper} {rest : List Oper} {a : Act} {L : Blocks} (hΦ : Φ k = none) (hw : Region.wanted o (yielded ops a.tmps) = true) (v : Value) (hy : OReads P w0 o a v) (h : wpM P ops w0 Φ Q (k + 1) rest (a.put o.dst v) L) : wpM P ops w0 Φ Q k (o :: rest) a L := by
  unfold wpM
  simp only [hw, if_true, hΦ]
  exact ⟨v, hy, h⟩
theorem m_skip {Q : Act → Blocks → Prop} {k : Nat} {o : Oper} {rest : List Oper} {a : Act} {L : Blocks} (hw : Region.wanted o (yielded ops a.tmps) = false) (h : wpM P ops w0 Φ Q (k + 1) rest (a.put o.dst undef) L) : wpM P ops w0 Φ Q k (o :: rest) a L := by
  unfold wpM
  simp only [hw, Bool.false_eq_true, if_false]
  exact h
theorem m_make {Q : Act → Blocks → Prop} {k : Nat} {o : Oper} {rest : List Oper} {a : Act} {L : Blocks} (φ : Value → Blocks → Prop) (hΦ : Φ k = some φ) (hw : Region.wanted o (yielded ops a.tmps) = true) (hy : OMakes P w0 o a φ) (hne : ∃ v Ln, φ v Ln) (h : ∀ v Ln, φ v Ln → wpM P ops w0 Φ Q (k + 1) rest (a.put o.dst v) (Ln ++ L)) : wpM P ops w0 Φ Q k (o :: rest) a L := by
  unfold wpM
  simp only [hw, if_true, hΦ]
  exact ⟨hy, hne, h⟩
theorem m_nil {Q : Act → Blocks → Prop} {k : Nat} {a : Act} {L : Blocks} (h : Q a L) : wpM P ops w0 Φ Q k [] a L := h
end

/-! ### what makes -/
section
variable {P : Program} {w0 : World} {o : Oper} {a : Act}
/-- A new block that holds cs. -/
def newPtr (cs : List Value) (v : Value) (Ln : Blocks) : Prop := ∃ b, v = .pointer (some ⟨b, 0, none⟩) ∧ Ln = [(b, cs)]
def newSlice (n : Nat) (cs : List Value) (v : Value) (Ln : Blocks) : Prop := ∃ b, v = .slice (some ⟨b, 0, none⟩) n n ∧ Ln = [(b, cs)]
/-- A value that has no new memory. -/
def justV (u v : Value) (Ln : Blocks) : Prop := v = u ∧ Ln = []
theorem newPtr_ne (cs : List Value) : ∃ v Ln, newPtr cs v Ln := ⟨_, _, 0, rfl, rfl⟩
theorem newSlice_ne (n : Nat) (cs : List Value) : ∃ v Ln, newSlice n cs v Ln := ⟨_, _, 0, rfl, rfl⟩
theorem justV_ne (u : Value) : ∃ v Ln, justV u v Ln := ⟨_, _, rfl, rfl⟩
theorem makes_alloc (t : TypeId) (ho : o.op = .alloc t) (z : Value) (hz : (P.info? t).bind (·.zero) = some z) : OMakes P w0 o a (newPtr z.cells.toList) := by
  intro w hx
  have hrun : (execOp a.eval o).run P w = .ok (.value (.pointer (some ⟨w.heap.size, 0, none⟩))) (w.alloc (.cells z.cells t)) := by
    cases hq : P.info? t with
    | none => simp [hq] at hz
    | some i =>
      have hz' : i.zero = some z := by simpa [hq] using hz
      simp [execOp, ho, Instr.alloc, zeroValue, typeInfo, hq, hz', newVar, newRow]
  rw [hrun]
  refine ⟨[(w.heap.size, z.cells.toList)], ⟨_, rfl, rfl⟩, (Ext.refl w).alloc _, ?_⟩
  have := (Has.nil w.heap.size w).alloc (Nat.le_refl _) z.cells.toList t
  simpa using this
theorem makes_box (t : TypeId) (x : Operand) (ho : o.op = .box t x) (v : Value) (hv : a.eval x = v) : OMakes P w0 o a (newPtr v.cells.toList) := by
  intro w hx
  have hrun : (execOp a.eval o).run P w = .ok (.value (.pointer (some ⟨w.heap.size, 0, none⟩))) (w.alloc (.cells v.cells t)) := by
    simp [execOp, ho, hv, Instr.box, newVar, newRow]
  rw [hrun]
  refine ⟨[(w.heap.size, v.cells.toList)], ⟨_, rfl, rfl⟩, (Ext.refl w).alloc _, ?_⟩
  have := (Has.nil w.heap.size w).alloc (Nat.le_refl _) v.cells.toList t
  simpa using this
/-- A run that makes one block. -/
theorem makes_run {n : Nat} (cs : List Value) (t : TypeId) (h : ∀ w, Ext w0 w → (execOp a.eval o).run P w = .ok (.value (.slice (some ⟨w.heap.size, 0, none⟩) n n)) (w.alloc (.cells cs.toArray t))) : OMakes P w0 o a (newSlice n cs) := by
  intro w hx
  rw [h w hx]
  refine ⟨[(w.heap.size, cs)], ⟨_, rfl, rfl⟩, (Ext.refl w).alloc _, ?_⟩
  exact (Has.nil w.heap.size w).alloc (Nat.le_refl _) cs t
/-- A call whose answer is known, and that leaves older memory as it is. -/
theorem makes_call {f : FuncId} {args : Array Value} {u : Value} (h : ∀ w, Ext w0 w → (execOp a.eval o).run P w = .ok (.enter f args) w ∧ Calls P f args w fun e w' => e = .returned u ∧ Ext w w') : OMakes P w0 o a (justV u) := by
  intro w hx
  obtain ⟨h1, h2⟩ := h w hx
  rw [h1]
  exact h2.mono fun e w' ⟨he, hx'⟩ => ⟨u, [], he, ⟨rfl, rfl⟩, hx', Has.nil _ _⟩
end
end Go.Proofs.Ytcahhoemlmbnaaa
