/-
  The machine that runs in the kernel, part O: a region that draws its order, whole.
-/
import Derived.Test.YtcahhoemlmbnaaaVmN
namespace Go.Proofs.Ytcahhoemlmbnaaa
set_option linter.unusedSimpArgs false
set_option linter.unusedVariables false
set_option linter.unusedSectionVars false
open Go Go.RowKit

section
variable {E : Env} {call : FuncId → List Value → Hp → Nat → Option Out} {ops : Array Oper}
theorem drawGo_spec : ∀ (l : List Oper) (past : List Rec) (ts : Tm) (h : Hp) (nx : Nat) (recs : List Rec) (ts' : Tm) (h' : Hp) (nx' : Nat), drawGo E call ops l past ts h nx = some (recs, ts', h', nx') →
    ∃ news, recs = past ++ news ∧ news.length = l.length ∧ ts' = tsA ts news ∧ h' = hpA h news ∧ nx' = nxA nx news ∧
      ∀ j o r, l[j]? = some o → news[j]? = some r → recV E call ops o (past ++ news.take j) (tsA ts (news.take j)) (hpA h (news.take j)) (nxA nx (news.take j)) = some r
  | [], past, ts, h, nx, recs, ts', h', nx', hd => by
      simp only [drawGo, Option.some.injEq, Prod.mk.injEq] at hd
      obtain ⟨rfl, rfl, rfl, rfl⟩ := hd
      exact ⟨[], by simp, rfl, rfl, rfl, rfl, fun j o r hj => by simp at hj⟩
  | o :: l, past, ts, h, nx, recs, ts', h', nx', hd => by
      simp only [drawGo, frc_eq] at hd
      split at hd
      · rename_i r hr
        obtain ⟨news, e1, e2, e3, e4, e5, hall⟩ := drawGo_spec l _ _ _ _ _ _ _ _ hd
        refine ⟨r :: news, by rw [e1]; simp, by simp [e2], e3, e4, e5, fun j o' r' hj hr' => ?_⟩
        cases j with
        | zero =>
          simp only [List.getElem?_cons_zero, Option.some.injEq] at hj hr'
          subst hj; subst hr'
          show recV E call ops o (past ++ []) ts h nx = some r
          rw [List.append_nil]; exact hr
        | succ j =>
          simp only [List.getElem?_cons_succ] at hj hr'
          have := hall j o' r' hj hr'
          simpa [tsA, hpA, nxA] using this
      · cases hd
/-- What is known of a record. -/
structure RecOk (E : Env) (ops : Array Oper) (o : Oper) (past : List Rec) (ts : Tm) (h : Hp) (nx : Nat) (r : Rec) : Prop where
  lo : r.lo = loN ops o
  dst : r.dst = o.dst
  enx : r.nx = nx
  an : ancV past o.after.toList = some r.an
  chk : chkV r.an r 0 past = true
  run : (wantV ops ts o = some false ∧ r.val = undef ∧ r.ef = [] ∧ r.nx' = nx) ∨
    (wantV ops ts o = some true ∧ ∃ rh r' d, (∀ n x, lk rh n = some x → lk h n = some x) ∧ r.rd = rh.map (·.1) ∧ r.ef = efOld r' d ++ efNew nx r' ∧ Does E.P o (evR r.lo ts) rh nx (r.val, r', r.nx', d))
theorem recV_ok (hX : XOk E) (hC : COk E.P call) {o : Oper} {past : List Rec} {ts : Tm} {h : Hp} {nx : Nat} {r : Rec} (hr : recV E call ops o past ts h nx = some r) : RecOk E ops o past ts h nx r := by
  unfold recV at hr
  split at hr
  · cases hr
  · rename_i an han
    split at hr
    · cases hr
    · rename_i hw
      rw [frc_eq] at hr
      obtain ⟨hc, e⟩ := bif_of hr
      cases e
      exact ⟨rfl, rfl, rfl, han, hc, .inl ⟨hw, rfl, rfl, rfl⟩⟩
    · rename_i hw
      have key : ∀ rh, (∀ n x, lk rh n = some x → lk h n = some x) → recR E call ops o past an ts nx rh = some r → RecOk E ops o past ts h nx r := by
        intro rh hsub hr
        unfold recR at hr
        split at hr
        · cases hr
        · rename_i v r' nx' d hs
          simp only [frc_eq] at hr
          obtain ⟨hc, e⟩ := bif_of hr
          cases e
          exact ⟨rfl, rfl, rfl, han, hc, .inr ⟨hw, rh, r', d, hsub, rfl, rfl, stepV_ok hX hC hs⟩⟩
      rcases bif_or hr with ⟨_, e⟩ | ⟨_, e⟩
      · exact key _ (fun n x hx => lk_dropH _ hx) e
      · exact key _ (fun n x hx => lk_pickH hx) e
theorem chkV_ok {an : Msk} {r : Rec} : ∀ (l : List Rec) (i j : Nat) (p : Rec), chkV an r i l = true → l[j]? = some p → i + j ∈ an ∨ apartR p r = true
  | [], i, j, p, _, hj => by simp at hj
  | q :: l, i, 0, p, h, hj => by
      simp only [List.getElem?_cons_zero, Option.some.injEq] at hj
      subst hj
      simp only [chkV] at h
      rcases bif_or h with ⟨h1, _⟩ | ⟨_, h⟩
      · exact .inr h1
      · rcases bif_or h with ⟨h1, _⟩ | ⟨_, h⟩
        · exact .inl (tB_iff.1 h1)
        · cases h
  | q :: l, i, j + 1, p, h, hj => by
      simp only [chkV] at h
      have hj' : l[j]? = some p := by simpa using hj
      have key : chkV an r (i + 1) l = true := by
        rcases bif_or h with ⟨_, h⟩ | ⟨_, h⟩
        · exact h
        · rcases bif_or h with ⟨_, h⟩ | ⟨_, h⟩
          · exact h
          · cases h
      have := chkV_ok l (i + 1) j p key hj'
      rwa [show i + 1 + j = i + (j + 1) by omega] at this
theorem mem_lor (k : Nat) (a b : Msk) (j : Nat) : j ∈ (⟨Nat.lor (Nat.lor (2 ^ k) a.m) b.m⟩ : Msk) ↔ (j = k ∨ j ∈ a) ∨ j ∈ b := by
  show Nat.testBit ((2 ^ k ||| a.m) ||| b.m) j = true ↔ (j = k ∨ Nat.testBit a.m j = true) ∨ Nat.testBit b.m j = true
  rw [Nat.testBit_or, Nat.testBit_or, Nat.testBit_two_pow, Bool.or_eq_true, Bool.or_eq_true, decide_eq_true_eq]
  constructor
  · rintro ((h | h) | h)
    · exact .inl (.inl h.symm)
    · exact .inl (.inr h)
    · exact .inr h
  · rintro ((h | h) | h)
    · exact .inl (.inl h.symm)
    · exact .inl (.inr h)
    · exact .inr h
theorem not_mem0 (j : Nat) : ¬ j ∈ (⟨0⟩ : Msk) := fun h => by
  have : Nat.testBit 0 j = true := h
  simp at this
theorem ancV_ok {past : List Rec} : ∀ {es : List Edge} {l : Msk}, ancV past es = some l → ∀ j, j ∈ l ↔ ∃ e ∈ es, Region.binds .any e = true ∧ ∃ p, past[e.on]? = some p ∧ (j = e.on ∨ j ∈ p.an)
  | [], l, h, j => by simp only [ancV, Option.some.injEq] at h; subst h; simp [not_mem0]
  | e :: es, l, h, j => by
      simp only [ancV] at h
      split at h
      · cases h
      · rename_i l' hl
        have ih := ancV_ok hl j
        rcases bif_or h with ⟨hb, h⟩ | ⟨hb, h⟩
        · split at h
          · rename_i p hp
            cases h
            rw [mem_lor, ih]
            constructor
            · rintro (h | ⟨e', he, hb', q, hq, h⟩)
              · exact ⟨e, by simp, hb, p, hp, h⟩
              · exact ⟨e', by simp [he], hb', q, hq, h⟩
            · rintro ⟨e', he, hb', q, hq, h⟩
              rcases List.mem_cons.1 he with rfl | he
              · rw [hp] at hq; cases hq; exact .inl h
              · exact .inr ⟨e', he, hb', q, hq, h⟩
          · cases h
        · cases h
          rw [ih]
          constructor
          · rintro ⟨e', he, r⟩; exact ⟨e', by simp [he], r⟩
          · rintro ⟨e', he, hb', r⟩
            rcases List.mem_cons.1 he with rfl | he
            · rw [hb] at hb'; cases hb'
            · exact ⟨e', he, hb', r⟩
theorem ancV_edge {past : List Rec} : ∀ {es : List Edge} {l : Msk}, ancV past es = some l → ∀ e ∈ es, Region.binds .any e = true → ∃ p, past[e.on]? = some p
  | [], l, h, e, he, _ => by cases he
  | x :: es, l, h, e, he, hb => by
      simp only [ancV] at h
      split at h
      · cases h
      · rename_i l' hl
        rcases List.mem_cons.1 he with rfl | he
        · rw [hb] at h
          simp only [cond_true] at h
          split at h
          · rename_i p hp; exact ⟨p, hp⟩
          · cases h
        · exact ancV_edge hl e he hb
end
end Go.Proofs.Ytcahhoemlmbnaaa
