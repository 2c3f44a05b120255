/-
  Chapter 22: memory that is copied, of any length: a contract.
-/
import Derived.Test.YtdcakhahagbedaaSbA
namespace Go.Proofs.Ytdcakhahagbedaa
set_option linter.unusedSimpArgs false
set_option linter.unusedVariables false
set_option linter.unusedSectionVars false
open Go Go.RowKit

def clV (m : Nat) : Tv := ⟨noTz, noXz, noL, fun _ => [], lsSy 34 [(7, m)], fun _ => [], fun _ => 0⟩
theorem cl_e (xs : List Value) (c : Nat) : runZ (clV 4) Try.prog 5 34 [.slice (some ⟨0, 0, none⟩) 0 c] [(0, ⟨.old, xs⟩)] 1 [] =
  Res.ok ((Value.slice (some (Addr.mk 1 0 none)) 0 0, [(1, Rw.mk Kd.shut []), (0, Rw.mk Kd.old xs)], 2, []), [], []) := by kernel_rfl
theorem cl_x (xs : List Value) (n c : Nat) : runZ (clV 2) Try.prog 5 34 [.slice (some ⟨0, 0, none⟩) n c] [(0, ⟨.old, xs⟩)] 1 [] =
  Res.ok ((Value.slice (some (Addr.mk 2 0 none)) (0 + n) (capBig + 2), [(2, Rw.mk (Kd.room 1 [Value.int IntKind.u8 (0 : Int)]) ([] ++ List.take n xs)), (1, Rw.mk Kd.shut []), (0, Rw.mk Kd.old xs)], 3, []), [], [0 <
 18446744073709551616, 0 < 0 + n, 0 ≤ 0, (0 + n) * 1 ≤ 140737488355328 ∧ 0 + n ≤ 9223372036854775807, n ≤ List.length xs, all1 (List.take n xs) = true]) := by kernel_rfl
/-- What a call hands back, of some capacity, as a row of kind held. -/
theorem tri_held {P : Program} {f : FuncId} {args : List Value} {h : Hp} {nx n : Nat} {xs : List Value} (hl : xs.length = n) (hf : Fl xs)
    (H : ∀ W σ w args', Rl W σ h w → renL σ args = some args' → Calls P f args'.toArray w fun e w' => ∃ b cap sl t, e = .returned (.slice (some ⟨b, 0, none⟩) n cap) ∧ Ext w w' ∧ w.heap.size ≤ b ∧ w'.heap[b]? = some (.cells (xs ++ sl).toArray t (0, 0)) ∧ n ≤ cap ∧ cap ≤ maxLen) :
    Tri P f args h nx (.slice (some ⟨nx, 0, none⟩) n (capBig + nx), (nx, ⟨.held n, xs⟩) :: h, nx + 1, []) := by
  refine ⟨⟨Nat.le_succ _, fun m hm _ => ?_, fun hB m hm => ?_⟩, fun hB W σ w args' hR hfr ha => ?_⟩
  · simp only
    rw [lk_cons, if_neg (by omega)]
  · simp only at hm ⊢
    rw [lk_cons, if_neg (by omega)]
    exact hB m (by omega)
  simp only at hfr
  refine (H W σ w args' hR ha).mono ?_
  rintro e w' ⟨b, cap, sl, t, rfl, hx, hge, hb, h3, h4⟩
  obtain ⟨f1, f2⟩ := hfr nx (Nat.le_refl _) (by omega)
  obtain ⟨τ, hτ⟩ : ∃ τ : Sg, τ = ⟨fun k => if k = nx then some (b, 0) else σ.b k, fun k => if k = nx then some cap else σ.c k⟩ := ⟨_, rfl⟩
  have tn : τ.b nx = some (b, 0) ∧ τ.c nx = some cap := by subst hτ; simp
  have to_ : ∀ k, k ≠ nx → τ.b k = σ.b k ∧ τ.c k = σ.c k := fun k hk => by subst hτ; simp [hk]
  have hle : σ.le τ := by
    refine ⟨fun k p e => ?_, fun k p e => ?_⟩
    · by_cases hk : k = nx
      · subst hk; rw [f1] at e; cases e
      · rw [(to_ k hk).1]; exact e
    · by_cases hk : k = nx
      · subst hk; rw [f2] at e; cases e
      · rw [(to_ k hk).2]; exact e
  have cls : ∀ k r, lk ((nx, ⟨.held n, xs⟩) :: h) k = some r → (k = nx ∧ r = ⟨.held n, xs⟩) ∨ (k ≠ nx ∧ lk h k = some r) := fun k r hk => by
    rw [lk_cons] at hk
    split at hk
    · rename_i e; cases hk; exact .inl ⟨e.symm, rfl⟩
    · rename_i e; exact .inr ⟨Ne.symm e, hk⟩
  have hW := hR.ext.size
  refine ⟨τ, _, ⟨hle, fun k hk => to_ k (by simp only at hk; omega), ⟨hR.ext.trans hx, fun k r hk => ?_, fun k m r s p q hk hm ho hs hp hq e => ?_⟩, hx.size, fun b' hb' _ => Below.block hx b' hb', fun k r p hk ho hp => ?_⟩, ?_, rfl⟩
  · rcases cls k r hk with ⟨rfl, rfl⟩ | ⟨h5, h6⟩
    · exact ⟨b, 0, xs, tn.1, hf τ, rfl, Nat.le_trans hW hge, t, sl, _, cap, tn.2, hb, h3, h4⟩
    · exact RowOk.ext hR h6 hx hle
  · rcases cls k r hk with ⟨rfl, rfl⟩ | ⟨h5, h6⟩ <;> rcases cls m s hm with ⟨h7, rfl⟩ | ⟨h7, h8⟩
    · exact h7.symm
    · rw [tn.1] at hp
      cases hp
      rw [(to_ m h7).1] at hq
      have := hR.lt h8 hq
      simp only at e
      omega
    · subst h7
      rw [tn.1] at hq
      cases hq
      rw [(to_ k h5).1] at hp
      have := hR.lt h6 hp
      simp only at e
      omega
    · rw [(to_ k h5).1] at hp
      rw [(to_ m h7).1] at hq
      exact hR.inj k m r s p q h6 h8 ho hs hp hq e
  · rcases cls k r hk with ⟨rfl, rfl⟩ | ⟨h5, h6⟩
    · rw [tn.1] at hp
      cases hp
      exact .inl hge
    · rw [(to_ k h5).1] at hp
      exact .inr ⟨k, r, p, h6, ho, hp, rfl⟩
  · have := rb_slg (f := τ) (n := nx) (m := b) (o := 0) (l := n) tn.1
    simp only [renV, adR, cpR]
    rw [tn.1, if_neg (by unfold capBig; omega), show capBig + nx - capBig = nx by omega, tn.2]
/-- An older row, told of the world as it is. -/
theorem rl_self {W : World} {σ : Sg} {w : World} {xs : List Value} {k : Nat} (hR : Rl W σ [(k, ⟨.old, xs⟩)] w) : Rl w σ [(k, ⟨.old, xs⟩)] w := by
  refine ⟨Ext.refl w, fun n r hl => ?_, fun n m r s p q hn hm hr hs hp hq e => ?_⟩
  · obtain ⟨b, s, vs, hb, hv, hk⟩ := hR.row n r hl
    rw [lk_cons] at hl
    split at hl
    · cases hl
      obtain ⟨h1, h2⟩ := hk
      exact ⟨b, s, vs, hb, hv, Nat.lt_of_lt_of_le h1 hR.ext.size, fun j v hj => by rw [Ext.cell hR.ext b (s + j) h1]; exact h2 j v hj⟩
    · cases hl
  · rw [lk_cons] at hn
    split at hn
    · cases hn; exact absurd rfl hr
    · cases hn
end Go.Proofs.Ytdcakhahagbedaa
