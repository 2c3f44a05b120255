/-
  Chapter 22: the statement SessionFull: its last registration (written by wip/tools/gen_fule.py).
-/
import Derived.Test.YtdcakhahagbedaaFulD
namespace Go.Proofs.Ytdcakhahagbedaa
set_option linter.unusedSimpArgs false
set_option linter.unusedVariables false
set_option linter.unusedSectionVars false
open Go Go.RowKit

theorem code_runsT {V : Tv} {P : Program} {call : CallZ} (hX : XOkZ V P) (hL : LOkZ V P) (hC : COkZ P call) (hm : P.follows .mixedOrders = true) {fid : FuncId} {inr : Bool} {ks : List Nat} {c : Code} {ts : Tm} {h : Hp} {nx : Nat} {tp tp' : Tape} {x : Xt} {n : Nat} {l : List (Nat × Value)} {nx1 : Nat} {ms : List Nat} {ob : List Prop}
    (hr : prjT ks (codeZ V P call fid inr 100000 c ts h nx tp) = .ok ((x, n, l, nx1, ms), tp', ob)) (ho : Alls ob) : ∃ h1 d1, RunsL inr (fun F m Q => c.wpIn F m P Q) ts h nx (x, n, l, h1, nx1, d1, ms) := by
  unfold prjT at hr
  split at hr
  · rename_i x1 ts1 h1 nx2 d ms1 tp1 ob1 hc
    split at hr
    · rename_i l1 hl
      simp only [Res.ok.injEq, Prod.mk.injEq] at hr
      obtain ⟨⟨rfl, rfl, rfl, rfl, rfl⟩, rfl, rfl⟩ := hr
      exact ⟨_, _, ((codeZ_ok hX hL hC hm 100000).1 _ _ _ _ _ _ _ _ hc ho).proj hl⟩
    · cases hr
  · cases hr
  · cases hr
theorem tail_ofE {P : Program} {x : Code} {M N n : Nat} {l : List (Nat × Value)} {hC : Hp} {nx1 : Nat} {xt : Xt} {k : Nat} {v : Value} (hrun : ∀ inr, ∃ h1 d1, RunsL inr (fun F m Q => x.wpIn F m P Q) (SL n l) hC N (xt, n, [(k, v)], h1, nx1, d1, [])) (hB : bdB hC N = true) (hM : nx1 ≤ M) (hv : ∀ σ, renV σ v = some v) : TailAt P x M n l hC N (xt, [(k, v)]) :=
  fun inr lo h0 hlo => by
    obtain ⟨h1, d1, hr⟩ := hrun inr
    exact CRuns.of hr hB hlo hM (fun n => n) ⟨rfl, hv _, trivial⟩ trivial rfl
/-- A loop that leaves the caller's memory alone. -/
theorem LRuns.close {inr : Bool} {P : Program} {x : Code} {lo M N n : Nat} {h h2 : Hp} {l2 l' : List (Nat × Value)} {xt : Xt} {hs : Hp} (hl : LRuns inr P x lo M h n l2 h2 N (xt, l', hs)) : LRuns inr P x lo M h n l2 h2 N (xt, l', hs ++ oldsH h) :=
  fun W σ0 w0 σ w a hR0 hf S ht ds hd F m hF hr Q hQ => hl W σ0 w0 σ w a hR0 hf S ht ds hd F m hF hr Q fun σ' w' a' S' t' hd' => hQ σ' w' a' (S'.more hR0 fun n r e => oldsH_old e) t' hd'
theorem tidy_olds {h : Hp} {nx M : Nat} (hM : nx ≤ M) : Tidy h nx (oldsH h) M (garH h) := ⟨hM, fun n _ hd => oldsH_lk hd, fun hB n hn => by
  cases hl : lk (oldsH h) n with
  | none => rfl
  | some r =>
    have := (oldsH_old hl).1
    rw [hB n (by omega)] at this
    cases this⟩
theorem spF_ok (X : List Value) (L : List En) : LSOk Try.prog 204 [13, 14, 17, 27, 32] (fb4 Try.prog) (spF X L 344) := by
  intro live h nx tp xt l2 h2 nx2 d tp' ob hs ho inr ts hn hg
  unfold spF at hs
  split at hs
  case h_2 => cases hs
  rename_i a1 a2 a3 k27 kk m a5
  split at hs
  case h_2 => cases hs
  rename_i r1 r2 h11 h12
  simp only [Option.some.injEq, Prod.mk.injEq] at hs
  obtain ⟨⟨rfl, rfl, rfl, rfl, rfl⟩, rfl, rfl⟩ := hs
  obtain ⟨⟨e1, rfl⟩, rfl, rfl, F5, _⟩ := ho
  rw [e1] at hg
  have hXf : Fl X := by
    have hu := F5.hu
    have : X = ((List.range 10).map fun j => Value.int .u64 (intAt X j)) := by
      apply List.ext_getElem?
      intro j
      by_cases hj : j < 10
      · rw [(hu.2 j hj).1]; simp [hj]
      · rw [List.getElem?_eq_none (by rw [hu.1]; omega), List.getElem?_eq_none (by simp; omega)]
    rw [this]
    exact fun σ => renL_id _ (fun _ => rfl) _
  have key := (ff_loop (inr := inr) (h0 := h) hXf F5 5 0 (by omega)).close
  exact LRuns.enter (N := 400) (l2 := ffS m.toNat 0) hn hg (by omega) (by omega) (fun n => n) ⟨rfl, rfl, rfl, rb_slc rfl (by unfold capBig; omega), rfl, rb_ptr rfl, rfl, rfl, rfl, rfl, trivial⟩ (by exact ⟨sh_row rfl h11 hXf, tb_row rfl h12, trivial⟩) rfl key (tidy_olds (by omega))
def newF (X : List Value) : En := ⟨intAt X 8, intAt X 9, 0, 100, 100⟩
theorem newF_nm (X : List Value) : (newF X).nm = cl X 4 := rfl
theorem fin5_of {X : List Value} (hX : Cls X) {Y : Nat → Int} {n m : Nat} {L : List En} (hI : Inv X Y 4 n L) (hm : m < 4) {eq : En} {R Lf : List En} (hL : ∀ e, e ∈ L ↔ e = eq ∨ e ∈ R) (hR : ∀ e ∈ R, e.nm ≠ eq.nm) (hq : eq.nm = cl X m) (hLf : ∀ e, e ∈ Lf ↔ e = newF X ∨ e ∈ R) (hn : Lf.length = 4) : Fin5 X m Lf := by
  refine ⟨hX.u, hm, fun e he => ?_, hn, fun i hi => ⟨fun hne => ?_, fun ⟨e, he, hnm⟩ => ?_⟩⟩
  · rcases (hLf e).1 he with rfl | h
    · exact hX.u.w (k := 4) (by omega)
    · have := hI.wid e ((hL e).2 (.inr h))
      exact ⟨this.1, this.2.1⟩
  · rcases Nat.lt_or_ge i 4 with h4 | h4
    · obtain ⟨e, he, h1, _⟩ := hI.fwd i h4
      rcases (hL e).1 he with rfl | h
      · exact (hX.ne i m hi (by omega) hne (h1.symm.trans hq)).elim
      · exact ⟨e, (hLf e).2 (.inr h), h1⟩
    · obtain rfl : i = 4 := by omega
      exact ⟨newF X, (hLf _).2 (.inl rfl), newF_nm X⟩
  · rcases (hLf e).1 he with rfl | h
    · intro e4
      exact hX.ne 4 i (by omega) hi (by omega) hnm
    · intro e4
      subst e4
      exact hR e h (hnm.trans hq.symm)
/-- What is known of the full table. -/
structure Tl (X : List Value) (Y : Nat → Int) (n m : Nat) (L : List En) : Prop where
  hX : Cls X
  hI : Inv X Y 4 n L
  hY : YD Y n
  hm : m < 4
  hl : ∀ j, j < 4 → Y m ≤ Y j
theorem Tl.od {X : List Value} {Y : Nat → Int} {n m : Nat} {L : List En} (T : Tl X Y n m L) {a b : En} (ha : a ∈ L) (hb : b ∈ L) (h : a.nm < b.nm) : a.o ≠ b.o := by
  obtain ⟨j, h1, h2, h3⟩ := T.hI.bwd a ha
  obtain ⟨k, h4, h5, h6⟩ := T.hI.bwd b hb
  intro e
  by_cases hjk : j = k
  · subst hjk; omega
  · exact T.hY.d j k h1 h4 hjk (by omega)
theorem Tl.least {X : List Value} {Y : Nat → Int} {n m : Nat} {L : List En} (T : Tl X Y n m L) {e : En} (he : e ∈ L) (h : ∀ f ∈ L, e.o ≤ f.o) : e.nm = cl X m := by
  obtain ⟨f, hf, h1, h2⟩ := T.hI.fwd m T.hm
  obtain ⟨k, h3, h4, h5⟩ := T.hI.bwd e he
  have h6 := h f hf
  have h7 := T.hl k h3
  by_cases hk : k = m
  · subst hk; exact h4
  · exact (T.hY.d k m h3 T.hm hk (by omega)).elim
def TailF (P : Program) (X : List Value) (m : Nat) (L : List En) : Prop := TailAt P (fuC P 37) 600 204 (t4S m) (t4H [.int .u64 (intAt X 8), .int .u64 (intAt X 9)] X L) 300 (.ret, [(12, .bool true)])
theorem fuF_one (X : List Value) (L : List En) : LOne Try.prog (fuF_L Try.prog X L 344) := mkL_ok (spF_ok X L)
theorem srt4 {a b c d : En} (h : Srt [a, b, c, d]) : a.nm < b.nm ∧ a.nm < c.nm ∧ a.nm < d.nm ∧ b.nm < c.nm ∧ b.nm < d.nm ∧ c.nm < d.nm := by
  unfold Srt at h
  simp only [List.pairwise_cons, List.mem_cons, List.not_mem_nil, or_false, forall_eq_or_imp, forall_eq] at h
  omega
end Go.Proofs.Ytdcakhahagbedaa
