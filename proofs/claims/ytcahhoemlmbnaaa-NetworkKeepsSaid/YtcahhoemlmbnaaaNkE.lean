/-
  Chapter 30: the statement NetworkKeeps, at any arguments.
-/
import Derived.Test.YtcahhoemlmbnaaaNkD
import Derived.Test.YtcahhoemlmbnaaaOpenDq
namespace Go.Proofs.Ytcahhoemlmbnaaa
set_option linter.unusedSimpArgs false
set_option linter.unusedVariables false
set_option linter.unusedSectionVars false
open Go Go.RowKit

theorem nk_end {inr : Bool} {h0 : Hp} {ds : List DV} {n c : Nat} : NkG inr h0 ds n c n := fun asL bs es l s t lo h => by
  refine ⟨?_, fun hl => ?_⟩
  · refine LRuns.exit (code_runsP nkX nkL (runZ_ok nkX nkT nkL mixed 9) mixed (nkr_end inr n n c l.length s t lo (ints asL) (ints bs) (pks l) es ds) ?_) (by intro e; cases e) rfl (by omega) (by omega) (fun n => n) ?_ ?_ rfl
    · simp only [Alls, decide_eq_false_iff_not]
      exact ⟨by omega, trivial⟩
    · exact ⟨rfl, rfl, trivial⟩
    · trivial
  · refine LRuns.exit (code_runsP nkX nkL (runZ_ok nkX nkT nkL mixed 9) mixed (nkn_end inr n n c s t lo (ints asL) (ints bs) es ds) ?_) (by intro e; cases e) rfl (by omega) (by omega) (fun n => n) ?_ ?_ rfl
    · simp only [Alls, decide_eq_false_iff_not]
      exact ⟨by omega, trivial⟩
    · exact ⟨rfl, rfl, trivial⟩
    · trivial
theorem nk_step {inr : Bool} {h0 : Hp} {ds : List DV} {n c i : Nat} (hG : NkG inr h0 ds n c (i + 1)) (hi : i < n) (hn : n ≤ 60) (hc : c ≤ 9223372036854775807) (hS : ShsA ds n) : NkG inr h0 ds n c i := fun asL bs es l s t lo h => by
  by_cases k0 : dInt ds (i * 21) = 0
  · exact ⟨nkr0 hG hi hn hc hS h k0, fun hl => nkn0 hG hi hn hc hS h hl k0⟩
  by_cases k1 : dInt ds (i * 21) = 1
  · exact ⟨nkr1 hG hi hn hc hS h k1, fun hl => nkn1 hG hi hn hc hS h hl k1⟩
  by_cases k2 : dInt ds (i * 21) = 2
  · exact ⟨nkr2 hG hi hn hc hS h k2, fun hl => nkn2 hG hi hn hc hS h hl k2⟩
  by_cases k3 : dInt ds (i * 21) = 3
  · exact ⟨nkr3 hG hi hn hc hS h k3, fun hl => nkn3 hG hi hn hc hS h hl k3⟩
  by_cases k4 : dInt ds (i * 21) = 4
  · exact ⟨nkr4 hG hi hn hc hS h k4, fun hl => nkn4 hG hi hn hc hS h hl k4⟩
  by_cases k5 : dInt ds (i * 21) = 5
  · exact ⟨nkr5 hG hi hn hc hS h k5, fun hl => nkn5 hG hi hn hc hS h hl k5⟩
  by_cases k6 : dInt ds (i * 21) = 6
  · exact ⟨nkr6 hG hi hn hc hS h k6, fun hl => nkn6 hG hi hn hc hS h hl k6⟩
  · exact ⟨nkr7 hG hi hn hc hS h k0 k1 k2 k3 k4 k5 k6, fun hl => nkn7 hG hi hn hc hS h hl k0 k1 k2 k3 k4 k5 k6⟩
theorem nk_all {inr : Bool} {h0 : Hp} {ds : List DV} {n c : Nat} (hn : n ≤ 60) (hc : c ≤ 9223372036854775807) (hS : ShsA ds n) : ∀ r i : Nat, i + r = n → NkG inr h0 ds n c i
  | 0, i, hr => by
      obtain rfl : i = n := by omega
      exact nk_end
  | r + 1, i, hr => nk_step (nk_all hn hc hS r (i + 1) (by omega)) (by omega) hn hc hS

/-! ### the whole law -/
def awV : Tv := ⟨noTz, noXz, noL, fun _ => [], noSy, fun _ => [], fun _ => 0⟩
theorem nk_aw  : prjV (runZ awV Try.prog 30 8 [] [] 0 []) =
  Res.ok (Value.bool true, [], []) := by kernel_rfl
theorem aw_gok : GOk Try.prog 8 [] gTrueY :=
  gTrueY_tri (run_val (V := awV) (noXz_ok rfl) (noTz_okV rfl) (noL_okV rfl) nk_aw trivial rfl)
def nkT1 : TFun := mkT 8 [] gTrueY
def z64 : List Int := List.replicate 64 0
def nkHs (ds : List DV) : Hp := [(4, ⟨.shut, ints z64⟩), (3, ⟨.shut, ints z64⟩), (2, nkR (.slice none 0 0) 0), (1, ⟨.mp [], []⟩), (0, ⟨.sd ds, []⟩)]
def pkD (live : List (Nat × Value)) (h : Hp) : Option (Nat × Nat × List DV) := match live, lk h 0 with | (_, .slice _ n c) :: _, some ⟨.sd ds, _⟩ => some (n, c, ds) | _, _ => none
def nkSp : LSpec := lspec pkD (fun a => (nkS a.1 a.2.1 0 0 0, nkHs a.2.2, 5)) (fun a tp => some ((.exit 0, [(3, .bool true)], [], 200, [0, 1, 2, 3, 4]), tp, [a.1 ≤ 60 ∧ a.2.1 ≤ 9223372036854775807 ∧ ShsA a.2.2 a.1]))
def nkLo (P : Program) : LFun := mkL 5 10 157 [0, 3, 4, 6, 7, 8, 9, 10] (nkB P) nkSp
theorem nk_long (n c : Nat) (ds : List DV) : prjV (runZ (nkV noL nkT1) Try.prog 12 5 [.slice (some ⟨0, 0, none⟩) n c] [(0, ⟨.sd ds, []⟩)] 1 [true]) =
  Res.ok (Value.bool true, [], [decide ((↑n : Int) > (60 : Int)) = true]) := by kernel_rfl
theorem nk_law (n c : Nat) (ds : List DV) : prjV (runZ (nkV (nkLo Try.prog) nkT1) Try.prog 12 5 [.slice (some ⟨0, 0, none⟩) n c] [(0, ⟨.sd ds, []⟩)] 1 [false]) =
  Res.ok (Value.bool true, [], [decide ((↑n : Int) > (60 : Int)) = false, nkB Try.prog = nkB Try.prog, [(0, Value.slice (some (Addr.mk 0 0 none)) n c), (3, Value.bool true), (4, Value.pointer (some (Addr.mk 2 0 none))), (6,
 Value.int IntKind.i64 (0 : Int)), (7, Value.int IntKind.i64 (0 : Int)), (8, Value.pointer (some (Addr.mk 3 0 none))), (9, Value.pointer (some (Addr.mk 4 0 none))), (10, Value.int IntKind.i64 (0 : Int))] = nkS n c (0 :
 Int) (0 : Int) 0, (4, Rw.mk Kd.shut [Value.int IntKind.i64 (0 : Int), Value.int IntKind.i64 (0 : Int), Value.int IntKind.i64 (0 : Int), Value.int IntKind.i64 (0 : Int), Value.int IntKind.i64 (0 : Int), Value.int
 IntKind.i64 (0 : Int), Value.int IntKind.i64 (0 : Int), Value.int IntKind.i64 (0 : Int), Value.int IntKind.i64 (0 : Int), Value.int IntKind.i64 (0 : Int), Value.int IntKind.i64 (0 : Int), Value.int IntKind.i64 (0 : Int),
 Value.int IntKind.i64 (0 : Int), Value.int IntKind.i64 (0 : Int), Value.int IntKind.i64 (0 : Int), Value.int IntKind.i64 (0 : Int), Value.int IntKind.i64 (0 : Int), Value.int IntKind.i64 (0 : Int), Value.int IntKind.i64
 (0 : Int), Value.int IntKind.i64 (0 : Int), Value.int IntKind.i64 (0 : Int), Value.int IntKind.i64 (0 : Int), Value.int IntKind.i64 (0 : Int), Value.int IntKind.i64 (0 : Int), Value.int IntKind.i64 (0 : Int), Value.int
 IntKind.i64 (0 : Int), Value.int IntKind.i64 (0 : Int), Value.int IntKind.i64 (0 : Int), Value.int IntKind.i64 (0 : Int), Value.int IntKind.i64 (0 : Int), Value.int IntKind.i64 (0 : Int), Value.int IntKind.i64 (0 : Int),
 Value.int IntKind.i64 (0 : Int), Value.int IntKind.i64 (0 : Int), Value.int IntKind.i64 (0 : Int), Value.int IntKind.i64 (0 : Int), Value.int IntKind.i64 (0 : Int), Value.int IntKind.i64 (0 : Int), Value.int IntKind.i64
 (0 : Int), Value.int IntKind.i64 (0 : Int), Value.int IntKind.i64 (0 : Int), Value.int IntKind.i64 (0 : Int), Value.int IntKind.i64 (0 : Int), Value.int IntKind.i64 (0 : Int), Value.int IntKind.i64 (0 : Int), Value.int
 IntKind.i64 (0 : Int), Value.int IntKind.i64 (0 : Int), Value.int IntKind.i64 (0 : Int), Value.int IntKind.i64 (0 : Int), Value.int IntKind.i64 (0 : Int), Value.int IntKind.i64 (0 : Int), Value.int IntKind.i64 (0 : Int),
 Value.int IntKind.i64 (0 : Int), Value.int IntKind.i64 (0 : Int), Value.int IntKind.i64 (0 : Int), Value.int IntKind.i64 (0 : Int), Value.int IntKind.i64 (0 : Int), Value.int IntKind.i64 (0 : Int), Value.int IntKind.i64
 (0 : Int), Value.int IntKind.i64 (0 : Int), Value.int IntKind.i64 (0 : Int), Value.int IntKind.i64 (0 : Int), Value.int IntKind.i64 (0 : Int), Value.int IntKind.i64 (0 : Int)]) :: (3, Rw.mk Kd.shut [Value.int IntKind.i64
 (0 : Int), Value.int IntKind.i64 (0 : Int), Value.int IntKind.i64 (0 : Int), Value.int IntKind.i64 (0 : Int), Value.int IntKind.i64 (0 : Int), Value.int IntKind.i64 (0 : Int), Value.int IntKind.i64 (0 : Int), Value.int
 IntKind.i64 (0 : Int), Value.int IntKind.i64 (0 : Int), Value.int IntKind.i64 (0 : Int), Value.int IntKind.i64 (0 : Int), Value.int IntKind.i64 (0 : Int), Value.int IntKind.i64 (0 : Int), Value.int IntKind.i64 (0 : Int),
 Value.int IntKind.i64 (0 : Int), Value.int IntKind.i64 (0 : Int), Value.int IntKind.i64 (0 : Int), Value.int IntKind.i64 (0 : Int), Value.int IntKind.i64 (0 : Int), Value.int IntKind.i64 (0 : Int), Value.int IntKind.i64
 (0 : Int), Value.int IntKind.i64 (0 : Int), Value.int IntKind.i64 (0 : Int), Value.int IntKind.i64 (0 : Int), Value.int IntKind.i64 (0 : Int), Value.int IntKind.i64 (0 : Int), Value.int IntKind.i64 (0 : Int), Value.int
 IntKind.i64 (0 : Int), Value.int IntKind.i64 (0 : Int), Value.int IntKind.i64 (0 : Int), Value.int IntKind.i64 (0 : Int), Value.int IntKind.i64 (0 : Int), Value.int IntKind.i64 (0 : Int), Value.int IntKind.i64 (0 : Int),
 Value.int IntKind.i64 (0 : Int), Value.int IntKind.i64 (0 : Int), Value.int IntKind.i64 (0 : Int), Value.int IntKind.i64 (0 : Int), Value.int IntKind.i64 (0 : Int), Value.int IntKind.i64 (0 : Int), Value.int IntKind.i64
 (0 : Int), Value.int IntKind.i64 (0 : Int), Value.int IntKind.i64 (0 : Int), Value.int IntKind.i64 (0 : Int), Value.int IntKind.i64 (0 : Int), Value.int IntKind.i64 (0 : Int), Value.int IntKind.i64 (0 : Int), Value.int
 IntKind.i64 (0 : Int), Value.int IntKind.i64 (0 : Int), Value.int IntKind.i64 (0 : Int), Value.int IntKind.i64 (0 : Int), Value.int IntKind.i64 (0 : Int), Value.int IntKind.i64 (0 : Int), Value.int IntKind.i64 (0 : Int),
 Value.int IntKind.i64 (0 : Int), Value.int IntKind.i64 (0 : Int), Value.int IntKind.i64 (0 : Int), Value.int IntKind.i64 (0 : Int), Value.int IntKind.i64 (0 : Int), Value.int IntKind.i64 (0 : Int), Value.int IntKind.i64
 (0 : Int), Value.int IntKind.i64 (0 : Int), Value.int IntKind.i64 (0 : Int), Value.int IntKind.i64 (0 : Int)]) :: (2, Rw.mk Kd.shut [Value.int IntKind.i64 (4 : Int), Value.slice none 0 0, Value.map (some 1), Value.int
 IntKind.i64 (0 : Int)]) :: (1, Rw.mk (Kd.mp []) []) :: rowsN 1 [] [(0, Rw.mk (Kd.sd ds) [])] = nkHs ds, 5 = 5, n ≤ 60 ∧ c ≤ 9223372036854775807 ∧ ShsA ds n]) := by kernel_rfl
theorem lk_nil (m : Nat) : lk [] m = none := rfl
theorem nk0 : Nk z64 z64 [] [] 0 0 0 0 := ⟨rfl, rfl, fun e he => (by cases he), fun q hq => (by cases hq), rfl, by omega, by omega, by omega⟩
theorem nkSp_ok : LSOk Try.prog 157 [0, 3, 4, 6, 7, 8, 9, 10] (nkB Try.prog) nkSp := by
  refine lspec_ok fun a tp xt l2 h2 nx2 d tp' ob hs ho inr ts hn hg => ?_
  obtain ⟨n, c, ds⟩ := a
  simp only at hs hg
  simp only [Option.some.injEq, Prod.mk.injEq] at hs
  obtain ⟨⟨rfl, rfl, rfl, rfl, rfl⟩, rfl, rfl⟩ := hs
  obtain ⟨⟨h1, h2, h3⟩, _⟩ := ho
  have hcc : c < capBig := by unfold capBig; omega
  have key := (nk_all (inr := inr) (h0 := nkHs ds) (c := c) h1 h2 h3 n 0 (by omega) z64 z64 [] [] 0 0 0 nk0).2 rfl
  refine LRuns.enter (N := 81) (l2 := nkS n c 0 0 0) hn hg (by omega) (by omega) (fun n => n) ?_ ?_ rfl key ?_
  · exact ⟨rfl, rb_slc rfl hcc, rfl, rfl, rfl, rb_ptr rfl, rfl, rfl, rfl, rfl, rfl, rb_ptr rfl, rfl, rb_ptr rfl, rfl, rfl, trivial⟩
  · exact ⟨nk_mp rfl rfl rfl, nk_net rfl rfl rfl rfl, rb_row (n := 3) (m := 3) rfl rfl rfl rfl (ints_fl _), rb_row (n := 4) (m := 4) rfl rfl rfl rfl (ints_fl _), rb_rec (m := 0) rfl rfl trivial, trivial⟩
  · refine tidy_of (by omega) (fun m hm hd => ?_) rfl
    exfalso
    simp only [List.mem_cons, List.not_mem_nil, or_false, not_or] at hd
    omega
theorem nk_run {L : LFun} (h : LOne Try.prog L) {args : List Value} {hp : Hp} {nx : Nat} {tp tp' : Tape} {v : Value} {ob : List Prop} (e : prjV (runZ (nkV L nkT1) Try.prog 12 5 args hp nx tp) = .ok (v, tp', ob)) (ho : Alls ob) : ∃ h' nx' d, Tri Try.prog 5 args hp nx (v, h', nx', d) :=
  run_val (noXz_ok rfl) (T_okV rfl (mkT_one aw_gok)) (L_okV rfl h) e ho rfl
theorem keeps_any {W : World} {v : Value} {rows : List (List DV)} {cap : Nat} {sub : List Sh} (hsub : shK Try.prog 9 51 = some [.sl sub]) (hA : DA.at W v (.dl rows.flatten rows.length cap)) (hl : rows.length ≤ cap) (hc : cap ≤ 9223372036854775807) (hr : ∀ r, r ∈ rows → ShsOk sub r) :
    Calls Try.prog 5 #[v] W fun e w' => e = .returned (.bool true) ∧ Ext W w' := by
  refine calls_dp [.dl rows.flatten rows.length cap] ?_ (fun σ => rfl) (us := [v]) ⟨hA, trivial⟩
  show ∃ h' nx' d, Tri Try.prog 5 [.slice (some ⟨0, 0, none⟩) rows.length cap] [(0, ⟨.sd rows.flatten, []⟩)] 1 (.bool true, h', nx', d)
  by_cases h : (rows.length : Int) > 60
  · exact nk_run noL_ok (nk_long rows.length cap rows.flatten) ⟨decide_eq_true h, trivial⟩
  · have hS : ShsA rows.flatten rows.length := fun i hi => by
      have hs : sub = [.i .i64, .i .i64, .i .i64, .b, .i .i64, .i .i64, .i .i64, .i .i64, .i .i64, .i .i64, .i .i64, .i .i64, .i .i64, .i .u64, .i .u64, .i .i64, .i .i64, .i .u64, .i .i64, .i .i64, .sl [.i .u8]] := by
        have e : shK Try.prog 9 51 = some [.sl [.i .i64, .i .i64, .i .i64, .b, .i .i64, .i .i64, .i .i64, .i .i64, .i .i64, .i .i64, .i .i64, .i .i64, .i .i64, .i .u64, .i .u64, .i .i64, .i .i64, .i .u64, .i .i64, .i .i64, .sl [.i .u8]]] := by kernel_rfl
        rw [e] at hsub
        simpa using hsub.symm
      subst hs
      exact shOb_of (by kernel_rfl) hr hi
    exact nk_run (mkL_ok nkSp_ok) (nk_law rows.length cap rows.flatten) ⟨decide_eq_false h, rfl, rfl, rfl, rfl, ⟨by omega, hc, hS⟩, trivial⟩
end Go.Proofs.Ytcahhoemlmbnaaa
