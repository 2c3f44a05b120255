/-
  Chapter 01: a number's digits: the document's loop; both functions, by contracts.
-/
import Derived.Test.YtpiapipmhlpmjaaU128TC
namespace Go.Proofs.Ytpiapipmhlpmjaa
set_option linter.unusedSimpArgs false
set_option linter.unusedVariables false
set_option linter.unusedSectionVars false
open Go Go.RowKit

def prjV : Res (Out × Tape × List Prop) → Res (Value × Tape × List Prop)
  | .ok ((v, _, _, _), tp, ob) => .ok (v, tp, ob)
  | .ask b => .ask b
  | .no => .no
theorem run_val {V : Tv} (hX : XOkZ V Try.prog) (hT : TOkZ V Try.prog) (hL : LOkZ V Try.prog) {k : Nat} {f : FuncId} {args : List Value} {h : Hp} {nx : Nat} {tp tp' : Tape} {v : Value} {ob : List Prop} (e : prjV (runZ V Try.prog k f args h nx tp) = .ok (v, tp', ob)) (ho : Alls ob) (hf : Nat.blt f yBig = true) : ∃ h' nx' d, Tri Try.prog f args h nx (v, h', nx', d) := by
  unfold prjV at e
  split at e
  · rename_i v0 h0 nx0 d0 tp0 ob0 hr
    simp only [Res.ok.injEq, Prod.mk.injEq] at e
    obtain ⟨rfl, rfl, rfl⟩ := e
    exact ⟨_, _, _, run_tri hX hT hL hr ho hf⟩
  · cases e
  · cases e
theorem dig_str {d : Int} (hd : 0 ≤ d ∧ d < 10) (acc : List Int) : ByteArray.mk (Array.mk (List.take (Int.toNat (adI d 1) - Int.toNat d) (List.drop (Int.toNat d) [(48 : UInt8), (49 : UInt8), (50 : UInt8), (51 : UInt8), (52 : UInt8), (53 : UInt8), (54 : UInt8), (55 : UInt8), (56 : UInt8), (57 : UInt8)]) ++ Array.toList (ByteArray.data (strI acc)))) = strI ((48 + d) :: acc) := by
  obtain ⟨h0, h1⟩ := hd
  rcases (by omega : d = 0 ∨ d = 1 ∨ d = 2 ∨ d = 3 ∨ d = 4 ∨ d = 5 ∨ d = 6 ∨ d = 7 ∨ d = 8 ∨ d = 9) with rfl | rfl | rfl | rfl | rfl | rfl | rfl | rfl | rfl | rfl <;> rfl
theorem dig_len {d : Int} (hd : 0 ≤ d ∧ d < 10) : (List.take (Int.toNat (adI d 1) - Int.toNat d) (List.drop (Int.toNat d) [(48 : UInt8), (49 : UInt8), (50 : UInt8), (51 : UInt8), (52 : UInt8), (53 : UInt8), (54 : UInt8), (55 : UInt8), (56 : UInt8), (57 : UInt8)])).length = 1 := by
  obtain ⟨h0, h1⟩ := hd
  rcases (by omega : d = 0 ∨ d = 1 ∨ d = 2 ∨ d = 3 ∨ d = 4 ∨ d = 5 ∨ d = 6 ∨ d = 7 ∨ d = 8 ∨ d = 9) with rfl | rfl | rfl | rfl | rfl | rfl | rfl | rfl | rfl | rfl <;> rfl
theorem strI_len (acc : List Int) : (Array.toList (ByteArray.data (strI acc))).length = acc.length := by simp [strI]
theorem tt_loop {inr : Bool} {h0 : Hp} : ∀ (k : Nat) (h l : Int) (acc : List Int), wf64 h → wf64 l → h * 18446744073709551616 + l < 10 ^ k → 0 < k → k + acc.length ≤ 40 →
    LRuns inr Try.prog (ttB Try.prog) 2 3 h0 22 (ttS (strI acc)) [(1, hlR h l)] 2 (.ret, [(2, .string (strI (tdg k h l acc)))], [])
  | 0, h, l, acc, w1, w2, hv, hk, ha => absurd hk (by omega)
  | k + 1, h, l, acc, w1, w2, hv, hk, ha => by
      have x1 := w1.1
      have x2 := w1.2
      have x3 := w2.1
      have x4 := w2.2
      obtain ⟨d, hd⟩ : ∃ d, (h % 10 * 18446744073709551616 + l) % 10 = d := ⟨_, rfl⟩
      have rd : 0 ≤ d ∧ d < 10 := by omega
      have e2 : (48 : Int) + d = dgC h l := by rw [← hd]; rfl
      have e3 := dig_str rd acc
      rw [e2] at e3
      have ln := dig_len rd
      have ls := strI_len acc
      have ad : adI d 1 = d + 1 := adI_eq d 1
      have ew : (h % 10 * 18446744073709551616 + l) / 10 = dgL h l := rfl
      obtain ⟨n1, n2⟩ := nxt_wf w1 w2
      by_cases hz : h / 10 = 0 ∧ dgL h l = 0
      · have ed : tdg (k + 1) h l acc = dgC h l :: acc := if_pos hz
        rw [ed]
        have hr := fun o => code_runs (txV_X noL) (noL_okV rfl) (runZ_ok (txV_X noL) (txV_T noL) (noL_okV rfl) mixed 5) mixed (tt_last inr h l (strI acc)) o
        have eo : (h / 10 == 0 && (dgL h l == 0 && true)) = true := by simp [hz.1, hz.2]
        simp only [hd, e3, ln, ls, ew, eo] at hr
        refine LRuns.exit (hr ?_) (by intro e; cases e) rfl (by omega) (by omega) (fun n => n) ?_ trivial rfl
        · repeat' (first | exact alls_nil | refine alls_cons ?_ ?_)
          all_goals first | with_reducible assumption | with_reducible rfl | omega | (simp only [rg, adI_eq]; omega)
        · exact ⟨rfl, rfl, trivial⟩
      · have ed : tdg (k + 1) h l acc = tdg k (h / 10) (dgL h l) (dgC h l :: acc) := if_neg hz
        rw [ed]
        have hl := nxt_lt w1 w2 hv
        have hk0 : 0 < k := by
          match k, hl with
          | 0, hl =>
            have b1 := n1.1
            have b2 := n2.1
            have : (10 : Int) ^ 0 = 1 := rfl
            rw [this] at hl
            exact absurd (show h / 10 = 0 ∧ dgL h l = 0 by omega) hz
          | k + 1, _ => omega
        have nx := tt_loop (inr := inr) (h0 := h0) k (h / 10) (dgL h l) (dgC h l :: acc) n1 n2 hl hk0 (by rw [List.length_cons]; omega)
        have hr := fun o => code_runs (txV_X noL) (noL_okV rfl) (runZ_ok (txV_X noL) (txV_T noL) (noL_okV rfl) mixed 5) mixed (tt_more inr h l (strI acc)) o
        have eo : (h / 10 == 0 && (dgL h l == 0 && true)) = false := by
          cases hb : (h / 10 == 0 && (dgL h l == 0 && true)) with
          | false => rfl
          | true =>
            simp only [Bool.and_true, Bool.and_eq_true, beq_iff_eq] at hb
            exact absurd hb hz
        simp only [hd, e3, ln, ls, ew, eo] at hr
        refine LRuns.step (hr ?_) rfl (by omega) (by omega) (fun n => n) ?_ ?_ rfl nx
        · repeat' (first | exact alls_nil | refine alls_cons ?_ ?_)
          all_goals first | with_reducible assumption | with_reducible rfl | omega | (simp only [rg, adI_eq]; omega)
        · exact ⟨rfl, rb_ptr rfl, rfl, rfl, trivial⟩
        · exact ⟨rb_row (m := 1) rfl rfl rfl rfl (Fl.of rfl), trivial⟩
def txP (h : Hp) : Option (Int × Int) := match h with
  | [(_, ⟨_, [.int _ a, .int _ b]⟩)] => some (a, b)
  | [_, (_, ⟨_, [.int _ a, .int _ b]⟩)] => some (a, b)
  | _ => none
def tiSpec : LSpec := lspec (fun live h => txP h) (fun x => (tiS 40, [(2, ⟨.shut, dgR 40 []⟩), (1, hlR x.1 x.2)], 3)) (fun x tp => some ((.ret, [(2, .string (strI (tdg 40 x.1 x.2 [])))], [], 3, [1, 2]), tp, [wf64 x.1, wf64 x.2]))
def ttSpec : LSpec := lspec (fun live h => txP h) (fun x => (ttS (strI []), [(1, hlR x.1 x.2)], 2)) (fun x tp => some ((.ret, [(2, .string (strI (tdg 40 x.1 x.2 [])))], [], 3, [1]), tp, [wf64 x.1, wf64 x.2]))
theorem top40 {h l : Int} (w1 : wf64 h) (w2 : wf64 l) : h * 18446744073709551616 + l < 10 ^ 40 := by
  have x2 := w1.2
  have x4 := w2.2
  have : (10 : Int) ^ 40 = 10000000000000000000000000000000000000000 := by decide
  omega
theorem ti_spec_ok : LSOk Try.prog 39 [1, 3, 4] (tiB Try.prog) tiSpec := by
  refine lspec_ok fun x tp xt l2 h2 nx2 d tp' ob hs ho inr ts hn hg => ?_
  obtain ⟨h, l⟩ := x
  simp only at hs hg
  simp only [Option.some.injEq, Prod.mk.injEq] at hs
  obtain ⟨⟨rfl, rfl, rfl, rfl, rfl⟩, rfl, rfl⟩ := hs
  obtain ⟨w1, w2, _⟩ := ho
  have key := ti_loop (inr := inr) (h0 := [(2, ⟨.shut, dgR 40 []⟩), (1, hlR h l)]) 40 40 h l [] w1 w2 (top40 w1 w2) (by omega) (by omega) rfl
  refine LRuns.enter (l2 := tiS 40) (h2 := [(2, ⟨.shut, dgR 40 []⟩), (1, hlR h l)]) hn hg (Nat.le_refl 3) (Nat.le_refl 3) (fun n => n) ?_ ?_ rfl key ?_
  · exact ⟨rfl, rb_ptr rfl, rfl, rb_ptr rfl, rfl, rfl, trivial⟩
  · exact ⟨rb_row (m := 2) rfl rfl rfl rfl (dgR_fl _ _), rb_row (m := 1) rfl rfl rfl rfl (Fl.of rfl), trivial⟩
  · refine tidy_of (Nat.le_refl 3) (fun m hm hd => ?_) rfl
    simp only [List.mem_cons, List.not_mem_nil, or_false, not_or] at hd
    obtain rfl : m = 0 := (by (try simp only at hm); omega)
    rfl
theorem tt_spec_ok : LSOk Try.prog 22 [1, 3] (ttB Try.prog) ttSpec := by
  refine lspec_ok fun x tp xt l2 h2 nx2 d tp' ob hs ho inr ts hn hg => ?_
  obtain ⟨h, l⟩ := x
  simp only at hs hg
  simp only [Option.some.injEq, Prod.mk.injEq] at hs
  obtain ⟨⟨rfl, rfl, rfl, rfl, rfl⟩, rfl, rfl⟩ := hs
  obtain ⟨w1, w2, _⟩ := ho
  have key := tt_loop (inr := inr) (h0 := [(1, hlR h l)]) 40 h l [] w1 w2 (top40 w1 w2) (by omega) (by decide)
  refine LRuns.enter (l2 := ttS (strI [])) (h2 := [(1, hlR h l)]) hn hg (Nat.le_refl 2) (by omega) (fun n => n) ?_ ?_ rfl key ?_
  · exact ⟨rfl, rb_ptr rfl, rfl, rfl, trivial⟩
  · exact ⟨rb_row (m := 1) rfl rfl rfl rfl (Fl.of rfl), trivial⟩
  · refine tidy_of (by omega) (fun m hm hd => ?_) rfl
    simp only [List.mem_cons, List.not_mem_nil, or_false] at hd
    obtain rfl : m = 0 := (by (try simp only at hm); omega)
    rfl
def txL (P : Program) : LFun := orL (mkL 36 3 39 [1, 3, 4] (tiB P) tiSpec) (mkL 37 2 22 [1, 3] (ttB P) ttSpec)
theorem ti_all (h l : Int) : prjV (runZ (txV (txL Try.prog)) Try.prog 9 36 [.agg ⟨[.int .u64 h, .int .u64 l]⟩] [] 1 []) =
  Res.ok (Value.string (ByteArray.mk (Array.mk (List.map (fun n => UInt8.ofNat (Int.toNat n)) (tdg 40 h l [])))), [], [tiB Try.prog = tiB Try.prog, [(1, Value.pointer (some (Addr.mk 1 0 none))), (3, Value.pointer (some
 (Addr.mk 2 0 none))), (4, Value.int IntKind.i64 (40 : Int))] = tiS 40, [(2, Rw.mk Kd.shut [Value.int IntKind.u8 (0 : Int), Value.int IntKind.u8 (0 : Int), Value.int IntKind.u8 (0 : Int), Value.int IntKind.u8 (0 : Int),
 Value.int IntKind.u8 (0 : Int), Value.int IntKind.u8 (0 : Int), Value.int IntKind.u8 (0 : Int), Value.int IntKind.u8 (0 : Int), Value.int IntKind.u8 (0 : Int), Value.int IntKind.u8 (0 : Int), Value.int IntKind.u8 (0 :
 Int), Value.int IntKind.u8 (0 : Int), Value.int IntKind.u8 (0 : Int), Value.int IntKind.u8 (0 : Int), Value.int IntKind.u8 (0 : Int), Value.int IntKind.u8 (0 : Int), Value.int IntKind.u8 (0 : Int), Value.int IntKind.u8 (0
 : Int), Value.int IntKind.u8 (0 : Int), Value.int IntKind.u8 (0 : Int), Value.int IntKind.u8 (0 : Int), Value.int IntKind.u8 (0 : Int), Value.int IntKind.u8 (0 : Int), Value.int IntKind.u8 (0 : Int), Value.int IntKind.u8
 (0 : Int), Value.int IntKind.u8 (0 : Int), Value.int IntKind.u8 (0 : Int), Value.int IntKind.u8 (0 : Int), Value.int IntKind.u8 (0 : Int), Value.int IntKind.u8 (0 : Int), Value.int IntKind.u8 (0 : Int), Value.int
 IntKind.u8 (0 : Int), Value.int IntKind.u8 (0 : Int), Value.int IntKind.u8 (0 : Int), Value.int IntKind.u8 (0 : Int), Value.int IntKind.u8 (0 : Int), Value.int IntKind.u8 (0 : Int), Value.int IntKind.u8 (0 : Int),
 Value.int IntKind.u8 (0 : Int), Value.int IntKind.u8 (0 : Int)]), (1, Rw.mk Kd.shut [Value.int IntKind.u64 h, Value.int IntKind.u64 l])] = [(2, Rw.mk Kd.shut [Value.int IntKind.u8 (0 : Int), Value.int IntKind.u8 (0 :
 Int), Value.int IntKind.u8 (0 : Int), Value.int IntKind.u8 (0 : Int), Value.int IntKind.u8 (0 : Int), Value.int IntKind.u8 (0 : Int), Value.int IntKind.u8 (0 : Int), Value.int IntKind.u8 (0 : Int), Value.int IntKind.u8 (0
 : Int), Value.int IntKind.u8 (0 : Int), Value.int IntKind.u8 (0 : Int), Value.int IntKind.u8 (0 : Int), Value.int IntKind.u8 (0 : Int), Value.int IntKind.u8 (0 : Int), Value.int IntKind.u8 (0 : Int), Value.int IntKind.u8
 (0 : Int), Value.int IntKind.u8 (0 : Int), Value.int IntKind.u8 (0 : Int), Value.int IntKind.u8 (0 : Int), Value.int IntKind.u8 (0 : Int), Value.int IntKind.u8 (0 : Int), Value.int IntKind.u8 (0 : Int), Value.int
 IntKind.u8 (0 : Int), Value.int IntKind.u8 (0 : Int), Value.int IntKind.u8 (0 : Int), Value.int IntKind.u8 (0 : Int), Value.int IntKind.u8 (0 : Int), Value.int IntKind.u8 (0 : Int), Value.int IntKind.u8 (0 : Int),
 Value.int IntKind.u8 (0 : Int), Value.int IntKind.u8 (0 : Int), Value.int IntKind.u8 (0 : Int), Value.int IntKind.u8 (0 : Int), Value.int IntKind.u8 (0 : Int), Value.int IntKind.u8 (0 : Int), Value.int IntKind.u8 (0 :
 Int), Value.int IntKind.u8 (0 : Int), Value.int IntKind.u8 (0 : Int), Value.int IntKind.u8 (0 : Int), Value.int IntKind.u8 (0 : Int)]), (1, hlR h l)], 3 = 3, wf64 h, wf64 l]) := by kernel_rfl
theorem tt_all (h l : Int) : prjV (runZ (txV (txL Try.prog)) Try.prog 9 37 [.agg ⟨[.int .u64 h, .int .u64 l]⟩] [] 1 []) =
  Res.ok (Value.string (ByteArray.mk (Array.mk (List.map (fun n => UInt8.ofNat (Int.toNat n)) (tdg 40 h l [])))), [], [ttB Try.prog = ttB Try.prog, [(1, Value.pointer (some (Addr.mk 1 0 none))), (3, Value.string
 (ByteArray.mk #[]))] = ttS (strI []), [(1, Rw.mk Kd.shut [Value.int IntKind.u64 h, Value.int IntKind.u64 l])] = [(1, hlR h l)], 2 = 2, wf64 h, wf64 l]) := by kernel_rfl
/-- A number's text. -/
def txtI (h l : Int) : List Int := tdg 40 h l []
def gTxt : GSpec := fun av tp => match av with
  | [.fl (.agg ⟨[.int .u64 h, .int .u64 l]⟩)] => some (⟨fun _ => .string (strI (txtI h l)), []⟩, tp, [wf64 h, wf64 l])
  | _ => none
theorem ti_gok : GOk Try.prog 36 [.f] gTxt := by
  have hL : LOkZ (txV (txL Try.prog)) Try.prog := L_okV rfl (orL_ok (mkL_ok ti_spec_ok) (mkL_ok tt_spec_ok))
  intro av tp gr tp' ob hG ho hP caps hcap
  unfold gTxt at hG
  split at hG
  case h_2 => cases hG
  rename_i h l
  simp only [Option.some.injEq, Prod.mk.injEq] at hG
  obtain ⟨rfl, rfl, rfl⟩ := hG
  obtain ⟨w1, w2, _⟩ := ho
  obtain ⟨h', nx', d, T⟩ := run_val (txV_X _) (txV_T _) hL (ti_all h l) (by
    repeat' (first | exact alls_nil | refine alls_cons ?_ ?_)
    all_goals first | with_reducible assumption | rfl) rfl
  exact ⟨_, _, _, _, fun n => n, T, GrIs.flat fun σ => rfl⟩
theorem tt_gok : GOk Try.prog 37 [.f] gTxt := by
  have hL : LOkZ (txV (txL Try.prog)) Try.prog := L_okV rfl (orL_ok (mkL_ok ti_spec_ok) (mkL_ok tt_spec_ok))
  intro av tp gr tp' ob hG ho hP caps hcap
  unfold gTxt at hG
  split at hG
  case h_2 => cases hG
  rename_i h l
  simp only [Option.some.injEq, Prod.mk.injEq] at hG
  obtain ⟨rfl, rfl, rfl⟩ := hG
  obtain ⟨w1, w2, _⟩ := ho
  obtain ⟨h', nx', d, T⟩ := run_val (txV_X _) (txV_T _) hL (tt_all h l) (by
    repeat' (first | exact alls_nil | refine alls_cons ?_ ?_)
    all_goals first | with_reducible assumption | rfl) rfl
  exact ⟨_, _, _, _, fun n => n, T, GrIs.flat fun σ => rfl⟩
end Go.Proofs.Ytpiapipmhlpmjaa
