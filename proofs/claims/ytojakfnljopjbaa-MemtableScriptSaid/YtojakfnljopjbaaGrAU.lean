/-
  Chapter 12: binary search: its loop, its contract.
-/
import Derived.Test.YtojakfnljopjbaaGrAT
import Derived.Test.YtojakfnljopjbaaGrAR
namespace Go.Proofs.Ytojakfnljopjbaa
set_option linter.unusedSimpArgs false
set_option linter.unusedVariables false
set_option linter.unusedSectionVars false
open Go Go.RowKit
structure TbOk (ds : List DV) (n : Nat) : Prop where
 P : Prs ds (B2 ds)
 O : ∀ p ∈ B2 ds, PrOk p
 l : (B2 ds).length = n
 m : n ≤ 100
 a : asc (B2 ds) = true
theorem bsX {L : LFun} {T : TFun} : XOkZ (bsV L T) Try.prog := XOneZ.ok Ei rfl
theorem bsT0 {L : LFun} : TOkZ (bsV L noTz) Try.prog := D4 rfl
theorem bsL0 {T : TFun} : LOkZ (bsV noL T) Try.prog := C9 rfl
theorem Cg {lo N : Nat} {ρ : Nat → Nat} {h0 h1 : Hp} {n m : Nat} {ds : List DV} (hn : fnN lo N ρ n = some m) (hl : lk h1 m = some ⟨.sw ds, []⟩) : He lo N ρ h0 h1 n ⟨.sw ds, []⟩ := J4 hn hl trivial
theorem Ie {lo N : Nat} {ρ : Nat → Nat} {h0 h1 : Hp} {n m : Nat} {cs : List Value} (hn : fnN lo N ρ n = some m) (hl : lk h1 m = some ⟨.ow, cs⟩) (hf : ∀ τ, renL τ cs = some cs) : He lo N ρ h0 h1 n ⟨.ow, cs⟩ := ⟨m, _, hn, hl, rfl, trivial, .inl (hf _)⟩
theorem BytI.fl {n : Nat} {cs : List Value} (h : BytI n cs) : ∀ τ, renL τ cs = some cs := fun τ => by rw [h.1]; exact Cm _ τ
theorem bs_loop {inr : Bool} {h0 : Hp} {ds : List DV} {ky : List Value} {n m : Nat} (hT : TbOk ds n) (hK : BytI m ky) : ∀ (r i j : Nat), j - i ≤ r → i ≤ lbP (B2 ds) (B1 ky) → lbP (B2 ds) (B1 ky) ≤ j → j ≤ n →
  LRuns inr Try.prog (B6 Try.prog 46 3) 6 40 h0 49 (bsS n m i j) (bsH ds ky) 10 (.exit 0, [(0, sdA n), (1, kyA m), (2, fnA), (8, iV n), (9, iV (lbP (B2 ds) (B1 ky)))], bsH ds ky)
 | r, i, j, hr, h1, h2, h3 => by
   have hrow : ∀ (ρ : Nat → Nat) (N : Nat), N = 10 ∨ N = 40 → RbL 6 N ρ h0 (bsH ds ky) (bsH ds ky) := fun ρ N hN => by
    rcases hN with rfl | rfl
    ·exact ⟨Cg (m := 0) rfl rfl, Ie (m := 2) rfl rfl hK.fl, trivial⟩
    ·exact ⟨Cg (m := 0) rfl rfl, Ie (m := 2) rfl rfl hK.fl, trivial⟩
   by_cases hij : i < j
   ·have hm := hT.m
    have hh : (i + j) / 2 < (B2 ds).length := by rw [hT.l]; omega
    have F := hT.P.facts (List.getElem?_eq_getElem hh)
    obtain ⟨p, hp⟩ : ∃ p, (B2 ds)[(i + j) / 2] = p := ⟨_, rfl⟩
    have hat := lb_at (k := B1 ky) hT.a (List.getElem?_eq_getElem hh)
    have bp := (hT.O p (by rw [← hp]; exact List.getElem_mem hh)).1
    rw [hp] at F hat
    have f0 := F.l0
    have v0 := F.v0
    have o1 := F.o29 10
    have y1 := Ep bp
    have i0 := C1 p.1
    rw [ltK_cmp, decide_eq_true_eq] at hat
    cases r with
    | zero => omega
    | succ r =>
     by_cases hc : cmpI p.1 (B1 ky) < 0
     ·have hlt := hat.1 hc
      refine LRuns.step (Bb bsX bsL0 (Bh bsX bsT0 bsL0 mixed 9) mixed (bs_lt inr n m i j ds ky) ?_) rfl (by omega) (by omega) (fun n => n) ?_ (hrow _ _ (.inl rfl)) rfl (bs_loop hT hK r ((i + j) / 2 + 1) j (by omega) (by omega) h2 h3)
      ·simp only [Alls, rg, decide_eq_true_eq, decide_eq_false_iff_not, Nat.add_zero, f0, v0, i0]
       repeat' (with_reducible apply And.intro)
       all_goals first | omega | (with_reducible assumption) | (with_reducible exact trivial) | skip
      ·exact ⟨rfl, Bj rfl rfl, rfl, Bj rfl rfl, rfl, rfl, rfl, rfl, rfl, rfl, rfl, rfl, trivial⟩
     ·have hge : lbP (B2 ds) (B1 ky) ≤ (i + j) / 2 := by
       rcases Nat.lt_or_ge ((i + j) / 2) (lbP (B2 ds) (B1 ky)) with h | h
       ·exact absurd (hat.2 h) hc
       ·exact h
      refine LRuns.step (Bb bsX bsL0 (Bh bsX bsT0 bsL0 mixed 9) mixed (bs_ge inr n m i j ds ky) ?_) rfl (by omega) (by omega) (fun n => n) ?_ (hrow _ _ (.inl rfl)) rfl (bs_loop hT hK r i ((i + j) / 2) (by omega) h1 hge (by omega))
      ·simp only [Alls, rg, decide_eq_true_eq, decide_eq_false_iff_not, Nat.add_zero, f0, v0, i0]
       repeat' (with_reducible apply And.intro)
       all_goals first | omega | (with_reducible assumption) | (with_reducible exact trivial) | skip
      ·exact ⟨rfl, Bj rfl rfl, rfl, Bj rfl rfl, rfl, rfl, rfl, rfl, rfl, rfl, rfl, rfl, trivial⟩
   ·obtain rfl : i = lbP (B2 ds) (B1 ky) := by omega
    refine LRuns.exit (Bb bsX bsL0 (Bh bsX bsT0 bsL0 mixed 9) mixed (bs_end inr n m _ j ds ky) ?_) (by intro e; cases e) rfl (by omega) (by omega) (fun n => n) ?_ (hrow _ _ (.inr rfl)) rfl
    ·simp only [Alls, decide_eq_false_iff_not]
     exact ⟨by omega, trivial⟩
    ·exact ⟨rfl, Bj rfl rfl, rfl, Bj rfl rfl, rfl, rfl, rfl, rfl, rfl, rfl, trivial⟩
def BsOk (ds : List DV) (ky : List Value) (n m : Nat) : Prop := TbOk ds n ∧ BytI m ky
def bsPk (live : List (Nat × Value)) (h : Hp) : Option (Nat × Nat × List DV × List Value) := match live, lk h 0, lk h 2 with
 | (_, .slice _ n _) :: (_, .slice _ m _) :: _, some ⟨.sw ds, _⟩, some ⟨.ow, ky⟩ => some (n, m, ds, ky)
 | _, _, _ => none
def bsSp : I9 := Jw bsPk (fun a => (bsS a.1 a.2.1 0 a.1, bsH a.2.2.1 a.2.2.2, 6)) (fun a tp => some ((.exit 0, [(0, sdA a.1), (1, kyA a.2.1), (2, fnA), (8, iV a.1), (9, iV (lbP (B2 a.2.2.1) (B1 a.2.2.2)))], bsH a.2.2.1 a.2.2.2, 40, []), tp, [BsOk a.2.2.1 a.2.2.2 a.1 a.2.1]))
def bsLo (P : Program) : LFun := mkL 46 3 49 [0, 1, 2, 8, 9, 10] (B6 P 46 3) bsSp
theorem bsSp_ok : LSOk Try.prog 49 [0, 1, 2, 8, 9, 10] (B6 Try.prog 46 3) bsSp := by
 refine Eo fun a tp xt l2 h2 nx2 d tp' ob hs ho inr ts hn hg => ?_
 obtain ⟨n, m, ds, ky⟩ := a
 simp only at hs hg
 simp only [oI, pI] at hs
 obtain ⟨⟨rfl, rfl, rfl, rfl, rfl⟩, rfl, rfl⟩ := hs
 obtain ⟨⟨hT, hK⟩, _⟩ := ho
 have hle := It (B2 ds) (B1 ky)
 rw [hT.l] at hle
 have key := bs_loop (inr := inr) (h0 := bsH ds ky) hT hK n 0 n (by omega) (by omega) hle (Nat.le_refl _)
 refine LRuns.enter (N := 10) (l2 := bsS n m 0 n) hn hg (by omega) (by omega) (fun n => n) ?_ ?_ rfl key ?_
 ·exact ⟨rfl, Bj rfl rfl, rfl, Bj rfl rfl, rfl, rfl, rfl, rfl, rfl, rfl, rfl, rfl, trivial⟩
 ·exact ⟨Cg (m := 0) rfl rfl, Ie (m := 2) rfl rfl hK.fl, trivial⟩
 ·exact H0 (by omega) (fun m hm hd => rfl) rfl
theorem bs_f0 (n m : Nat) (ds : List DV) (ky : List Value) : prjV (runZ (bsV (bsLo Try.prog) noTz) Try.prog 9 46 [sdA n, kyA m, fnA] (bsH ds ky) 6 [false]) =
 (let a1 := (↑(lbP (B2 ds) (B1 ky)) : Int); Res.ok (Value.tuple (Array.mk [Value.int IntKind.i64 a1, Value.bool false]), [], [B6 Try.prog (46 : FuncId) 3 = B6 Try.prog (46 : FuncId) 3, [(0, Value.slice (some (Addr.mk 0 0 none)) n 18446744073709551616), (1, Value.slice (some (Addr.mk 2 0 none)) m (B0 + 2)), (2, Value.func (Fn.func 47) #[] #[]), (8, Value.int IntKind.i64 (↑n : Int)), (9, Value.int IntKind.i64 (0 : Int)), (10, Value.int IntKind.i64 (↑n : Int))] = bsS n m 0 n, bsH ds ky = bsH ds ky, 6 = 6, BsOk ds ky n m, decide (a1 < (↑n : Int)) = false])) := by kernel_rfl
theorem bs_f1 (n m : Nat) (ds : List DV) (ky : List Value) : prjV (runZ (bsV (bsLo Try.prog) noTz) Try.prog 9 46 [sdA n, kyA m, fnA] (bsH ds ky) 6 [true, false]) =
 (let a2 := (lbP (B2 ds) (B1 ky) * 3 + 0); let a1 := (↑(lbP (B2 ds) (B1 ky)) : Int); Res.ok (Value.tuple (Array.mk [Value.int IntKind.i64 a1, Value.bool false]), [], [B6 Try.prog (46 : FuncId) 3 = B6 Try.prog (46 : FuncId) 3, [(0, Value.slice (some (Addr.mk 0 0 none)) n 18446744073709551616), (1, Value.slice (some (Addr.mk 2 0 none)) m (B0 + 2)), (2, Value.func (Fn.func 47) #[] #[]), (8, Value.int IntKind.i64 (↑n : Int)), (9, Value.int IntKind.i64 (0 : Int)), (10, Value.int IntKind.i64 (↑n : Int))] = bsS n m 0 n, bsH ds ky = bsH ds ky, 6 = 6, BsOk ds ky n m, decide (a1 < (↑n : Int)) = true, (0 : Int) ≤ a1 ∧ a1 < (↑n : Int), ShOb Try.prog 29 false true ds (lbP (B2 ds) (B1 ky) * 3) 40, BytI (dLen ds a2) (B4 ds a2), BytI m ky, (cmpI (B1 (B4 ds a2)) (B1 ky) == (0 : Int)) = false])) := by kernel_rfl
theorem bs_f2 (n m : Nat) (ds : List DV) (ky : List Value) : prjV (runZ (bsV (bsLo Try.prog) noTz) Try.prog 9 46 [sdA n, kyA m, fnA] (bsH ds ky) 6 [true, true]) =
 (let a2 := (lbP (B2 ds) (B1 ky) * 3 + 0); let a1 := (↑(lbP (B2 ds) (B1 ky)) : Int); Res.ok (Value.tuple (Array.mk [Value.int IntKind.i64 a1, Value.bool true]), [], [B6 Try.prog (46 : FuncId) 3 = B6 Try.prog (46 : FuncId) 3, [(0, Value.slice (some (Addr.mk 0 0 none)) n 18446744073709551616), (1, Value.slice (some (Addr.mk 2 0 none)) m (B0 + 2)), (2, Value.func (Fn.func 47) #[] #[]), (8, Value.int IntKind.i64 (↑n : Int)), (9, Value.int IntKind.i64 (0 : Int)), (10, Value.int IntKind.i64 (↑n : Int))] = bsS n m 0 n, bsH ds ky = bsH ds ky, 6 = 6, BsOk ds ky n m, decide (a1 < (↑n : Int)) = true, (0 : Int) ≤ a1 ∧ a1 < (↑n : Int), ShOb Try.prog 29 false true ds (lbP (B2 ds) (B1 ky) * 3) 40, BytI (dLen ds a2) (B4 ds a2), BytI m ky, (cmpI (B1 (B4 ds a2)) (B1 ky) == (0 : Int)) = true])) := by kernel_rfl
def bsVal (ds : List DV) (ky : List Value) (b : Bool) : Value := .tuple ⟨[.int .i64 (lbP (B2 ds) (B1 ky) : Int), .bool b]⟩
theorem bs_run {n m : Nat} {ds : List DV} {ky : List Value} (h : BsOk ds ky n m) : ∃ h' nx' d, Tri Try.prog 46 [sdA n, kyA m, fnA] (bsH ds ky) 6 (bsVal ds ky (hitP (B2 ds) (B1 ky)), h', nx', d) := by
 have run : ∀ {tp tp' : Tape} {v : Value} {ob : List Prop}, prjV (runZ (bsV (bsLo Try.prog) noTz) Try.prog 9 46 [sdA n, kyA m, fnA] (bsH ds ky) 6 tp) = .ok (v, tp', ob) → Alls ob → ∃ h' nx' d, Tri Try.prog 46 [sdA n, kyA m, fnA] (bsH ds ky) 6 (v, h', nx', d) := fun e ho => Ia bsX bsT0 (Lz rfl (Hm bsSp_ok)) e ho rfl
 obtain ⟨hT, hK⟩ := id h
 have hle := It (B2 ds) (B1 ky)
 rw [hT.l] at hle
 by_cases h1 : lbP (B2 ds) (B1 ky) < n
 ·have hh : lbP (B2 ds) (B1 ky) < (B2 ds).length := by rw [hT.l]; exact h1
  have F := hT.P.facts (List.getElem?_eq_getElem hh)
  have e1 : hitP (B2 ds) (B1 ky) = decide ((B2 ds)[lbP (B2 ds) (B1 ky)].1 = B1 ky) := by unfold hitP; rw [List.getElem?_eq_getElem hh]
  have bp := (hT.O _ (List.getElem_mem hh)).1
  generalize (B2 ds)[lbP (B2 ds) (B1 ky)] = p at F e1 bp
  have f0 := F.l0
  have v0 := F.v0
  have o1 := F.o29 40
  have y1 := Ep bp
  have i0 := C1 p.1
  have c0 := cmpI_zero p.1 (B1 ky)
  by_cases h2 : p.1 = B1 ky
  ·rw [e1, decide_eq_true h2]
   refine run (bs_f2 n m ds ky) ?_
   simp only [Alls, rg, decide_eq_true_eq, decide_eq_false_iff_not, Nat.add_zero, f0, v0, i0, c0.2 h2]
   repeat' (with_reducible apply And.intro)
   all_goals first | omega | (with_reducible assumption) | (with_reducible exact trivial) | (with_reducible rfl) | exact rfl
  ·rw [e1, decide_eq_false h2]
   refine run (bs_f1 n m ds ky) ?_
   have c1 : (cmpI p.1 (B1 ky) == 0) = false := by
    have : cmpI p.1 (B1 ky) ≠ 0 := fun e => h2 (c0.1 e)
    simpa using this
   simp only [Alls, rg, decide_eq_true_eq, decide_eq_false_iff_not, Nat.add_zero, f0, v0, i0, c1]
   repeat' (with_reducible apply And.intro)
   all_goals first | omega | (with_reducible assumption) | (with_reducible exact trivial) | (with_reducible rfl) | exact rfl
 ·have e1 : hitP (B2 ds) (B1 ky) = false := by unfold hitP; rw [List.getElem?_eq_none (by rw [hT.l]; omega)]
  rw [e1]
  refine run (bs_f0 n m ds ky) ?_
  simp only [Alls, decide_eq_false_iff_not]
  repeat' (with_reducible apply And.intro)
  all_goals first | omega | (with_reducible assumption) | (with_reducible exact trivial) | (with_reducible rfl) | exact rfl
def gBs : Hs := fun aL tp => match aL, tp with
 | [.dl ds n, .sl ky m, .fl fn], b :: tp' => some (⟨fun _ => bsVal ds ky b, []⟩, tp', [BsOk ds ky n m ∧ hitP (B2 ds) (B1 ky) = b ∧ fn = fnA])
 | _, _ => none
theorem GrD.flat {v : Value} {h0' : Hp} (hv : ∀ σ, renV σ v = some v) : GrD ⟨fun _ => v, []⟩ v h0' (fun n => n) := ⟨fun nx => hv _, fun j r h => by simp at h, fun i j h => by simp at h⟩
theorem bs_gok : GOkD Try.prog 46 gBs := by
 intro aL tp gr tp' ob hG ho cs hc
 unfold gBs at hG
 split at hG
 case h_2 => cases hG
 rename_i ds n ky m fn b tp2
 simp only [oI, pI] at hG
 obtain ⟨rfl, rfl, rfl⟩ := hG
 obtain ⟨⟨h1, rfl, rfl⟩, _⟩ := ho
 obtain ⟨h', nx', d, T⟩ := bs_run h1
 exact ⟨_, h', nx', d, fun n => n, T, GrD.flat fun σ => rfl⟩
def bsT : TFun := mkD 46 [.d, .s, .f] gBs
theorem bsT_one : Cv Try.prog bsT := J6 bs_gok
def tbTab : FuncId → List Nat := fun f => []
def ptA : Value := .pointer (some ⟨0, 0, none⟩)
def tbC (n c : Nat) : List Value := [.bool true, .slice (some ⟨1, 0, none⟩) n c]
def gtH (n c : Nat) (ds : List DV) (ky : List Value) : Hp := [(0, ⟨.ow, tbC n c⟩), (1, ⟨.sw ds, []⟩), (2, ⟨.ow, ky⟩)]
structure PkOk (p : Pr) : Prop where
 k1 : 1 ≤ p.1.length
 k2 : p.1.length ≤ 200
 v2 : p.2.1.length ≤ 200
structure TbK (ds : List DV) (n : Nat) : Prop where
 T : TbOk ds n
 K : ∀ p ∈ B2 ds, PkOk p
def atP (ps : List Pr) (k : List Int) : Pr := ps.getD (lbP ps k) ([], [], false)
theorem Hl {ps : List Pr} {k : List Int} (h : hitP ps k = true) : ps[lbP ps k]? = some (atP ps k) ∧ (atP ps k).1 = k ∧ lbP ps k < ps.length := by
 unfold hitP at h
 split at h
 ·rename_i p hp
  have e : atP ps k = p := by unfold atP; rw [List.getD_eq_getElem?_getD, hp]; rfl
  exact ⟨by rw [hp, e], by rw [e]; simpa using h, (List.getElem?_eq_some_iff.1 hp).1⟩
 ·cases h
def prV (p : Pr) (nx : Nat) : Value := .agg ⟨[.slice (some ⟨nx, 0, none⟩) p.1.length (B0 + nx), .slice (some ⟨nx + 1, 0, none⟩) p.2.1.length (B0 + (nx + 1)), .bool p.2.2]⟩
def Jb : Code → Option (Code × Code)
 | .seq x y => match Jb x with | some c => some c | none => Jb y
 | .block _ x => Jb x
 | .scope x => Jb x
 | .loop x => Jb x
 | .cond _ x y => match Jb x with | some c => some c | none => Jb y
 | .rangeFunc _ _ as_ bd => some (as_, bd)
 | _ => none
def rfOf (P : Program) (f : FuncId) : Code × Code := match P.funcs[f]? with
 | some fn => (match fn.body with
  | some c => (match Jb c with | some r => r | none => (.skip, .skip))
  | none => (.skip, .skip))
 | none => (.skip, .skip)
def rfAs (P : Program) (f : FuncId) : Code := (rfOf P f).1
def rfBd (P : Program) (f : FuncId) : Code := (rfOf P f).2
def btH (n c : Nat) (ds : List DV) (k1 k2 : List Value) : Hp := [(0, ⟨.ow, tbC n c⟩), (1, ⟨.sw ds, []⟩), (2, ⟨.ow, k1⟩), (4, ⟨.ow, k2⟩)]
def kyB (m : Nat) : Value := .slice (some ⟨4, 0, none⟩) m (B0 + 4)
def btTm (m1 m2 : Nat) : List Value := [ptA, kyA m1, kyB m2, undef, undef, undef, .slice none 0 0, .pointer (some ⟨6, 0, none⟩), undef, ptA, .bool false, ptA, kyA m1, kyB m2, .func (.func 50) ⟨[]⟩ ⟨[.pointer (some ⟨7, 0, none⟩), .pointer (some ⟨8, 0, none⟩), .pointer (some ⟨9, 0, none⟩)]⟩, undef, undef, undef, undef, undef, undef]
def rcR (P : Program) (m1 m2 : Nat) : Rw := ⟨.round .ready none (btTm m1 m2) #[15] (rfAs P 23) (rfBd P 23), []⟩
def btG (P : Program) (n c m1 m2 : Nat) (ds : List DV) (k1 k2 : List Value) (out : Value) : Hp := (11, rcR P m1 m2) :: (10, ⟨.marks, []⟩) :: (9, ⟨.shut, [kyB m2]⟩) :: (8, ⟨.shut, [kyA m1]⟩) :: (7, ⟨.shut, [ptA]⟩) :: (6, ⟨.shut, [out]⟩) :: btH n c ds k1 k2
def btS (o q d i : Nat) : List (Nat × Value) := [(0, .func (.yield 11) ⟨[]⟩ ⟨[]⟩), (1, .pointer (some ⟨7, 0, none⟩)), (2, .pointer (some ⟨8, 0, none⟩)), (3, .pointer (some ⟨9, 0, none⟩)), (20, .slice (some ⟨1, o, none⟩) q d), (21, iV q), (22, iV i)]
def upP (t : List Int) (p : Pr) : Bool := t.isEmpty || ltK p.1 t
def tkP (ps : List Pr) (t : List Int) : List Pr := ps.takeWhile (upP t)
theorem Hg {lo N : Nat} {ρ : Nat → Nat} {h0 h1 : Hp} {n m : Nat} {v v1 : Value} (hn : fnN lo N ρ n = some m) (hl : lk h1 m = some ⟨.shut, [v1]⟩) (hv : renV (sgf lo N ρ) v = some v1) : He lo N ρ h0 h1 n ⟨.shut, [v]⟩ := ⟨m, _, hn, hl, rfl, rfl, .inl (Bi hv rfl)⟩
theorem tb_row {lo N : Nat} {ρ : Nat → Nat} {h0 h1 : Hp} {n m q c : Nat} (hn : fnN lo N ρ n = some m) (hl : lk h1 m = some ⟨.ow, tbC q c⟩) (h : renV (sgf lo N ρ) (.slice (some ⟨1, 0, none⟩) q c) = some (.slice (some ⟨1, 0, none⟩) q c)) : He lo N ρ h0 h1 n ⟨.ow, tbC q c⟩ := ⟨m, _, hn, hl, rfl, trivial, .inl (Bi rfl (Bi h rfl))⟩
def xtB (b : Bool) : Xt := bif b then .exit 0 else .ret
theorem H3 {N : Nat} (hN : N = 81 ∨ N = 120) {ρ : Nat → Nat} {h0 h1 : Hp} {n c m1 m2 : Nat} {ds : List DV} {k1 k2 : List Value} {out out1 : Value} (hc : c ≤ 9223372036854775807) (h1f : BytI m1 k1) (h2f : BytI m2 k2) (hrows : ∀ j r, j < 12 → j ≠ 6 → lk (btG Try.prog n c m1 m2 ds k1 k2 out) j = some r → lk h1 j = some r) (h6 : lk h1 6 = some ⟨.shut, [out1]⟩) (hout : renV (sgf 12 N ρ) out = some out1) : RbL 12 N ρ h0 h1 (btG Try.prog n c m1 m2 ds k1 k2 out) := by
 have hcc : c < B0 := by unfold B0; omega
 rcases hN with rfl | rfl
 ·exact ⟨J4 (m := 11) rfl (hrows 11 _ (by omega) (by omega) rfl) rfl, J4 (m := 10) rfl (hrows 10 _ (by omega) (by omega) rfl) trivial, Hg (m := 9) rfl (hrows 9 _ (by omega) (by omega) rfl) (Bj rfl rfl), Hg (m := 8) rfl (hrows 8 _ (by omega) (by omega) rfl) (Bj rfl rfl), Hg (m := 7) rfl (hrows 7 _ (by omega) (by omega) rfl) (Bp rfl), Hg (m := 6) rfl h6 hout, tb_row (m := 0) rfl (hrows 0 _ (by omega) (by omega) rfl) (Bt rfl hcc), Cg (m := 1) rfl (hrows 1 _ (by omega) (by omega) rfl), Ie (m := 2) rfl (hrows 2 _ (by omega) (by omega) rfl) h1f.fl, Ie (m := 4) rfl (hrows 4 _ (by omega) (by omega) rfl) h2f.fl, trivial⟩
 ·exact ⟨J4 (m := 11) rfl (hrows 11 _ (by omega) (by omega) rfl) rfl, J4 (m := 10) rfl (hrows 10 _ (by omega) (by omega) rfl) trivial, Hg (m := 9) rfl (hrows 9 _ (by omega) (by omega) rfl) (Bj rfl rfl), Hg (m := 8) rfl (hrows 8 _ (by omega) (by omega) rfl) (Bj rfl rfl), Hg (m := 7) rfl (hrows 7 _ (by omega) (by omega) rfl) (Bp rfl), Hg (m := 6) rfl h6 hout, tb_row (m := 0) rfl (hrows 0 _ (by omega) (by omega) rfl) (Bt rfl hcc), Cg (m := 1) rfl (hrows 1 _ (by omega) (by omega) rfl), Ie (m := 2) rfl (hrows 2 _ (by omega) (by omega) rfl) h1f.fl, Ie (m := 4) rfl (hrows 4 _ (by omega) (by omega) rfl) h2f.fl, trivial⟩
theorem Ij {j : Nat} (h : j < 12) {C : Nat → Prop} (h0 : C 0) (h1 : C 1) (h2 : C 2) (h3 : C 3) (h4 : C 4) (h5 : C 5) (h6 : C 6) (h7 : C 7) (h8 : C 8) (h9 : C 9) (h10 : C 10) (h11 : C 11) : C j := by
 match j, h with
 | 0, _ => exact h0
 | 1, _ => exact h1
 | 2, _ => exact h2
 | 3, _ => exact h3
 | 4, _ => exact h4
 | 5, _ => exact h5
 | 6, _ => exact h6
 | 7, _ => exact h7
 | 8, _ => exact h8
 | 9, _ => exact h9
 | 10, _ => exact h10
 | 11, _ => exact h11
structure BtOk (ds : List DV) (n c m1 m2 k q d : Nat) (k1 k2 : List Value) : Prop where
 T : TbK ds n
 K1 : BytI m1 k1
 K2 : BytI m2 k2
 c : c ≤ 9223372036854775807
 d : d ≤ 9223372036854775807
 kn : k + q = n
theorem bt_up {m2 : Nat} {k2 : List Value} {p : Pr} (h : BytI m2 k2) : upP (B1 k2) p = true ↔ m2 = 0 ∨ cmpI p.1 (B1 k2) < 0 := by
 unfold upP
 rw [ltK_cmp, Bool.or_eq_true, decide_eq_true_eq]
 have : (B1 k2).isEmpty = true ↔ m2 = 0 := by
  have e := h.2.2
  rw [h.1, List.length_map] at e
  rw [← e, List.isEmpty_iff, List.length_eq_zero_iff]
 rw [this]
def btw (ps : List Pr) (a b : List Int) : List Pr := tkP (ps.drop (lbP ps a)) b
def btN : Value := .slice none 0 0
structure BtSt (ds : List DV) (n c m1 m2 o q d : Nat) (k1 k2 : List Value) (b1 b2 : Bool) : Prop where
 B : BtOk ds n c m1 m2 (lbP (B2 ds) (B1 k1)) q d k1 k2
 o : q = 0 ∨ o = lbP (B2 ds) (B1 k1) * 3
 e : (btw (B2 ds) (B1 k1) (B1 k2)).isEmpty = b1
 x : decide ((btw (B2 ds) (B1 k1) (B1 k2)).length = q) = b2
structure BtA where
 n : Nat
 c : Nat
 m1 : Nat
 m2 : Nat
 o : Nat
 q : Nat
 d : Nat
 ds : List DV
 k1 : List Value
 k2 : List Value
def btPk (live : List (Nat × Value)) (h : Hp) : Option BtA := match live, lk h 0, lk h 1 with
 | _ :: _ :: _ :: _ :: (_, .slice (some ⟨_, o, _⟩) q d) :: _, some ⟨_, [_, .slice _ n c]⟩, some ⟨.sw ds, _⟩ => (match lk h 2, lk h 4, lk h 8, lk h 9 with
  | some ⟨_, k1⟩, some ⟨_, k2⟩, some ⟨_, [.slice _ m1 _]⟩, some ⟨_, [.slice _ m2 _]⟩ => some ⟨n, c, m1, m2, o, q, d, ds, k1, k2⟩
  | _, _, _, _ => none)
 | _, _, _ => none
theorem bw_ob {ds : List DV} {n c m1 m2 : Nat} {k1 k2 : List Value} {b0 b1 b2 : Bool} {v : Value} (h1 : TbK ds n) (h2 : BytI m1 k1) (h3 : BytI m2 k2) (hc : n ≤ c ∧ c ≤ 9223372036854775807) (e0 : hitP (B2 ds) (B1 k1) = b0) (e1 : (btw (B2 ds) (B1 k1) (B1 k2)).isEmpty = b1) (e2 : decide ((btw (B2 ds) (B1 k1) (B1 k2)).length = sbN n (lbP (B2 ds) (B1 k1))) = b2) :
  (n = 0 → ds = []) ∧ ((∀ τ, renL τ k1 = some k1) ∧ (m1 = 0 → k1 = [])) ∧ (BsOk ds k1 n m1 ∧ hitP (B2 ds) (B1 k1) = b0) ∧ c < 18446744073709551616 ∧ (0 ≤ (lbP (B2 ds) (B1 k1) : Int) ∧ (lbP (B2 ds) (B1 k1) : Int) ≤ (n : Int)) ∧ BtSt ds n c m1 m2 (loO (some v) 0 (lbP (B2 ds) (B1 k1)) c 3) (sbN n (lbP (B2 ds) (B1 k1))) (sbN c (lbP (B2 ds) (B1 k1))) k1 k2 b1 b2 := by
 have hle := It (B2 ds) (B1 k1)
 rw [h1.T.l] at hle
 have he : n = 0 → ds = [] := fun e => by
  have := h1.T.P
  rw [List.eq_nil_of_length_eq_zero (h1.T.l.trans e)] at this
  exact this
 refine ⟨he, ⟨h2.fl, fun e => List.eq_nil_of_length_eq_zero (by rw [h2.2.2, e])⟩, ⟨⟨h1.T, h2⟩, e0⟩, by omega, ⟨by omega, by omega⟩, ⟨⟨h1, h2, h3, hc.2, by rw [Dh]; omega, by rw [Dh]; omega⟩, ?_, e1, e2⟩⟩
 by_cases h : lbP (B2 ds) (B1 k1) = c
 ·exact .inl (by rw [Dh]; omega)
 ·refine .inr ?_
  show slO 0 (lbP (B2 ds) (B1 k1)) c 3 = _
  unfold slO
  rw [Ca (Ne.symm h)]
  simp
theorem byts_u8 : ∀ {cs : List Value}, (∀ x ∈ cs, isU8 x) → Byts cs
 | [], _ => ⟨rfl, fun n hn => by cases hn⟩
 | x :: cs, h => by
   obtain ⟨n, rfl, h1⟩ := h x (List.mem_cons_self ..)
   have ih := byts_u8 fun y hy => h y (List.mem_cons_of_mem _ hy)
   refine ⟨?_, fun k hk => ?_⟩
   ·have := ih.1
    show _ = Value.int .u8 n :: (B1 cs).map (Value.int .u8)
    rw [← this]
   ·rcases List.mem_cons.1 (show k ∈ n :: B1 cs from hk) with rfl | hk
    ·exact h1
    ·exact ih.2 k hk
theorem Stp.exdel {W : World} {σ : Sg} {h : Hp} {w w' : World} (hR : Rl W σ h w) {n : Nat} {r : Rw} (hl : lk h n = some r) (hx : Ext W w') (hz : w.heap.size ≤ w'.heap.size) (hk : ∀ k, k < w.heap.size → k ∉ ex σ n → w'.heap[k]? = w.heap[k]?) (lo : Nat) : Stp W lo lo σ h w σ (delH h n) w' := by
 have hd : ∀ m s, lk (delH h n) m = some s → lk h m = some s ∧ m ≠ n := fun m s e => by
  rw [Bf] at e
  split at e
  ·cases e
  ·rename_i hne; exact ⟨e, Ne.symm hne⟩
 refine Stp0.up ⟨Sg.le.refl σ, fun _ _ => ⟨rfl, rfl⟩, ⟨hx, fun m s e => ?_, fun m k s t p q a b => hR.inj m k s t p q (hd _ _ a).1 (hd _ _ b).1⟩, hz, fun b hb _ hnx => hk b hb (hnx n r hl), fun m s q e hs hq => .inr ⟨m, s, q, (hd _ _ e).1, hs, hq, rfl⟩⟩ hR.shr hR.wf (hR.shr.sub fun m s e => ⟨s, (hd _ _ e).1, fun h => h⟩)
 obtain ⟨e, hne⟩ := hd m s e
 refine (hR.row m s e).keep (Sg.le.refl σ) (fun ho p hp => hk _ (hR.lt e ho hp) fun h2 => (hR.shr.2.2 n r _ hl h2).2.1 m s p e ho hp rfl) (fun k hk2 => hk _ (hR.shr.2.1 m s k e hk2).1 fun h2 => ((hR.shr.2.2 n r _ hl h2).2.2 m s e).1 hk2) fun k hk2 => hk _ (hR.shr.2.2 m s k e hk2).1 fun h2 => hne (((hR.shr.2.2 n r _ hl h2).2.2 m s e).2 hk2)

structure Xs (W w0 : World) (G : List Nat) (w : World) (L : Ce) : Prop where
 st : St W w L
 sz : w0.heap.size ≤ w.heap.size
 fr : ∀ k, k < w0.heap.size → k ∉ G → w.heap[k]? = w0.heap[k]?
 g : ∀ p, p ∈ L → p.1 ∈ G
theorem Xs.ext {W w0 : World} {G : List Nat} {w w' : World} {L : Ce} (h : Xs W w0 G w L) (hx : Ext w w') : Xs W w0 G w' L :=
 ⟨h.st.ext hx, Nat.le_trans h.sz hx.size, fun k h1 h2 => (Below.block hx k (Nat.lt_of_lt_of_le h1 h.sz)).trans (h.fr k h1 h2), h.g⟩
theorem over_H (cs : List Value) (len : Nat) (h1 : len ≤ cs.length) (h2 : Byts cs) (h3 : cs.length ≤ 9223372036854775807) : ∃ nx' d, Tri Try.prog 40 [.slice (some ⟨0, 0, none⟩) len cs.length] [(0, ⟨.shut, cs⟩)] 1 (.tuple #[], [], nx', d) := by
 have hX : ∀ L, XOkZ (ovV L) Try.prog := fun L => Ig rfl
 have hT : ∀ L, TOkZ (ovV L) Try.prog := fun L => D4 rfl
 have hL : LOkZ (ovV (ovL Try.prog)) Try.prog := Lz rfl (Hm ov_spec_ok)
 refine ⟨_, _, C6 (hX _) (hT _) hL (over_s cs len cs.length) ?_ rfl⟩
 simp only [Alls]
 repeat' (first | with_reducible exact trivial | with_reducible apply And.intro)
 all_goals first | with_reducible assumption | omega | with_reducible rfl | (skip)
theorem over_z  : runZ (ovV noL) Try.prog 5 40 [.slice (some ⟨0, 0, none⟩) 0 0] [(0, ⟨.old, []⟩)] 1 [false] =
 Res.ok ((Value.tuple (Array.mk []), [(0, Rw.mk Kd.old [])], 1, []), [], [0 < 18446744073709551616, 0 < 18446744073709551616, (0 : Int) ≤ (0 : Int) ∧ (0 : Int) ≤ (0 : Int), false = false]) := by kernel_rfl
theorem overZ (a : Option Addr) (w : World) : Calls Try.prog 40 #[.slice a 0 0] w fun e w' => e = .returned (.tuple #[]) ∧ Ext w w' := by
 have hX : ∀ L, XOkZ (ovV L) Try.prog := fun L => Ig rfl
 have hT : ∀ L, TOkZ (ovV L) Try.prog := fun L => D4 rfl
 have hL0 : LOkZ (ovV noL) Try.prog := C9 rfl
 refine calls_av [.sc [] 0 0] (vs := [.slice a 0 0]) (ps := [emp a]) (fun cs _ => ⟨_, _, _, C6 (hX _) (hT _) hL0 over_z (by simp [Alls]) rfl⟩) (fun σ => rfl) ⟨⟨_, rfl, .inr ⟨a, rfl, rfl, rfl, rfl, rfl⟩, fun σ => rfl, by omega, Nat.le_refl _⟩, trivial⟩ fun j ad c hj b hb => ?_
 match j, hb with
 | 0, hb => simp only [List.getElem?_cons_zero, oI] at hb; subst hb; exact .inl rfl
 | j + 1, hb => simp at hb
theorem St.drop1 {W w : World} {L1 L2 : Ce} {p : Nat × List Value} (h : St W w (L1 ++ p :: L2)) : W.heap.size ≤ p.1 ∧ Row w p.1 p.2 ∧ ∀ q, q ∈ L1 ++ L2 → q.1 ≠ p.1 := by
 obtain ⟨_, h1, h2⟩ := h
 obtain ⟨a1, a2⟩ := h1 p (by simp)
 refine ⟨a1, a2, fun q hq e => ?_⟩
 have : ((p :: (L1 ++ L2)).map (·.1)).Nodup := ((List.perm_middle (l₁ := L1) (l₂ := L2) (a := p)).map (·.1)).nodup_iff.1 h2
 rw [List.map_cons, List.nodup_cons] at this
 exact this.1 (List.mem_map.2 ⟨q, hq, e⟩)
theorem overX {W w0 : World} {G : List Nat} {w : World} {L1 L2 : Ce} {b len : Nat} {cs : List Value} (h : Xs W w0 G w (L1 ++ (b, cs) :: L2)) (h1 : len ≤ cs.length) (h2 : Byts cs) (h3 : cs.length ≤ 9223372036854775807) :
  Calls Try.prog 40 #[.slice (some ⟨b, 0, none⟩) len cs.length] w fun e w' => e = .returned (.tuple #[]) ∧ Xs W w0 G w' (L1 ++ L2) := by
 obtain ⟨nx', d, T⟩ := over_H cs len h1 h2 h3
 obtain ⟨hge, ⟨t, hrow⟩, hne⟩ := h.st.drop1
 have hR0 : Rl W (sgO b) [(0, ⟨.shut, cs⟩)] w := rl_one h.st.x hge (Do h2 _) hrow
 have hv0 : renV (sgO b) (.slice (some ⟨0, 0, none⟩) len cs.length) = some (.slice (some ⟨b, 0, none⟩) len cs.length) := by
  have := B5 (σ := sgO b) (n := 0) (o := 0) (l := len) (c := cs.length) (c' := cs.length) (p := (b, 0)) rfl (by unfold cpR; rw [if_pos (by unfold B0; omega)]) (by intro e; cases e) (.inr h1)
  simpa using this
 refine (T.2 (Ln rfl) W _ w _ hR0 (fun k h1 _ => ⟨if_neg (by omega), rfl⟩) (Bi hv0 rfl)).mono ?_
 rintro e w' ⟨σ', u, S, hu, rfl⟩
 have keep : ∀ b', b' < w.heap.size → b' ≠ b → w'.heap[b']? = w.heap[b']? := fun b' h1 h2 => S.fr b' h1 (fun k r1 p1 hk1 _ hp1 => by
  rw [B3] at hk1
  split at hk1
  ·rename_i e; subst e
   simp only [sgO, if_true, oI] at hp1
   rw [← hp1]; exact Ne.symm h2
  ·simp [lk] at hk1) fun k r1 _ hx => by cases hx
 have hu2 : u = .tuple #[] := by simp only [renV, renA, renL, oI] at hu; exact hu.symm
 refine ⟨by rw [hu2], ⟨S.rl.ext, fun p hp => ?_, ?_⟩, Nat.le_trans h.sz S.size, fun k h4 h5 => ?_, fun p hp => h.g p (by
  rcases List.mem_append.1 hp with hp | hp
  ·exact List.mem_append_left _ hp
  ·exact List.mem_append_right _ (List.mem_cons_of_mem _ hp))⟩
 ·have hp2 : p ∈ L1 ++ (b, cs) :: L2 := by
   rcases List.mem_append.1 hp with hp | hp
   ·exact List.mem_append_left _ hp
   ·exact List.mem_append_right _ (List.mem_cons_of_mem _ hp)
  obtain ⟨g1, g2⟩ := h.st.2.1 p hp2
  have hlt := g2.lt
  obtain ⟨t2, g2⟩ := g2
  exact ⟨g1, t2, by rw [keep _ hlt (hne p hp)]; exact g2⟩
 ·have := ((List.perm_middle (l₁ := L1) (l₂ := L2) (a := (b, cs))).map (·.1)).nodup_iff.1 h.st.2.2
  rw [List.map_cons, List.nodup_cons] at this
  exact this.2
 ·rw [keep k (Nat.lt_of_lt_of_le h4 h.sz) (fun e => h5 (by rw [e]; exact h.g (b, cs) (by simp)))]
  exact h.fr k h4 h5
def Sl1 (u : Value) (L : Ce) : Prop := (∃ a, u = .slice a 0 0 ∧ L = []) ∨ ∃ b len cs, u = .slice (some ⟨b, 0, none⟩) len cs.length ∧ L = [(b, cs)] ∧ len ≤ cs.length ∧ Byts cs ∧ cs.length ≤ 9223372036854775807
theorem overS {W w0 : World} {G : List Nat} {w : World} {L0 L1 L2 : Ce} {u : Value} (hu : Sl1 u L1) (h : Xs W w0 G w (L0 ++ (L1 ++ L2))) : Calls Try.prog 40 #[u] w fun e w' => e = .returned (.tuple #[]) ∧ Xs W w0 G w' (L0 ++ L2) := by
 rcases hu with ⟨a, rfl, rfl⟩ | ⟨b, len, cs, rfl, rfl, h1, h2, h3⟩
 ·exact (overZ a w).mono fun e w' ⟨h1, h2⟩ => ⟨h1, by simpa using h.ext h2⟩
 ·exact overX (by simpa using h) h1 h2 h3
def Elts : Nat → List Value → Ce → Prop
 | 0, _, L => L = []
 | n + 1, us, L => ∃ u v g us' L1 L2 L3, us = u :: v :: g :: us' ∧ L = L1 ++ (L2 ++ L3) ∧ Sl1 u L1 ∧ Sl1 v L2 ∧ Elts n us' L3
section
variable {P : Program} {o : Oper} {a : Act} {W w0 w : World} {G : List Nat} {K : Act → World → Prop} {Q : Exit → Act → World → Prop} {L : Ce}
theorem x_storeN (k : Nat) (hX : Xs W w0 G w L) (t : TypeId) (n : Nat) (x y : Operand) (ho : o.op = .store t x y) (b j : Nat) (hx : a.eval x = .pointer (some ⟨b, j, none⟩)) (vs : List Value) (hy : a.eval y = .agg vs.toArray) (hn : vs.length = n) (h1 : vs.all (·.oneCell') = true)
  (cs : List Value) (hk : L[k]? = some (b, cs)) (hj : j + n ≤ cs.length) (hs : szB P t n = true) (h : ∀ w', Xs W w0 G w' (L.set k (b, Bg cs j vs)) → K (a.put o.dst undef) w') : o.wp P a w K Q := by
 obtain ⟨hb, hr⟩ := hX.st.2.row hk
 have hg := hX.g _ (List.mem_of_getElem? hk)
 subst hn
 refine wp_store_mid t x y ho b j vs.toArray hx hy (fun i hi => ⟨?_, hr.free _⟩) (by simpa using szB_of hs) (by simpa using h1) ?_
 ·rw [hr.cell, List.getElem?_eq_getElem (by simp at hi; omega)]; rfl
 ·refine h _ ⟨⟨by simpa using Cl vs hX.st.1 hb j, by simpa using Has.setCells vs hX.st.2 hk j⟩, ?_, fun q h1 h2 => ?_, fun p hp => ?_⟩
  ·have := hX.sz
   simpa [Cc] using this
  ·have : q ≠ b := fun e => h2 (by rw [e]; exact hg)
   rw [← hX.fr q h1 h2]
   exact Bu _ _ _ _ _ this
  ·rcases List.mem_or_eq_of_mem_set hp with hp | rfl
   ·exact hX.g p hp
   ·exact hg
end
theorem splice_drop3 {cs : List Value} {j : Nat} {x y z : Value} (hj : j + 3 ≤ cs.length) : (Bg cs j [x, y, z]).drop (j + 3) = cs.drop (j + 3) := by
 simp only [Bg]
 rw [List.drop_set_of_lt (by omega), List.drop_set_of_lt (by omega), List.drop_set_of_lt (by omega)]
theorem drop3_get {cs : List Value} {j : Nat} {x y z : Value} {l : List Value} (h : cs.drop j = x :: y :: z :: l) : cs[j]? = some x ∧ cs[j + 1]? = some y ∧ j + 3 ≤ cs.length ∧ cs.drop (j + 3) = l := by
 have hl : (cs.drop j).length = l.length + 3 := by rw [h]; rfl
 rw [List.length_drop] at hl
 have e0 : (cs.drop j)[0]? = some x := by rw [h]; rfl
 have e1 : (cs.drop j)[1]? = some y := by rw [h]; rfl
 rw [List.getElem?_drop] at e0 e1
 refine ⟨by simpa using e0, e1, by omega, ?_⟩
 rw [← List.drop_drop, h]
 rfl
set_option maxHeartbeats 4000000 in
theorem overP {W w0 : World} {G : List Nat} {w : World} {b n c : Nat} {cs : List Value} {L : Ce} (hX : Xs W w0 G w ((b, cs) :: L)) (hn : n ≤ 9223372036854775807) (hE : Elts n cs L) :
  Calls Try.prog 26 #[.slice (some ⟨b, 0, none⟩) n c] w fun e w' => e = .returned (.tuple #[]) ∧ Xs W w0 G w' [] := by
 have hX := Lib.hid hX
 have hE := Lib.hid hE
 go_enter Try.func26, Try.ntmps26
 (repeat' (first | fail | go_values | go_skip | go_guarded | go_step | go_upon | go_back | dsimp only))
 go_loopw [2] (fun i wr => ∃ (k : Nat) (cs : List Value) (L : Ce), i = .int .i64 (k : Int) ∧ k ≤ n ∧ Hid (Xs W w0 G wr ((b, cs) :: L)) ∧ Hid (Elts (n - k) (cs.drop (k * 3)) L)) (fun i _ => n - (intOf i).toNat)
 case atStart => exact ⟨0, cs, L, rfl, by omega, hX, by simpa using hE⟩
 case round =>
  clear hX hE
  obtain ⟨k, cs, L, rfl, hk, hX, hE⟩ := hrel
  by_cases hlt : k < n
  ·have hlt2 : (k : Int) < n := by omega
   obtain ⟨m, hm⟩ : ∃ m, n - k = m + 1 := ⟨n - k - 1, by omega⟩
   have hE' := hE.out
   rw [hm] at hE'
   obtain ⟨u, v, g, us', L1, L2, L3, e1, rfl, h1, h2, h3⟩ := hE'
   obtain ⟨c0, c1, c2, c3⟩ := drop3_get e1
   have HC0 := Lib.hid c0
   have HC1 := Lib.hid c1
   clear hE e1 c0 c1
   (repeat' (first | ((with_reducible refine g_load ?_); (refine s_load1 0 (hX.out).st _ _ rfl _ _ rfl _ rfl _ ((by simpa using HC0.out)) (by kernel_rfl) ?_; (try simp only [Act.put, List.setIfInBounds_toArray, List.set_cons_zero, List.set_cons_succ]))) | go_values | go_skip | go_guarded | go_step | go_upon | go_back | dsimp only))
   (go_at_call 40; refine ((overS (L0 := [(b, cs)]) h1 hX.out)).mono ?_; rintro e w1 ⟨rfl, hX1⟩; replace hX := Lib.hid hX1; clear hX1)
   (repeat' (first | ((with_reducible refine g_load ?_); (refine s_load1 0 (hX.out).st _ _ rfl _ _ rfl _ rfl _ ((by simpa using HC1.out)) (by kernel_rfl) ?_; (try simp only [Act.put, List.setIfInBounds_toArray, List.set_cons_zero, List.set_cons_succ]))) | go_values | go_skip | go_guarded | go_step | go_upon | go_back | dsimp only))
   (go_at_call 40; refine ((overS (L0 := [(b, cs)]) h2 hX.out)).mono ?_; rintro e w2 ⟨rfl, hX1⟩; replace hX := Lib.hid hX1; clear hX1)
   (repeat' (first | ((with_reducible refine g_store ?_); (refine x_storeN 0 hX.out 29 3 _ _ rfl _ _ rfl _ rfl rfl rfl _ rfl (by simpa using c2) (by kernel_rfl) ?_; clear hX; intro w_ hX1; have hX := Lib.hid hX1; clear hX1; (try simp only [Act.put, List.setIfInBounds_toArray, List.set_cons_zero, List.set_cons_succ]))) | go_values | go_skip | go_guarded | go_step | go_upon | go_back | dsimp only))
   refine ⟨⟨k + 1, Bg cs (k * 3) [.slice none 0 0, .slice none 0 0, .bool false], L3, by go_num, by omega, ?_, ?_⟩, by simp [intOf]; omega⟩
   ·have := hX.out
    rw [List.cons_append, List.nil_append, List.set_cons_zero] at this
    exact this
   ·show Elts _ _ _
    rw [show (k + 1) * 3 = k * 3 + 3 by omega, splice_drop3 c2, c3, show n - (k + 1) = m by omega]
    exact h3
  ·have hkn : k = n := by omega
   have hE' := hE.out
   rw [show n - k = 0 by omega] at hE'
   have hL : L = [] := hE'
   subst hL
   have hX' := hX.out
   have HXF : Hid (Xs W w0 G wr []) := ⟨hX'.st.tail, hX'.sz, hX'.fr, fun p hp => by cases hp⟩
   clear hX hE hE' hX'
   (repeat' (first | fail | go_values | go_skip | go_guarded | go_step | go_upon | go_back | dsimp only))
   go_end0
   exact ⟨rfl, HXF.out⟩
theorem overP0 (a : Option Addr) (c : Nat) (w : World) : Calls Try.prog 26 #[.slice a 0 c] w fun e w' => e = .returned (.tuple #[]) ∧ Ext w w' := by
 have hS := St.refl w
 go_enter Try.func26, Try.ntmps26
 (repeat' (first | fail | go_values | go_skip | go_guarded | go_step | go_upon | go_back | dsimp only))
 go_loopw [2] (fun i wr => i = .int .i64 0 ∧ St w wr []) (fun i _ => 0)
 case atStart => exact ⟨rfl, hS⟩
 case round =>
  obtain ⟨rfl, hS⟩ := hrel
  (repeat' (first | fail | go_values | go_skip | go_guarded | go_step | go_upon | go_back | dsimp only))
  go_end0
  exact ⟨rfl, hS.x⟩
def Ed : List DV → Prop
 | [] => True
 | .sl _ _ _ :: .sl _ _ _ :: _ :: ds => Ed ds
 | _ => False
theorem cx_sl1 {V W w : World} {d : DV} {u : Value} {E F : List Nat} {len : Nat} {cap : Option Nat} {ds : List DV} (hd : d = .sl len cap ds) (hc : CX w 1 u E) (hr : DR V w F d u) : ∃ L : Ce, Sl1 u L ∧ L.map (·.1) = E ∧ ∀ p ∈ L, Row w p.1 p.2 := by
 subst hd
 rcases hc with ⟨rfl, hc⟩ | ⟨rfl, a, rfl⟩ | ⟨b, l, c, size, t, cs, E', rfl, h1, h2, h3, h4, h5, rfl, h6⟩
 ·refine ⟨[], .inl ?_, rfl, fun p hp => by cases hp⟩
  rw [DR] at hr
  rcases hr with ⟨_, _, _, a, rfl⟩ | ⟨b, s, c, rfl, _⟩
  ·exact ⟨a, rfl, rfl⟩
  ·have := hc sg0
   simp [renV, slR, adR, sg0] at this
 ·exact ⟨[], .inl ⟨a, rfl, rfl⟩, rfl, fun p hp => by cases hp⟩
 ·obtain rfl := h5 rfl
  have hb : Byts cs ∧ E' = [] := by
   have : ∀ (us : List Value) (E : List Nat), Sep (CX w 0) us E → (∀ x ∈ us, isU8 x) ∧ E = [] := by
    intro us
    induction us with
    | nil => intro E h; exact ⟨fun x hx => (by cases hx), h⟩
    | cons x us ih =>
     intro E h
     obtain ⟨E1, E2, rfl, ⟨rfl, g1⟩, g2⟩ := h
     obtain ⟨g3, rfl⟩ := ih E2 g2
     exact ⟨fun y hy => by
      rcases List.mem_cons.1 hy with rfl | hy
      ·exact g1
      ·exact g3 y hy, rfl⟩
   obtain ⟨g1, g2⟩ := this cs E' h6
   exact ⟨byts_u8 g1, g2⟩
  obtain ⟨hb, rfl⟩ := hb
  have hlen : cs.length = c := by omega
  refine ⟨[(b, cs)], .inr ⟨b, l, cs, by rw [hlen], rfl, by omega, hb, by unfold maxLen at h2; omega⟩, rfl, fun p hp => ?_⟩
  obtain rfl := List.mem_singleton.1 hp
  exact ⟨t, h3⟩
theorem cx_elts {V w : World} {F : List Nat} : ∀ (n : Nat) {ds : List DV} {us : List Value} {E : List Nat}, ds.length = n * 3 → Ed ds → Sep (CX w 1) us E → DRv V w F ds us → ∃ L : Ce, Elts n us L ∧ (∀ q, q ∈ L.map (·.1) → q ∈ E) ∧ (E.Nodup → (L.map (·.1)).Nodup) ∧ ∀ p ∈ L, Row w p.1 p.2
 | 0, ds, us, E, _, _, _, _ => ⟨[], rfl, fun q hq => (by cases hq), fun _ => List.nodup_nil, fun p hp => (by cases hp)⟩
 | n + 1, ds, us, E, hl, hp, hs, hd => by
   match ds, hl, hp, hd with
   | [], hl, _, _ => simp at hl
   | .sl l1 c1 d1 :: .sl l2 c2 d2 :: x :: ds, hl, hp, hd =>
    obtain ⟨u1, us1, rfl, r1, hd⟩ := hd
    obtain ⟨u2, us2, rfl, r2, hd⟩ := hd
    obtain ⟨u3, us3, rfl, r3, hd⟩ := hd
    obtain ⟨E1, E1', rfl, s1, hs⟩ := hs
    obtain ⟨E2, E2', rfl, s2, hs⟩ := hs
    obtain ⟨E3, E3', rfl, s3, hs⟩ := hs
    obtain ⟨L1, a1, rfl, a3⟩ := cx_sl1 (W := w) rfl s1 r1
    obtain ⟨L2, b1, rfl, b3⟩ := cx_sl1 (W := w) rfl s2 r2
    have hl2 : ds.length = n * 3 := by simp only [List.length_cons] at hl; omega
    obtain ⟨L3, d1', d2', d3, d4⟩ := cx_elts n hl2 hp hs hd
    refine ⟨L1 ++ (L2 ++ L3), ⟨u1, u2, u3, us3, L1, L2, L3, rfl, rfl, a1, b1, d1'⟩, fun q hq => ?_, fun hn => ?_, fun p hp => ?_⟩
    ·simp only [List.map_append, List.mem_append] at hq ⊢
     rcases hq with hq | hq | hq
     ·exact .inl hq
     ·exact .inr (.inl hq)
     ·exact .inr (.inr (.inr (d2' q hq)))
    ·simp only [List.map_append]
     rw [List.nodup_append] at hn ⊢
     obtain ⟨n1, n2, n3⟩ := hn
     rw [List.nodup_append] at n2
     obtain ⟨n4, n5, n6⟩ := n2
     rw [List.nodup_append] at n5
     refine ⟨n1, List.nodup_append.2 ⟨n4, d3 n5.2.1, fun q hq q' hq' => n6 q hq q' (List.mem_append_right _ (d2' q' hq'))⟩, fun q hq q' hq' => n3 q hq q' ?_⟩
     rcases List.mem_append.1 hq' with hq' | hq'
     ·exact List.mem_append_left _ hq'
     ·exact List.mem_append_right _ (List.mem_append_right _ (d2' q' hq'))
    ·simp only [List.mem_append] at hp
     rcases hp with hp | hp | hp
     ·exact a3 p hp
     ·exact b3 p hp
     ·exact d4 p hp
def overT2 : TFun := fun f args h nx tp => bif Nat.beq f 40 then some (match args with
 | [.slice none l c] => bif Nat.beq l 0 && Nat.beq c 0 then .ok ((.tuple ⟨[]⟩, h, nx, []), tp, []) else .no
 | [.slice (some ⟨n, 0, none⟩) len c] => (match lk h n with
  | some ⟨.ox, _⟩ => bif Nat.beq c (B0 + n) then .ok ((.tuple ⟨[]⟩, delH h n, nx, [n]), tp, []) else .no
  | _ => .no)
 | _ => .no) else bif Nat.beq f 26 then some (match args with
 | [.slice none l _] => bif Nat.beq l 0 then .ok ((.tuple ⟨[]⟩, h, nx, []), tp, []) else .no
 | [.slice (some ⟨n, 0, none⟩) len c] => (match lk h n with
  | some ⟨.dx d sz _ ds, _⟩ => bif Nat.beq c (B0 + n) && (Nat.beq d 1 && Nat.beq sz 3) then .ok ((.tuple ⟨[]⟩, delH h n, nx, [n]), tp, [ds.length = len * 3, Ed ds]) else .no
  | _ => .no)
 | _ => .no) else none
theorem tri_del {P : Program} {f : FuncId} {args : List Value} {h : Hp} {nx n : Nat} (H : Bd h nx → ∀ W σ w args', Rl W σ h w → Fresh σ nx nx → renL σ args = some args' → Calls P f args'.toArray w fun e w' => ∃ σ' v', Stp W nx nx σ h w σ' (delH h n) w' ∧ renV σ' (.tuple ⟨[]⟩) = some v' ∧ e = .returned v') : Tri P f args h nx (.tuple ⟨[]⟩, delH h n, nx, [n]) := by
 refine ⟨⟨Nat.le_refl _, fun m _ hd => ?_, fun hB m hm => ?_⟩, H⟩
 ·simp only [List.mem_singleton] at hd
  simp only
  rw [Bf, if_neg (Ne.symm hd)]
 ·simp only
  rw [Bf]
  split
  ·rfl
  ·exact hB m hm
theorem over2_one : Cv Try.prog overT2 := by
 intro f args h nx tp out tp' ob e ho
 unfold overT2 at e
 rcases Be e with ⟨hf, e1⟩ | ⟨_, e1⟩
 ·clear e
  obtain rfl := Nat.eq_of_beq_eq_true hf
  have e := Option.some.inj e1
  clear e1
  split at e
  ·obtain ⟨hb, e⟩ := Di e
   simp only [Bool.and_eq_true] at hb
   simp only [Res.ok.injEq, pI] at e
   obtain ⟨rfl, rfl, rfl⟩ := e
   obtain rfl := Nat.eq_of_beq_eq_true hb.1
   obtain rfl := Nat.eq_of_beq_eq_true hb.2
   refine L9 (fun σ args' ha => ?_) (fun σ => rfl) fun w => overZ none w
   simp only [renL, renV, oI] at ha; exact ha.symm
  ·rename_i n len c
   split at e
   case h_2 => cases e
   rename_i cs hl
   obtain ⟨hb, e⟩ := Di e
   simp only [Res.ok.injEq, pI] at e
   obtain ⟨rfl, rfl, rfl⟩ := e
   obtain rfl := Nat.eq_of_beq_eq_true hb
   refine tri_del fun hB W σ w args' hR hf ha => ?_
   obtain ⟨v', vs', hv, hn, rfl⟩ := B9 ha
   simp only [renL, oI] at hn
   subst hn
   obtain ⟨b, s, vs, hpb, hvs, hkd⟩ := hR.row _ _ hl
   rcases B7 hv with ⟨p, c', hp, hc, rfl, hnn⟩ | ⟨hnn, rfl, _, rfl⟩
   ·rw [hpb] at hp
    cases hp
    have hlen := Bx hR.wf hv
    rcases hkd with ⟨h1, _⟩ | ⟨rfl, k1, k2, t, rest, c2, k3, k4, k5, k6, k7⟩
    ·exact absurd h1 hnn
    rw [Bq, k3] at hc
    cases hc
    have hX : Xs W w [b] w ([] ++ (b, vs ++ rest) :: []) := ⟨⟨hR.ext, fun p hp => by
     obtain rfl := List.mem_singleton.1 hp
     exact ⟨k1, t, k4⟩, by simp⟩, Nat.le_refl _, fun _ _ _ => rfl, fun p hp => by
     obtain rfl := List.mem_singleton.1 hp
     exact List.mem_singleton.2 rfl⟩
    have := overX hX (len := len) (by omega) (byts_u8 k7) (by unfold maxLen at k6; omega)
    rw [k5] at this
    refine this.mono ?_
    rintro e w' ⟨rfl, hX'⟩
    exact ⟨σ, _, Stp.exdel hR hl hX'.st.x hX'.sz (fun k h1 h2 => hX'.fr k h1 (by rw [← k2]; exact h2)) nx, rfl, rfl⟩
   ·refine (overZ _ w).mono ?_
    rintro e w' ⟨rfl, hx⟩
    exact ⟨σ, _, Stp.exdel hR hl (hR.ext.trans hx) hx.size (fun k h1 _ => Below.block hx k h1) nx, rfl, rfl⟩
  ·cases e
 ·rcases Be e1 with ⟨hf, e2⟩ | ⟨_, e2⟩
  case inr => cases e2
  clear e e1
  obtain rfl := Nat.eq_of_beq_eq_true hf
  have e := Option.some.inj e2
  clear e2
  split at e
  ·obtain ⟨hb, e⟩ := Di e
   simp only [Res.ok.injEq, pI] at e
   obtain ⟨rfl, rfl, rfl⟩ := e
   obtain rfl := Nat.eq_of_beq_eq_true hb
   refine L9 (fun σ args' ha => ?_) (fun σ => rfl) fun w => overP0 none _ w
   simp only [renL, renV, oI] at ha; exact ha.symm
  ·rename_i n len c
   split at e
   case h_2 => cases e
   rename_i d sz z ds cs hl
   obtain ⟨hb, e⟩ := Di e
   simp only [Bool.and_eq_true] at hb
   simp only [Res.ok.injEq, pI] at e
   obtain ⟨rfl, rfl, rfl⟩ := e
   obtain ⟨o1, o2, _⟩ := ho
   obtain rfl := Nat.eq_of_beq_eq_true hb.1
   obtain rfl := Nat.eq_of_beq_eq_true hb.2.1
   obtain rfl := Nat.eq_of_beq_eq_true hb.2.2
   refine tri_del fun hB W σ w args' hR hf ha => ?_
   obtain ⟨v', vs', hv, hn, rfl⟩ := B9 ha
   simp only [renL, oI] at hn
   subst hn
   obtain ⟨b, s, vs, hpb, hvs, rfl, k1, k2, k2n, us, t, rest, c2, E, k3, k4, k5, k6, k7, k8, k9, k10⟩ := hR.row _ _ hl
   rcases B7 hv with ⟨p, c', hp, hc, rfl, hnn⟩ | ⟨hnn, rfl, _, rfl⟩
   case inr => exfalso; unfold ex at k8; rw [hnn] at k8; cases k8
   rw [hpb] at hp
   cases hp
   have hlen := Bx hR.wf hv
   rw [Bq, k3] at hc
   cases hc
   obtain ⟨L, l1, l2, l3, l4⟩ := cx_elts len o1 o2 k9 (k10 W)
   rw [k8] at k2n
   have hnd := List.nodup_cons.1 k2n
   have hE2 : Elts len (us ++ rest) L := by
    have : ∀ (n : Nat) (us : List Value) (L : Ce), Elts n us L → Elts n (us ++ rest) L := by
     intro n
     induction n with
     | zero => intro us L h; exact h
     | succ n ih =>
      intro us L h
      obtain ⟨u, v, g, us', L1, L2, L3, rfl, rfl, a1, a2, a3⟩ := h
      exact ⟨u, v, g, us' ++ rest, L1, L2, L3, rfl, rfl, a1, a2, ih _ _ a3⟩
    exact this _ _ _ l1
   have hX : Xs W w (ex σ n) w ((b, us ++ rest) :: L) := by
    refine ⟨⟨hR.ext, fun p hp => ?_, ?_⟩, Nat.le_refl _, fun _ _ _ => rfl, fun p hp => ?_⟩
    ·rcases List.mem_cons.1 hp with rfl | hp
     ·exact ⟨k2 b (by rw [k8]; exact List.mem_cons_self ..), t, k4⟩
     ·exact ⟨k2 p.1 (by rw [k8]; exact List.mem_cons_of_mem _ (l2 _ (List.mem_map.2 ⟨p, hp, rfl⟩))), l4 p hp⟩
    ·rw [List.map_cons]
     exact List.nodup_cons.2 ⟨fun hm => hnd.1 (l2 _ hm), l3 hnd.2⟩
    ·rw [k8]
     rcases List.mem_cons.1 hp with rfl | hp
     ·exact List.mem_cons_self ..
     ·exact List.mem_cons_of_mem _ (l2 _ (List.mem_map.2 ⟨p, hp, rfl⟩))
   refine (overP hX (by unfold maxLen at k6; omega) hE2).mono ?_
   rintro e w' ⟨rfl, hX'⟩
   exact ⟨σ, _, Stp.exdel hR hl hX'.st.x hX'.sz (fun k h1 h2 => hX'.fr k h1 h2) nx, rfl, rfl⟩
  ·cases e
theorem Stp.exdelS {W : World} {σ : Sg} {h : Hp} {w w' : World} (hR : Rl W σ h w) {D : List Nat} (hx : Ext W w') (hz : w.heap.size ≤ w'.heap.size) (hk : ∀ k, k < w.heap.size → (∀ m r, m ∈ D → lk h m = some r → k ∉ ex σ m ∧ (r.own → ∀ p, σ.b m = some p → p.1 ≠ k)) → w'.heap[k]? = w.heap[k]?) (lo : Nat) : Stp W lo lo σ h w σ (Dg h D) w' := by
 have hd : ∀ m s, lk (Dg h D) m = some s → lk h m = some s ∧ m ∉ D := fun m s e => by
  rw [Ck] at e
  split at e
  ·cases e
  ·rename_i hne; exact ⟨e, hne⟩
 refine Stp0.up ⟨Sg.le.refl σ, fun _ _ => ⟨rfl, rfl⟩, ⟨hx, fun m s e => ?_, fun m k s t p q a b => hR.inj m k s t p q (hd _ _ a).1 (hd _ _ b).1⟩, hz, fun b hb hno hnx => hk b hb fun m r hm hl => ⟨hnx m r hl, fun ho p hp => hno m r p hl ho hp⟩, fun m s q e hs hq => .inr ⟨m, s, q, (hd _ _ e).1, hs, hq, rfl⟩⟩ hR.shr hR.wf (hR.shr.sub fun m s e => ⟨s, (hd _ _ e).1, fun h => h⟩)
 obtain ⟨e, hne⟩ := hd m s e
 refine (hR.row m s e).keep (Sg.le.refl σ) (fun ho p hp => hk _ (hR.lt e ho hp) fun m' r' hm' hl' => ⟨fun h2 => (hR.shr.2.2 m' r' _ hl' h2).2.1 m s p e ho hp rfl, fun ho' q hq eq => ?_⟩) (fun k hk2 => hk _ (hR.shr.2.1 m s k e hk2).1 fun m' r' hm' hl' => ⟨fun h2 => ((hR.shr.2.2 m' r' _ hl' h2).2.2 m s e).1 hk2, fun ho' q hq eq => (hR.shr.2.1 m s k e hk2).2 m' r' q hl' ho' hq eq⟩) fun k hk2 => hk _ (hR.shr.2.2 m s k e hk2).1 fun m' r' hm' hl' => ⟨fun h2 => ?_, fun ho' q hq eq => (hR.shr.2.2 m s k e hk2).2.1 m' r' q hl' ho' hq eq⟩
 ·have := hR.inj m' m r' s q p hl' e ho' ho hq hp eq
  subst this
  exact hne hm'
 ·have := ((hR.shr.2.2 m' r' _ hl' h2).2.2 m s e).2 hk2
  subst this
  exact hne hm'
theorem tri_dels {P : Program} {f : FuncId} {args : List Value} {h : Hp} {nx : Nat} {D : List Nat} (H : Bd h nx → ∀ W σ w args', Rl W σ h w → Fresh σ nx nx → renL σ args = some args' → Calls P f args'.toArray w fun e w' => ∃ σ' v', Stp W nx nx σ h w σ' (Dg h D) w' ∧ renV σ' (.tuple ⟨[]⟩) = some v' ∧ e = .returned v') : Tri P f args h nx (.tuple ⟨[]⟩, Dg h D, nx, D) := by
 refine ⟨⟨Nat.le_refl _, fun m _ hd => ?_, fun hB m hm => ?_⟩, H⟩
 ·simp only
  rw [Ck, if_neg hd]
 ·simp only
  rw [Ck]
  split
  ·rfl
  ·exact hB m hm
def overT3 : TFun := fun f args h nx tp => bif Nat.beq f 26 then (match args with
 | [.slice (some ⟨n, 0, none⟩) 1 1] => (match lk h n with
  | some ⟨.shut, cs⟩ => (match elX h 1 cs with
   | some (ds, D, ob) => bif ndX D && !memN n D then some (.ok ((.tuple ⟨[]⟩, Dg h (n :: D), nx, n :: D), tp, (ds.length = 3 ∧ Ed ds) :: ob)) else none
   | none => none)
  | _ => none)
 | _ => none) else none
theorem over3_one : Cv Try.prog overT3 := by
 intro f args h nx tp out tp' ob e ho
 unfold overT3 at e
 rcases Be e with ⟨hf, e1⟩ | ⟨_, e1⟩
 case inr => cases e1
 clear e
 obtain rfl := Nat.eq_of_beq_eq_true hf
 split at e1
 case h_2 => cases e1
 rename_i n
 split at e1
 case h_2 => cases e1
 rename_i cs hl
 split at e1
 case h_2 => cases e1
 rename_i ds D ob1 hel
 obtain ⟨hg, e⟩ := Ba e1
 clear e1
 simp only [Bool.and_eq_true, Bool.not_eq_true'] at hg
 simp only [oI, Res.ok.injEq, pI] at e
 obtain ⟨rfl, rfl, rfl⟩ := e
 obtain ⟨⟨o1, o2⟩, o3⟩ := ho
 refine tri_dels fun hB W σ w args' hR hf ha => ?_
 obtain ⟨v', vs', hv, hn, rfl⟩ := B9 ha
 simp only [renL, oI] at hn
 subst hn
 obtain ⟨b, s, vs, hpb, hvs, rfl, k1, t, k2⟩ := hR.row _ _ hl
 obtain ⟨E, H⟩ := Jc hR (by omega) hel o3 hvs
 rcases B7 hv with ⟨p, c', hp, hc, rfl, hnn⟩ | ⟨_, h1, _⟩
 case inr => cases h1
 rw [hpb] at hp
 cases hp
 have hown : (⟨.shut, cs⟩ : Rw).own := fun e => by cases e
 have hbE : b ∉ E := fun hb => by
  obtain ⟨m, s, a1, a2, a3⟩ := H.src b hb
  exact (hR.shr.2.2 m s b a1 a3).2.1 n _ _ hl hown hpb rfl
 obtain ⟨L, l1, l2, l3, l4⟩ := cx_elts (V := W) 1 (by omega) o2 H.sep (H.dr W)
 have hX : Xs W w (b :: E) w ((b, vs) :: L) := by
  refine ⟨⟨hR.ext, fun p hp => ?_, ?_⟩, Nat.le_refl _, fun _ _ _ => rfl, fun p hp => ?_⟩
  ·rcases List.mem_cons.1 hp with rfl | hp
   ·exact ⟨k1, t, k2⟩
   ·exact ⟨H.wd p.1 (l2 _ (List.mem_map.2 ⟨p, hp, rfl⟩)), l4 p hp⟩
  ·rw [List.map_cons]
   exact List.nodup_cons.2 ⟨fun hm => hbE (l2 _ hm), l3 (H.nd hg.1)⟩
  ·rcases List.mem_cons.1 hp with rfl | hp
   ·exact List.mem_cons_self ..
   ·exact List.mem_cons_of_mem _ (l2 _ (List.mem_map.2 ⟨p, hp, rfl⟩))
 refine (overP (n := 1) (c := c') hX (by omega) l1).mono ?_
 rintro e w' ⟨rfl, hX'⟩
 refine ⟨σ, _, Stp.exdelS hR hX'.st.x hX'.sz (fun k h1 h2 => hX'.fr k h1 fun hk => ?_) nx, rfl, rfl⟩
 rcases List.mem_cons.1 hk with rfl | hk
 ·exact (h2 n _ (List.mem_cons_self ..) hl).2 hown _ hpb rfl
 ·obtain ⟨m, s, a1, a2, a3⟩ := H.src k hk
  exact (h2 m s (List.mem_cons_of_mem _ a2) a1).1 a3
end Go.Proofs.Ytojakfnljopjbaa
