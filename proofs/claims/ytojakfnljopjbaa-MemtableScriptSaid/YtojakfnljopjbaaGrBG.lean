/-
  Chapter 12: the statement MemtableScript: the whole law.
-/
import Derived.Test.YtojakfnljopjbaaGrBF
import Derived.Test.YtojakfnljopjbaaGrAY
import Derived.WalkKit
import Derived.ProofKit
import Derived.OpenShut
import Derived.Lib.SmallJoins
import Derived.JoinedCond
import Derived.Carry
namespace Go.Proofs.Ytojakfnljopjbaa
set_option linter.unusedSimpArgs false
set_option linter.unusedVariables false
set_option linter.unusedSectionVars false
open Go Go.RowKit
def scPk (live : List (Nat × Value)) (h : Hp) : Option (Nat × Nat × List DV) := match live, lk h 0 with
 | (_, .slice _ n c) :: _, some ⟨.sd ax, _⟩ => some (n, c, ax)
 | _, _ => none
def scH0 (ax : List DV) : Hp := [(3, ⟨.shut, [.pointer (some ⟨1, 0, none⟩), .pointer (some ⟨2, 0, none⟩)]⟩), (2, ⟨.shut, [.slice none 0 0]⟩), (1, ⟨.shut, [.bool true, .slice none 0 0]⟩), (0, ⟨.sd ax, []⟩)]
def scS0 (n c : Nat) : List (Nat × Value) := [(0, .slice (some ⟨0, 0, none⟩) n c), (3, .pointer (some ⟨3, 0, none⟩)), (4, iV 0)]
def scSp : I9 := Jw scPk (fun a => (scS0 a.1 a.2.1, scH0 a.2.2, 4)) (fun a tp => match tp with
 | b :: tp' => some ((scXt b, scLv b, scO a.2.2, 300, [1, 2, 3]), tp', [AcAll a.2.2 a.1 a.2.1 ∧ anyB a.2.2 0 a.1 = b])
 | _ => none)
theorem scSp_ok : LSOk Try.prog 98 [0, 3, 4] (B6 Try.prog 6 5) scSp := by
 refine Eo fun a tp xt l2 h2 nx2 d tp' ob hs ho inr ts hn hg => ?_
 obtain ⟨n, c, ax⟩ := a
 simp only at hs hg
 split at hs
 case h_2 => cases hs
 rename_i b tp2
 simp only [oI, pI] at hs
 obtain ⟨⟨rfl, rfl, rfl, rfl, rfl⟩, rfl, rfl⟩ := hs
 obtain ⟨⟨hA, hb⟩, _⟩ := ho
 (try simp only at hA hb)
 have hcc : c < B0 := by have := hA.c; unfold B0; omega
 have key := (sc_loop (inr := inr) (h0 := scH0 ax) hA n 0 (by omega)).N
 rw [hb] at key
 refine LRuns.enter (N := 100) (l2 := scS n c 0) (h2 := scN ax) hn hg (by omega) (by omega) (mp5 3 1 2 83 84) ?_ ?_ rfl key ?_
 ·exact ⟨rfl, Bt rfl hcc, rfl, Bp rfl, rfl, rfl, trivial⟩
 ·exact ⟨Eg (m := 3) rfl rfl (Bp rfl) (Bp rfl), Ee (m := 1) rfl rfl rfl, Ef (m := 2) rfl rfl rfl, Cx (m := 0) rfl rfl, trivial⟩
 ·refine H0 (by omega) (fun m hm hd => ?_) (by cases b <;> rfl)
  simp only [List.mem_cons, List.not_mem_nil, or_false, not_or] at hd
  obtain rfl : m = 0 := by omega
  rfl
def scLo (P : Program) : LFun := mkL 6 5 98 [0, 3, 4] (B6 P 6 5) scSp
noncomputable def scT2 : TFun := mkT 16 [] gTrueY
theorem sc_big (n c : Nat) (ax : List DV) : prjV (runZ (scV (scLo Try.prog) scT2) Try.prog 14 6 [.slice (some ⟨0, 0, none⟩) n c] [(0, ⟨.sd ax, []⟩)] 1 [false, true]) =
 Res.ok (Value.bool true, [], [false = false, decide ((↑n : Int) > (100 : Int)) = true]) := by kernel_rfl
theorem sc_ret (n c : Nat) (ax : List DV) : prjV (runZ (scV (scLo Try.prog) scT2) Try.prog 14 6 [.slice (some ⟨0, 0, none⟩) n c] [(0, ⟨.sd ax, []⟩)] 1 [false, false, true]) =
 Res.ok (Value.bool true, [], [false = false, decide ((↑n : Int) > (100 : Int)) = false, B6 Try.prog (6 : FuncId) 5 = B6 Try.prog (6 : FuncId) 5, [(0, Value.slice (some (Addr.mk 0 0 none)) n c), (3, Value.pointer (some (Addr.mk 3 0 none))), (4, Value.int IntKind.i64 (0 : Int))] = scS0 n c, [(3, Rw.mk Kd.shut [Value.pointer (some (Addr.mk 1 0 none)), Value.pointer (some (Addr.mk 2 0 none))]), (2, Rw.mk Kd.shut [Value.slice none 0 0]), (1, Rw.mk Kd.shut [Value.bool true, Value.slice none 0 0]), (0, Rw.mk (Kd.sd ax) [])] = scH0 ax, 4 = 4, AcAll ax n c ∧ anyB ax 0 n = true]) := by kernel_rfl
theorem sc_end (n c : Nat) (ax : List DV) : prjV (runZ (scV (scLo Try.prog) scT2) Try.prog 14 6 [.slice (some ⟨0, 0, none⟩) n c] [(0, ⟨.sd ax, []⟩)] 1 [false, false, false]) =
 Res.ok (Value.bool true, [], [false = false, decide ((↑n : Int) > (100 : Int)) = false, B6 Try.prog (6 : FuncId) 5 = B6 Try.prog (6 : FuncId) 5, [(0, Value.slice (some (Addr.mk 0 0 none)) n c), (3, Value.pointer (some (Addr.mk 3 0 none))), (4, Value.int IntKind.i64 (0 : Int))] = scS0 n c, [(3, Rw.mk Kd.shut [Value.pointer (some (Addr.mk 1 0 none)), Value.pointer (some (Addr.mk 2 0 none))]), (2, Rw.mk Kd.shut [Value.slice none 0 0]), (1, Rw.mk Kd.shut [Value.bool true, Value.slice none 0 0]), (0, Rw.mk (Kd.sd ax) [])] = scH0 ax, 4 = 4, AcAll ax n c ∧ anyB ax 0 n = false]) := by kernel_rfl
theorem scLo_one : LOne Try.prog (scLo Try.prog) := Hm scSp_ok
theorem sc_run {args : List Value} {hp : Hp} {nx : Nat} {tp tp' : Tape} {v : Value} {ob : List Prop} (e : prjV (runZ (scV (scLo Try.prog) scT2) Try.prog 14 6 args hp nx tp) = .ok (v, tp', ob)) (ho : Alls ob) : ∃ h' nx' d, Tri Try.prog 6 args hp nx (v, h', nx', d) :=
 Ia scX (Ly rfl (Kh aw_gok)) (Lz rfl scLo_one) e ho rfl
theorem slc_of {d : DV} (h : ShOk (.sl [.i .u8]) d) : ∃ (c : Nat) (l : List Int), d = .sl l.length (some c) (byD l) ∧ (l.length ≤ c ∧ c ≤ 9223372036854775807) ∧ ∀ x ∈ l, 0 ≤ x ∧ x < 256 := by
 simp only [ShOk] at h
 obtain ⟨len, cap, rows, rfl, g1, g2, hl, hr⟩ := h
 obtain ⟨l, h1, h2, h3⟩ := bys_of hr
 exact ⟨cap, l, by rw [h1, h2, hl], by omega, h3⟩
def acSh : List Sh := [.i .i64, .i .i64, .sl [.i .u8], .sl [.i .u8]]
theorem acts_of {rows : List (List DV)} (hr : ∀ r, r ∈ rows → ShsOk acSh r) {i : Nat} (hi : i < rows.length) : ActAt rows.flatten i := by
 have hrow := hr _ (List.getElem_mem hi)
 have hlen : ∀ r, r ∈ rows → r.length = 4 := fun r h => (hr r h).len
 have hg := List.getElem?_eq_getElem hi
 generalize rows[i] = r at hrow hg
 simp only [acSh, ShsOk] at hrow
 obtain ⟨d0, _, rfl, g0, d1, _, rfl, g1, d2, _, rfl, g2, d3, _, rfl, g3, rfl⟩ := hrow
 obtain ⟨cb, k, rfl, hk, bk⟩ := slc_of g2
 obtain ⟨cv, v, rfl, hv, bv⟩ := slc_of g3
 have e2 : rows.flatten[i * 4 + 2]? = _ := Hj hlen _ hg (q := 2) rfl
 have e3 : rows.flatten[i * 4 + 3]? = _ := Hj hlen _ hg (q := 3) rfl
 refine ⟨fun nx => ?_, fun nx => ?_, fun nx => ?_, ?_, ?_, ?_, ?_⟩
 ·rw [ob27]; exact ⟨sl_ok e2, trivial⟩
 ·rw [ob27]; exact ⟨sl_ok e3, trivial⟩
 ·exact shOb_of (sub := acSh) (by kernel_rfl) hr hi
 ·rw [Jz e2, Kc e2]; exact Ep bk
 ·rw [Jz e3, Kc e3]; exact Ep bv
 ·rw [Jz e2]
  unfold dCap
  rw [e2]
  exact hk
 ·rw [Jz e3]
  unfold dCap
  rw [e3]
  exact hv
theorem script_any {W : World} {v0 : Value} {rows : List (List DV)} {c : Nat} (hA : DA.at W v0 (.dl rows.flatten rows.length c)) (hc : c ≤ 9223372036854775807) (hr : ∀ r, r ∈ rows → ShsOk acSh r) :
  Calls Try.prog 6 #[v0] W fun e w' => e = .returned (.bool true) ∧ Ext W w' := by
 refine calls_dp [.dl rows.flatten rows.length c] ?_ (fun σ => rfl) (us := [v0]) ⟨hA, trivial⟩
 show ∃ h' nx' d, Tri Try.prog 6 [.slice (some ⟨0, 0, none⟩) rows.length c] [(0, ⟨.sd rows.flatten, []⟩)] 1 (.bool true, h', nx', d)
 by_cases hb : (rows.length : Int) > 100
 ·exact sc_run (sc_big rows.length c rows.flatten) ⟨rfl, decide_eq_true hb, trivial⟩
 have hb0 := decide_eq_false hb
 have hAll : AcAll rows.flatten rows.length c := ⟨fun i hi => acts_of hr hi, by omega, hc⟩
 cases h : anyB rows.flatten 0 rows.length with
 | true => exact sc_run (sc_ret rows.length c rows.flatten) ⟨rfl, hb0, rfl, rfl, rfl, rfl, ⟨hAll, h⟩, trivial⟩
 | false => exact sc_run (sc_end rows.length c rows.flatten) ⟨rfl, hb0, rfl, rfl, rfl, rfl, ⟨hAll, h⟩, trivial⟩
open Go.ChangeShapes Go.WideShapes Go.ChangeAt Go.RowKit

section
variable {H : Type} {enc : TypeId × Value → H} {P : Program}

theorem Ju (hl : laidOutB P = true) {W W' : World} (hb : Below W.heap.size W W') {sp : Nat → Bool} :
  ∀ (ts : List TypeId) (vs : List Value) (ds : List (DataW H)) (ps : List MemPlace),
  (∀ t ∈ ts, P.readableRec t = true ∧ t < P.types.size) →
  DataW.TrodAll enc P W 0 (fun _ => true) true ts vs ds ps → (∀ x ∈ ps, x.block < W.heap.size) → (∀ p ∈ ps, sp p.block = true) →
  DataW.TrodAll enc P W' 0 sp true ts vs ds ps
 | [], [], [], _, _, h, _, _ => h
 | [], _ :: _, _, _, _, h, _, _ => by simp [DataW.TrodAll] at h
 | [], [], _ :: _, _, _, h, _, _ => by simp [DataW.TrodAll] at h
 | _ :: _, [], _, _, _, h, _, _ => by simp [DataW.TrodAll] at h
 | _ :: _, _ :: _, [], _, _, h, _, _ => by simp [DataW.TrodAll] at h
 | t :: ts, v :: vs, d :: ds, ps, hr, h, hlt, hs => by
   obtain ⟨p, q, h1, h2, e⟩ := h
   subst e
   exact ⟨p, q, WideElems.Trod_stays hl (hr t (by simp)).1 (hr t (by simp)).2 h1 (fun x hx => hb.same (hlt x (by simp [hx]))) (fun x hx => hs x (by simp [hx])),
    Ju hl hb ts vs ds q (fun t' ht' => hr t' (by simp [ht'])) h2 (fun x hx => hlt x (by simp [hx])) (fun x hx => hs x (by simp [hx])), rfl⟩

theorem Lr {W : World} {b : Nat} {sp : Nat → Bool} {hd : Bool} : ∀ {ts : List TypeId} {vs : List Value} {ds : List (DataW H)} {ps : List MemPlace}, DataW.TrodAll enc P W b sp hd ts vs ds ps → ds.length = ts.length
 | [], [], [], _, _ => rfl
 | [], _ :: _, _, _, h => by simp [DataW.TrodAll] at h
 | [], [], _ :: _, _, h => by simp [DataW.TrodAll] at h
 | _ :: _, [], _, _, h => by simp [DataW.TrodAll] at h
 | _ :: _, _ :: _, [], _, h => by simp [DataW.TrodAll] at h
 | t :: ts, v :: vs, d :: ds, ps, h => by
   obtain ⟨p, q, h1, h2, e⟩ := h
   simp [Lr h2]

def paramsFine (P : Program) (f : Func) : Bool := laidOutB P && f.params.toList.all (fun t => P.readableRec t && decide (t < P.types.size))

theorem law_post {f : Func} {s : ChangeSpec} {tb : TypeId} {apart fresh handsOn again : Bool} {W W' : World} {args : Array Value} {ds gs : List (DataW H)} {before : List MemPlace}
  (hfine : paramsFine P f = true) (hres : f.resultTypes = #[tb]) (htb : P.underlying tb = some .bool) (hvars : s.vars = [])
  (hspec : s.fn H (ds ++ []) = { results := [.lit (.bool true)], args := ds })
  (hW : DataW.Whole enc P f.params.toList s.vars apart W args.toList ds gs before)
  (hb : Below W.heap.size W W') : s.post enc P f apart fresh handsOn again W args (.bool true) W' := by
 have hW' := hW
 have hlt : ∀ p ∈ before, p.block < W.heap.size := fun p hp => hW.lt p hp
 obtain ⟨p, q, hA, hV, hpq, hz, hn⟩ := hW
 rw [hvars] at hV
 obtain ⟨rfl, rfl⟩ := trodVars_none hV
 obtain rfl : before = p := by simpa using hpq
 simp only [paramsFine, Bool.and_eq_true, List.all_eq_true, decide_eq_true_eq] at hfine
 have hargs : ∀ sp : Nat → Bool, (∀ x ∈ before, sp x.block = true) → DataW.TrodAll enc P W' 0 sp true f.params.toList args.toList ds before :=
  fun sp hsp => Ju hfine.1 hb _ _ _ _ hfine.2 hA hlt hsp
 have hresT : ∀ (b : Nat) (sp : Nat → Bool) (hd : Bool), DataW.TrodAll enc P W' b sp hd f.resultTypes.toList ((Value.bool true).resultList f.resultTypes.size) [.lit (.bool true)] [] := by
  intro b sp hd
  rw [hres]
  exact trodAll_cons_mk (shut_bool htb _) trodAll_mk0
 have hold : ∀ x ∈ before, (fun b => decide (b < W.heap.size)) x.block = true := fun x hx => by simpa using hlt x hx
 have hvT : ∀ sp : Nat → Bool, DataW.TrodVars enc P W' sp s.vars (s.fn H (ds ++ [])).vars [] := fun sp => by rw [hvars, hspec]; rfl
 refine ⟨ds, [], before, [], before, [], hW', ?_, ?_, hvT _, World.keptBut_mono (fun x hx => ⟨hx, .inr (.inl hx)⟩) (hb.frame (· ∈ before)), fun _ => ?_⟩
 ·rw [hspec]; exact hresT _ _ _
 ·rw [hspec]; exact hargs _ hold
 ·refine ⟨ok_one hres rfl (okWide_bool_mk htb _), [.lit (.bool true)] ++ ds, [], ([] ++ before) ++ [], ⟨[] ++ before, [], trodAll_append (hargs _ (fun _ _ => rfl)) (hresT _ _ _), (by rw [hvars]; rfl), rfl, ?_, ?_⟩, ?_⟩
  ·intro b off hp
   have hin : MemPlace.cell b off ∈ before := by simpa using hp
   rw [hb.frozen (hlt _ hin)]
   exact hz b off hin
  ·intro ha
   simpa using hn ha
  ·intro x hx _
   simpa using hx
end
end Go.Proofs.Ytojakfnljopjbaa
