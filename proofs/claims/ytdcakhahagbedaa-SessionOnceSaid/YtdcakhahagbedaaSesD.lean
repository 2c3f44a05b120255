/-
  Chapter 22: the statement SessionOnce: its loop, as it is entered; the whole law, run.
-/
import Derived.Test.YtdcakhahagbedaaSesC
namespace Go.Proofs.Ytdcakhahagbedaa
set_option linter.unusedSimpArgs false
set_option linter.unusedVariables false
set_option linter.unusedSectionVars false
open Go Go.RowKit

def soD : List Nat := [3, 4, 5, 6, 7, 8, 9, 10, 11, 12, 13, 14, 15, 16, 17, 18, 19, 20]
def soPick (live : List (Nat × Value)) (h : Hp) : Option (Nat × Nat × Hp) := match live with | [(_, .slice _ n c), _, _, _, _, _, _] => some (n, c, h) | _ => none
def soSpecN (a b : Int) (rs : List Value) : LSpec := lspec soPick (fun x => (soS (.slice none 0 0) x.1 x.2.1 0 0, x.2.2, 19)) (fun x tp => some ((.exit 0, [(7, .bool true)], (1, ⟨.old, rs⟩) :: [], 80, soD), tp, [lk x.2.2 0 = none, lk x.2.2 1 = some ⟨.old, rs⟩, lk x.2.2 2 = none, lk x.2.2 3 = some ⟨.shut, [.int .u64 a, .int .u64 b]⟩, lk x.2.2 4 = some ⟨.shut, tabC a b 0 1 (.slice none 0 0)⟩, SoF rs x.1 x.2.1]))
def soSpecE (a b : Int) (rs xs : List Value) (m d : Nat) : LSpec := lspec soPick (fun x => (soS (.slice (some ⟨2, 0, none⟩) m d) x.1 x.2.1 0 0, x.2.2, 20)) (fun x tp => some ((.exit 0, [(7, .bool true)], (1, ⟨.old, rs⟩) :: [(2, ⟨.old, xs⟩)], 80, soD), tp, [lk x.2.2 0 = none, lk x.2.2 1 = some ⟨.old, rs⟩, lk x.2.2 2 = some ⟨.old, xs⟩, lk x.2.2 3 = some ⟨.shut, [.int .u64 a, .int .u64 b]⟩, lk x.2.2 4 = some ⟨.shut, tabC a b 0 1 (.slice (some ⟨7, 0, none⟩) 0 0)⟩, lk x.2.2 7 = some ⟨.shut, []⟩, SoF rs x.1 x.2.1, SoX xs m d, m = 0]))
def soSpecO (a b : Int) (rs xs : List Value) (m d l : Nat) (ys : List Value) : LSpec := lspec soPick (fun x => (soS (.slice (some ⟨2, 0, none⟩) m d) x.1 x.2.1 0 0, x.2.2, 21)) (fun x tp => some ((.exit 0, [(7, .bool true)], (1, ⟨.old, rs⟩) :: [(2, ⟨.old, xs⟩)], 80, soD), tp, [lk x.2.2 0 = none, lk x.2.2 1 = some ⟨.old, rs⟩, lk x.2.2 2 = some ⟨.old, xs⟩, lk x.2.2 3 = some ⟨.shut, [.int .u64 a, .int .u64 b]⟩, lk x.2.2 4 = some ⟨.shut, tabC a b 0 1 (.slice (some ⟨8, 0, none⟩) l (capBig + 8))⟩, lk x.2.2 8 = some (rbr ys), SoF rs x.1 x.2.1, SoX xs m d, Fl ys]))
theorem soD_of {n : Nat} (h : n < 21) (hd : n ∉ soD) : n = 0 ∨ n = 1 ∨ n = 2 := by
  simp only [soD, List.mem_cons, List.not_mem_nil, or_false, not_or] at hd
  omega
theorem soN_ok (a b : Int) (rs : List Value) : LSOk Try.prog 162 [1, 2, 3, 7, 8, 12, 13] (soB Try.prog) (soSpecN a b rs) := by
  refine lspec_ok fun x tp xt l2 h2 nx2 d tp' ob hs ho inr ts hn hg => ?_
  obtain ⟨n, c, h⟩ := x
  simp only at hs hg
  simp only [Option.some.injEq, Prod.mk.injEq] at hs
  obtain ⟨⟨rfl, rfl, rfl, rfl, rfl⟩, rfl, rfl⟩ := hs
  obtain ⟨e0, e1, e2, e3, e4, F, _⟩ := ho
  (try simp only at e0 e1 e2 e3 e4 F)
  have hc := F.c
  have fR := fl_ints F.i
  have key := sn0_l19 (inr := inr) (h0 := h) (a := a) (b := b) F n 0 0 1 (by omega) (by omega) (by omega)
  refine LRuns.enter (N := 21) (l2 := soS (.slice none 0 0) n c 0 0) (h2 := soH a b 0 1 (.slice none 0 0) rs [] []) hn hg (Nat.le_of_ble_eq_true rfl) (Nat.le_of_ble_eq_true rfl) (fun n => n) ?_ ?_ rfl key ?_
  · exact ⟨rfl, rb_slc (l := n) (c := c) rfl (by unfold capBig; omega), rfl, rfl, rfl, rb_ptr rfl, rfl, rfl, rfl, rb_ptr rfl, rfl, rfl, rfl, rfl, trivial⟩
  · exact ⟨rb_old (Nat.le_of_ble_eq_true rfl) e1 fR, rb_row (m := 3) rfl e3 rfl rfl (Fl.of rfl), ⟨4, _, rfl, e4, rfl, rfl, .inl (tab_rb rfl)⟩, trivial⟩
  · refine tidy_of (Nat.le_of_ble_eq_true rfl) (fun m hm hd => ?_) rfl
    have hm2 : m < 19 := hm
    rcases soD_of (by omega) hd with rfl | rfl | rfl
    · exact e0.symm
    · exact e1.symm
    · exact e2.symm
theorem soE_ok (a b : Int) (rs xs : List Value) (m d : Nat) : LSOk Try.prog 162 [1, 2, 3, 7, 8, 12, 13] (soB Try.prog) (soSpecE a b rs xs m d) := by
  refine lspec_ok fun x tp xt l2 h2 nx2 dd tp' ob hs ho inr ts hn hg => ?_
  obtain ⟨n, c, h⟩ := x
  simp only at hs hg
  simp only [Option.some.injEq, Prod.mk.injEq] at hs
  obtain ⟨⟨rfl, rfl, rfl, rfl, rfl⟩, rfl, rfl⟩ := hs
  obtain ⟨e0, e1, e2, e3, e4, e7, F, X, hm0, _⟩ := ho
  (try simp only at e0 e1 e2 e3 e4 e7 F X hm0)
  have hc := F.c
  have fR := fl_ints F.i
  have fX := fl_byts X.y
  have cX := X.c
  have key := se0_l20 (inr := inr) (h0 := h) (a := a) (b := b) F X (by omega) n 0 0 1 (by omega) (by omega) (by omega)
  refine LRuns.enter (N := 21) (l2 := soS (.slice (some ⟨2, 0, none⟩) m d) n c 0 0) (h2 := soH a b 0 1 (.slice (some ⟨7, 0, none⟩) 0 0) rs [(2, ⟨.old, xs⟩)] [(7, ⟨.shut, []⟩)]) hn hg (Nat.le_of_ble_eq_true rfl) (Nat.le_of_ble_eq_true rfl) (fun n => n) ?_ ?_ rfl key ?_
  · exact ⟨rfl, rb_slc (l := n) (c := c) rfl (by unfold capBig; omega), rfl, rb_slc (l := m) (c := d) rfl (by unfold capBig; omega), rfl, rb_ptr rfl, rfl, rfl, rfl, rb_ptr rfl, rfl, rfl, rfl, rfl, trivial⟩
  · exact ⟨rb_old (Nat.le_of_ble_eq_true rfl) e1 fR, rb_old (Nat.le_of_ble_eq_true rfl) e2 fX, rb_row (m := 3) rfl e3 rfl rfl (Fl.of rfl), ⟨4, _, rfl, e4, rfl, rfl, .inl (tab_rb (rb_slc (l := 0) (c := 0) rfl (by unfold capBig; omega)))⟩, rb_row (m := 7) rfl e7 rfl rfl (Fl.of rfl), trivial⟩
  · refine tidy_of (Nat.le_of_ble_eq_true rfl) (fun m hm hd => ?_) rfl
    have hm2 : m < 20 := hm
    rcases soD_of (by omega) hd with rfl | rfl | rfl
    · exact e0.symm
    · exact e1.symm
    · exact e2.symm
theorem soO_ok (a b : Int) (rs xs : List Value) (m d l : Nat) (ys : List Value) : LSOk Try.prog 162 [1, 2, 3, 7, 8, 12, 13] (soB Try.prog) (soSpecO a b rs xs m d l ys) := by
  refine lspec_ok fun x tp xt l2 h2 nx2 dd tp' ob hs ho inr ts hn hg => ?_
  obtain ⟨n, c, h⟩ := x
  simp only at hs hg
  simp only [Option.some.injEq, Prod.mk.injEq] at hs
  obtain ⟨⟨rfl, rfl, rfl, rfl, rfl⟩, rfl, rfl⟩ := hs
  obtain ⟨e0, e1, e2, e3, e4, e8, F, X, hy, _⟩ := ho
  (try simp only at e0 e1 e2 e3 e4 e8 F X hy)
  have hc := F.c
  have fR := fl_ints F.i
  have fX := fl_byts X.y
  have cX := X.c
  have key : LRuns inr Try.prog (soB Try.prog) 21 80 h 162 (soS (.slice (some ⟨2, 0, none⟩) m d) n c 0 0) (soH a b 0 1 (.slice (some ⟨8, 0, none⟩) l (capBig + 8)) rs [(2, ⟨.old, xs⟩)] [(8, rbr ys)]) 21 (.exit 0, [(7, .bool true)], (1, ⟨.old, rs⟩) :: [(2, ⟨.old, xs⟩)]) := by
    by_cases h0 : m / 2 = 0
    · exact sb0_l21 F X h0 n 0 0 1 l ys (by omega) (by omega) (by omega) hy
    · exact sc0_l21 F X (by omega) n 0 0 1 l ys (by omega) (by omega) (by omega) hy
  refine LRuns.enter (N := 21) (l2 := soS (.slice (some ⟨2, 0, none⟩) m d) n c 0 0) (h2 := soH a b 0 1 (.slice (some ⟨8, 0, none⟩) l (capBig + 8)) rs [(2, ⟨.old, xs⟩)] [(8, rbr ys)]) hn hg (Nat.le_of_ble_eq_true rfl) (Nat.le_of_ble_eq_true rfl) (fun n => n) ?_ ?_ rfl key ?_
  · exact ⟨rfl, rb_slc (l := n) (c := c) rfl (by unfold capBig; omega), rfl, rb_slc (l := m) (c := d) rfl (by unfold capBig; omega), rfl, rb_ptr rfl, rfl, rfl, rfl, rb_ptr rfl, rfl, rfl, rfl, rfl, trivial⟩
  · exact ⟨rb_old (Nat.le_of_ble_eq_true rfl) e1 fR, rb_old (Nat.le_of_ble_eq_true rfl) e2 fX, rb_row (m := 3) rfl e3 rfl rfl (Fl.of rfl), ⟨4, _, rfl, e4, rfl, rfl, .inl (tab_rb (rb_slg rfl rfl))⟩, rb_row (m := 8) rfl e8 rfl rfl hy, trivial⟩
  · refine tidy_of (Nat.le_of_ble_eq_true rfl) (fun m hm hd => ?_) rfl
    have hm2 : m < 21 := hm
    rcases soD_of (by omega) hd with rfl | rfl | rfl
    · exact e0.symm
    · exact e1.symm
    · exact e2.symm
def soL (P : Program) (s : LSpec) : LFun := mkL 3 12 162 [1, 2, 3, 7, 8, 12, 13] (soB P) s
theorem so_sn (a b : Int) (rs : List Value) (n c : Nat) : prjV (runZ (soV 0 4 (soL Try.prog (soSpecN a b rs))) Try.prog 9 3 [.agg ⟨[.int .u64 a, .int .u64 b]⟩, .slice (some ⟨1, 0, none⟩) n c, .slice none 0 0] [(1, ⟨.old, rs⟩)] 3 [false, false, false, false, true, true, false]) =
  Res.ok (Value.bool true, [], [(a == (0 : Int) && (b == (0 : Int) && true)) = false, decide ((↑n : Int) > (40 : Int)) = false, false = false, (a == (0 : Int) && (b == (0 : Int) && true)) = false, true = true, true = true,
 false = false, soB Try.prog = soB Try.prog, [(1, Value.slice (some (Addr.mk 1 0 none)) n c), (2, Value.slice none 0 0), (3, Value.pointer (some (Addr.mk 3 0 none))), (7, Value.bool true), (8, Value.pointer (some (Addr.mk
 4 0 none))), (12, Value.int IntKind.i64 (0 : Int)), (13, Value.int IntKind.i64 (0 : Int))] = soS (Value.slice none 0 0) n c 0 (0 : Int), [(18, Rw.mk Kd.shut [Value.int IntKind.u64 (0 : Int), Value.int IntKind.u64 (0 :
 Int)]), (15, Rw.mk Kd.shut [Value.pointer (some (Addr.mk 4 0 none))]), (14, Rw.mk Kd.shut [Value.int IntKind.i64 (0 : Int)]), (13, Rw.mk Kd.shut [Value.int IntKind.u64 a, Value.int IntKind.u64 b, Value.int IntKind.i64 (0
 : Int), Value.int IntKind.i64 (1 : Int), Value.int IntKind.i64 (1 : Int), Value.slice none 0 0]), (6, Rw.mk Kd.shut [Value.int IntKind.u64 (0 : Int), Value.int IntKind.u64 (0 : Int)]), (5, Rw.mk Kd.shut [Value.int
 IntKind.u64 a, Value.int IntKind.u64 b]), (4, Rw.mk Kd.shut [Value.int IntKind.u64 a, Value.int IntKind.u64 b, Value.int IntKind.i64 (0 : Int), Value.int IntKind.i64 (1 : Int), Value.int IntKind.i64 (1 : Int), Value.slice
 none 0 0, Value.int IntKind.u64 (0 : Int), Value.int IntKind.u64 (0 : Int), Value.int IntKind.i64 (0 : Int), Value.int IntKind.i64 (0 : Int), Value.int IntKind.i64 (0 : Int), Value.slice none 0 0, Value.int IntKind.u64 (0
 : Int), Value.int IntKind.u64 (0 : Int), Value.int IntKind.i64 (0 : Int), Value.int IntKind.i64 (0 : Int), Value.int IntKind.i64 (0 : Int), Value.slice none 0 0, Value.int IntKind.u64 (0 : Int), Value.int IntKind.u64 (0 :
 Int), Value.int IntKind.i64 (0 : Int), Value.int IntKind.i64 (0 : Int), Value.int IntKind.i64 (0 : Int), Value.slice none 0 0, Value.int IntKind.i64 (1 : Int), Value.bool true]), (3, Rw.mk Kd.shut [Value.int IntKind.u64
 a, Value.int IntKind.u64 b]), (1, Rw.mk Kd.old rs), (7, Rw.mk Kd.shut [Value.int IntKind.u64 a, Value.int IntKind.u64 b, Value.int IntKind.i64 (0 : Int), Value.int IntKind.i64 (1 : Int), Value.int IntKind.i64 (1 : Int),
 Value.slice none 0 0])] = [(18, Rw.mk Kd.shut [Value.int IntKind.u64 (0 : Int), Value.int IntKind.u64 (0 : Int)]), (15, Rw.mk Kd.shut [Value.pointer (some (Addr.mk 4 0 none))]), (14, Rw.mk Kd.shut [Value.int IntKind.i64
 (0 : Int)]), (13, Rw.mk Kd.shut [Value.int IntKind.u64 a, Value.int IntKind.u64 b, Value.int IntKind.i64 (0 : Int), Value.int IntKind.i64 (1 : Int), Value.int IntKind.i64 (1 : Int), Value.slice none 0 0]), (6, Rw.mk
 Kd.shut [Value.int IntKind.u64 (0 : Int), Value.int IntKind.u64 (0 : Int)]), (5, Rw.mk Kd.shut [Value.int IntKind.u64 a, Value.int IntKind.u64 b]), (4, Rw.mk Kd.shut [Value.int IntKind.u64 a, Value.int IntKind.u64 b,
 Value.int IntKind.i64 (0 : Int), Value.int IntKind.i64 (1 : Int), Value.int IntKind.i64 (1 : Int), Value.slice none 0 0, Value.int IntKind.u64 (0 : Int), Value.int IntKind.u64 (0 : Int), Value.int IntKind.i64 (0 : Int),
 Value.int IntKind.i64 (0 : Int), Value.int IntKind.i64 (0 : Int), Value.slice none 0 0, Value.int IntKind.u64 (0 : Int), Value.int IntKind.u64 (0 : Int), Value.int IntKind.i64 (0 : Int), Value.int IntKind.i64 (0 : Int),
 Value.int IntKind.i64 (0 : Int), Value.slice none 0 0, Value.int IntKind.u64 (0 : Int), Value.int IntKind.u64 (0 : Int), Value.int IntKind.i64 (0 : Int), Value.int IntKind.i64 (0 : Int), Value.int IntKind.i64 (0 : Int),
 Value.slice none 0 0, Value.int IntKind.i64 (1 : Int), Value.bool true]), (3, Rw.mk Kd.shut [Value.int IntKind.u64 a, Value.int IntKind.u64 b]), (1, Rw.mk Kd.old rs), (7, Rw.mk Kd.shut [Value.int IntKind.u64 a, Value.int
 IntKind.u64 b, Value.int IntKind.i64 (0 : Int), Value.int IntKind.i64 (1 : Int), Value.int IntKind.i64 (1 : Int), Value.slice none 0 0])], 19 = 19, lk [(18, Rw.mk Kd.shut [Value.int IntKind.u64 (0 : Int), Value.int
 IntKind.u64 (0 : Int)]), (15, Rw.mk Kd.shut [Value.pointer (some (Addr.mk 4 0 none))]), (14, Rw.mk Kd.shut [Value.int IntKind.i64 (0 : Int)]), (13, Rw.mk Kd.shut [Value.int IntKind.u64 a, Value.int IntKind.u64 b,
 Value.int IntKind.i64 (0 : Int), Value.int IntKind.i64 (1 : Int), Value.int IntKind.i64 (1 : Int), Value.slice none 0 0]), (6, Rw.mk Kd.shut [Value.int IntKind.u64 (0 : Int), Value.int IntKind.u64 (0 : Int)]), (5, Rw.mk
 Kd.shut [Value.int IntKind.u64 a, Value.int IntKind.u64 b]), (4, Rw.mk Kd.shut [Value.int IntKind.u64 a, Value.int IntKind.u64 b, Value.int IntKind.i64 (0 : Int), Value.int IntKind.i64 (1 : Int), Value.int IntKind.i64 (1
 : Int), Value.slice none 0 0, Value.int IntKind.u64 (0 : Int), Value.int IntKind.u64 (0 : Int), Value.int IntKind.i64 (0 : Int), Value.int IntKind.i64 (0 : Int), Value.int IntKind.i64 (0 : Int), Value.slice none 0 0,
 Value.int IntKind.u64 (0 : Int), Value.int IntKind.u64 (0 : Int), Value.int IntKind.i64 (0 : Int), Value.int IntKind.i64 (0 : Int), Value.int IntKind.i64 (0 : Int), Value.slice none 0 0, Value.int IntKind.u64 (0 : Int),
 Value.int IntKind.u64 (0 : Int), Value.int IntKind.i64 (0 : Int), Value.int IntKind.i64 (0 : Int), Value.int IntKind.i64 (0 : Int), Value.slice none 0 0, Value.int IntKind.i64 (1 : Int), Value.bool true]), (3, Rw.mk
 Kd.shut [Value.int IntKind.u64 a, Value.int IntKind.u64 b]), (1, Rw.mk Kd.old rs), (7, Rw.mk Kd.shut [Value.int IntKind.u64 a, Value.int IntKind.u64 b, Value.int IntKind.i64 (0 : Int), Value.int IntKind.i64 (1 : Int),
 Value.int IntKind.i64 (1 : Int), Value.slice none 0 0])] 0 = none, lk [(18, Rw.mk Kd.shut [Value.int IntKind.u64 (0 : Int), Value.int IntKind.u64 (0 : Int)]), (15, Rw.mk Kd.shut [Value.pointer (some (Addr.mk 4 0 none))]),
 (14, Rw.mk Kd.shut [Value.int IntKind.i64 (0 : Int)]), (13, Rw.mk Kd.shut [Value.int IntKind.u64 a, Value.int IntKind.u64 b, Value.int IntKind.i64 (0 : Int), Value.int IntKind.i64 (1 : Int), Value.int IntKind.i64 (1 :
 Int), Value.slice none 0 0]), (6, Rw.mk Kd.shut [Value.int IntKind.u64 (0 : Int), Value.int IntKind.u64 (0 : Int)]), (5, Rw.mk Kd.shut [Value.int IntKind.u64 a, Value.int IntKind.u64 b]), (4, Rw.mk Kd.shut [Value.int
 IntKind.u64 a, Value.int IntKind.u64 b, Value.int IntKind.i64 (0 : Int), Value.int IntKind.i64 (1 : Int), Value.int IntKind.i64 (1 : Int), Value.slice none 0 0, Value.int IntKind.u64 (0 : Int), Value.int IntKind.u64 (0 :
 Int), Value.int IntKind.i64 (0 : Int), Value.int IntKind.i64 (0 : Int), Value.int IntKind.i64 (0 : Int), Value.slice none 0 0, Value.int IntKind.u64 (0 : Int), Value.int IntKind.u64 (0 : Int), Value.int IntKind.i64 (0 :
 Int), Value.int IntKind.i64 (0 : Int), Value.int IntKind.i64 (0 : Int), Value.slice none 0 0, Value.int IntKind.u64 (0 : Int), Value.int IntKind.u64 (0 : Int), Value.int IntKind.i64 (0 : Int), Value.int IntKind.i64 (0 :
 Int), Value.int IntKind.i64 (0 : Int), Value.slice none 0 0, Value.int IntKind.i64 (1 : Int), Value.bool true]), (3, Rw.mk Kd.shut [Value.int IntKind.u64 a, Value.int IntKind.u64 b]), (1, Rw.mk Kd.old rs), (7, Rw.mk
 Kd.shut [Value.int IntKind.u64 a, Value.int IntKind.u64 b, Value.int IntKind.i64 (0 : Int), Value.int IntKind.i64 (1 : Int), Value.int IntKind.i64 (1 : Int), Value.slice none 0 0])] 1 = some (Rw.mk Kd.old rs), lk [(18,
 Rw.mk Kd.shut [Value.int IntKind.u64 (0 : Int), Value.int IntKind.u64 (0 : Int)]), (15, Rw.mk Kd.shut [Value.pointer (some (Addr.mk 4 0 none))]), (14, Rw.mk Kd.shut [Value.int IntKind.i64 (0 : Int)]), (13, Rw.mk Kd.shut
 [Value.int IntKind.u64 a, Value.int IntKind.u64 b, Value.int IntKind.i64 (0 : Int), Value.int IntKind.i64 (1 : Int), Value.int IntKind.i64 (1 : Int), Value.slice none 0 0]), (6, Rw.mk Kd.shut [Value.int IntKind.u64 (0 :
 Int), Value.int IntKind.u64 (0 : Int)]), (5, Rw.mk Kd.shut [Value.int IntKind.u64 a, Value.int IntKind.u64 b]), (4, Rw.mk Kd.shut [Value.int IntKind.u64 a, Value.int IntKind.u64 b, Value.int IntKind.i64 (0 : Int),
 Value.int IntKind.i64 (1 : Int), Value.int IntKind.i64 (1 : Int), Value.slice none 0 0, Value.int IntKind.u64 (0 : Int), Value.int IntKind.u64 (0 : Int), Value.int IntKind.i64 (0 : Int), Value.int IntKind.i64 (0 : Int),
 Value.int IntKind.i64 (0 : Int), Value.slice none 0 0, Value.int IntKind.u64 (0 : Int), Value.int IntKind.u64 (0 : Int), Value.int IntKind.i64 (0 : Int), Value.int IntKind.i64 (0 : Int), Value.int IntKind.i64 (0 : Int),
 Value.slice none 0 0, Value.int IntKind.u64 (0 : Int), Value.int IntKind.u64 (0 : Int), Value.int IntKind.i64 (0 : Int), Value.int IntKind.i64 (0 : Int), Value.int IntKind.i64 (0 : Int), Value.slice none 0 0, Value.int
 IntKind.i64 (1 : Int), Value.bool true]), (3, Rw.mk Kd.shut [Value.int IntKind.u64 a, Value.int IntKind.u64 b]), (1, Rw.mk Kd.old rs), (7, Rw.mk Kd.shut [Value.int IntKind.u64 a, Value.int IntKind.u64 b, Value.int
 IntKind.i64 (0 : Int), Value.int IntKind.i64 (1 : Int), Value.int IntKind.i64 (1 : Int), Value.slice none 0 0])] 2 = none, lk [(18, Rw.mk Kd.shut [Value.int IntKind.u64 (0 : Int), Value.int IntKind.u64 (0 : Int)]), (15,
 Rw.mk Kd.shut [Value.pointer (some (Addr.mk 4 0 none))]), (14, Rw.mk Kd.shut [Value.int IntKind.i64 (0 : Int)]), (13, Rw.mk Kd.shut [Value.int IntKind.u64 a, Value.int IntKind.u64 b, Value.int IntKind.i64 (0 : Int),
 Value.int IntKind.i64 (1 : Int), Value.int IntKind.i64 (1 : Int), Value.slice none 0 0]), (6, Rw.mk Kd.shut [Value.int IntKind.u64 (0 : Int), Value.int IntKind.u64 (0 : Int)]), (5, Rw.mk Kd.shut [Value.int IntKind.u64 a,
 Value.int IntKind.u64 b]), (4, Rw.mk Kd.shut [Value.int IntKind.u64 a, Value.int IntKind.u64 b, Value.int IntKind.i64 (0 : Int), Value.int IntKind.i64 (1 : Int), Value.int IntKind.i64 (1 : Int), Value.slice none 0 0,
 Value.int IntKind.u64 (0 : Int), Value.int IntKind.u64 (0 : Int), Value.int IntKind.i64 (0 : Int), Value.int IntKind.i64 (0 : Int), Value.int IntKind.i64 (0 : Int), Value.slice none 0 0, Value.int IntKind.u64 (0 : Int),
 Value.int IntKind.u64 (0 : Int), Value.int IntKind.i64 (0 : Int), Value.int IntKind.i64 (0 : Int), Value.int IntKind.i64 (0 : Int), Value.slice none 0 0, Value.int IntKind.u64 (0 : Int), Value.int IntKind.u64 (0 : Int),
 Value.int IntKind.i64 (0 : Int), Value.int IntKind.i64 (0 : Int), Value.int IntKind.i64 (0 : Int), Value.slice none 0 0, Value.int IntKind.i64 (1 : Int), Value.bool true]), (3, Rw.mk Kd.shut [Value.int IntKind.u64 a,
 Value.int IntKind.u64 b]), (1, Rw.mk Kd.old rs), (7, Rw.mk Kd.shut [Value.int IntKind.u64 a, Value.int IntKind.u64 b, Value.int IntKind.i64 (0 : Int), Value.int IntKind.i64 (1 : Int), Value.int IntKind.i64 (1 : Int),
 Value.slice none 0 0])] 3 = some (Rw.mk Kd.shut [Value.int IntKind.u64 a, Value.int IntKind.u64 b]), lk [(18, Rw.mk Kd.shut [Value.int IntKind.u64 (0 : Int), Value.int IntKind.u64 (0 : Int)]), (15, Rw.mk Kd.shut
 [Value.pointer (some (Addr.mk 4 0 none))]), (14, Rw.mk Kd.shut [Value.int IntKind.i64 (0 : Int)]), (13, Rw.mk Kd.shut [Value.int IntKind.u64 a, Value.int IntKind.u64 b, Value.int IntKind.i64 (0 : Int), Value.int
 IntKind.i64 (1 : Int), Value.int IntKind.i64 (1 : Int), Value.slice none 0 0]), (6, Rw.mk Kd.shut [Value.int IntKind.u64 (0 : Int), Value.int IntKind.u64 (0 : Int)]), (5, Rw.mk Kd.shut [Value.int IntKind.u64 a, Value.int
 IntKind.u64 b]), (4, Rw.mk Kd.shut [Value.int IntKind.u64 a, Value.int IntKind.u64 b, Value.int IntKind.i64 (0 : Int), Value.int IntKind.i64 (1 : Int), Value.int IntKind.i64 (1 : Int), Value.slice none 0 0, Value.int
 IntKind.u64 (0 : Int), Value.int IntKind.u64 (0 : Int), Value.int IntKind.i64 (0 : Int), Value.int IntKind.i64 (0 : Int), Value.int IntKind.i64 (0 : Int), Value.slice none 0 0, Value.int IntKind.u64 (0 : Int), Value.int
 IntKind.u64 (0 : Int), Value.int IntKind.i64 (0 : Int), Value.int IntKind.i64 (0 : Int), Value.int IntKind.i64 (0 : Int), Value.slice none 0 0, Value.int IntKind.u64 (0 : Int), Value.int IntKind.u64 (0 : Int), Value.int
 IntKind.i64 (0 : Int), Value.int IntKind.i64 (0 : Int), Value.int IntKind.i64 (0 : Int), Value.slice none 0 0, Value.int IntKind.i64 (1 : Int), Value.bool true]), (3, Rw.mk Kd.shut [Value.int IntKind.u64 a, Value.int
 IntKind.u64 b]), (1, Rw.mk Kd.old rs), (7, Rw.mk Kd.shut [Value.int IntKind.u64 a, Value.int IntKind.u64 b, Value.int IntKind.i64 (0 : Int), Value.int IntKind.i64 (1 : Int), Value.int IntKind.i64 (1 : Int), Value.slice
 none 0 0])] 4 = some (Rw.mk Kd.shut [Value.int IntKind.u64 a, Value.int IntKind.u64 b, Value.int IntKind.i64 (0 : Int), Value.int IntKind.i64 (1 : Int), Value.int IntKind.i64 (1 : Int), Value.slice none 0 0, Value.int
 IntKind.u64 (0 : Int), Value.int IntKind.u64 (0 : Int), Value.int IntKind.i64 (0 : Int), Value.int IntKind.i64 (0 : Int), Value.int IntKind.i64 (0 : Int), Value.slice none 0 0, Value.int IntKind.u64 (0 : Int), Value.int
 IntKind.u64 (0 : Int), Value.int IntKind.i64 (0 : Int), Value.int IntKind.i64 (0 : Int), Value.int IntKind.i64 (0 : Int), Value.slice none 0 0, Value.int IntKind.u64 (0 : Int), Value.int IntKind.u64 (0 : Int), Value.int
 IntKind.i64 (0 : Int), Value.int IntKind.i64 (0 : Int), Value.int IntKind.i64 (0 : Int), Value.slice none 0 0, Value.int IntKind.i64 (1 : Int), Value.bool true]), SoF rs n c]) := by kernel_rfl
theorem so_se (a b : Int) (rs xs : List Value) (n c d : Nat) : prjV (runZ (soV 0 4 (soL Try.prog (soSpecE a b rs xs 0 d))) Try.prog 9 3 [.agg ⟨[.int .u64 a, .int .u64 b]⟩, .slice (some ⟨1, 0, none⟩) n c, .slice (some ⟨2, 0, none⟩) 0 d] [(1, ⟨.old, rs⟩), (2, ⟨.old, xs⟩)] 3 [false, false, false, false, true, true, false]) =
  Res.ok (Value.bool true, [], [(a == (0 : Int) && (b == (0 : Int) && true)) = false, decide ((↑n : Int) > (40 : Int)) = false, false = false, (a == (0 : Int) && (b == (0 : Int) && true)) = false, true = true, true = true,
 false = false, soB Try.prog = soB Try.prog, [(1, Value.slice (some (Addr.mk 1 0 none)) n c), (2, Value.slice (some (Addr.mk 2 0 none)) 0 d), (3, Value.pointer (some (Addr.mk 3 0 none))), (7, Value.bool true), (8,
 Value.pointer (some (Addr.mk 4 0 none))), (12, Value.int IntKind.i64 (0 : Int)), (13, Value.int IntKind.i64 (0 : Int))] = soS (Value.slice (some (Addr.mk 2 0 none)) 0 d) n c 0 (0 : Int), [(19, Rw.mk Kd.shut [Value.int
 IntKind.u64 (0 : Int), Value.int IntKind.u64 (0 : Int)]), (16, Rw.mk Kd.shut [Value.pointer (some (Addr.mk 4 0 none))]), (15, Rw.mk Kd.shut [Value.int IntKind.i64 (0 : Int)]), (14, Rw.mk Kd.shut [Value.int IntKind.u64 a,
 Value.int IntKind.u64 b, Value.int IntKind.i64 (0 : Int), Value.int IntKind.i64 (1 : Int), Value.int IntKind.i64 (1 : Int), Value.slice (some (Addr.mk 7 0 none)) 0 0]), (6, Rw.mk Kd.shut [Value.int IntKind.u64 (0 : Int),
 Value.int IntKind.u64 (0 : Int)]), (5, Rw.mk Kd.shut [Value.int IntKind.u64 a, Value.int IntKind.u64 b]), (4, Rw.mk Kd.shut [Value.int IntKind.u64 a, Value.int IntKind.u64 b, Value.int IntKind.i64 (0 : Int), Value.int
 IntKind.i64 (1 : Int), Value.int IntKind.i64 (1 : Int), Value.slice (some (Addr.mk 7 0 none)) 0 0, Value.int IntKind.u64 (0 : Int), Value.int IntKind.u64 (0 : Int), Value.int IntKind.i64 (0 : Int), Value.int IntKind.i64
 (0 : Int), Value.int IntKind.i64 (0 : Int), Value.slice none 0 0, Value.int IntKind.u64 (0 : Int), Value.int IntKind.u64 (0 : Int), Value.int IntKind.i64 (0 : Int), Value.int IntKind.i64 (0 : Int), Value.int IntKind.i64
 (0 : Int), Value.slice none 0 0, Value.int IntKind.u64 (0 : Int), Value.int IntKind.u64 (0 : Int), Value.int IntKind.i64 (0 : Int), Value.int IntKind.i64 (0 : Int), Value.int IntKind.i64 (0 : Int), Value.slice none 0 0,
 Value.int IntKind.i64 (1 : Int), Value.bool true]), (3, Rw.mk Kd.shut [Value.int IntKind.u64 a, Value.int IntKind.u64 b]), (1, Rw.mk Kd.old rs), (2, Rw.mk Kd.old xs), (7, Rw.mk Kd.shut []), (8, Rw.mk Kd.shut [Value.int
 IntKind.u64 a, Value.int IntKind.u64 b, Value.int IntKind.i64 (0 : Int), Value.int IntKind.i64 (1 : Int), Value.int IntKind.i64 (1 : Int), Value.slice (some (Addr.mk 7 0 none)) 0 0])] = [(19, Rw.mk Kd.shut [Value.int
 IntKind.u64 (0 : Int), Value.int IntKind.u64 (0 : Int)]), (16, Rw.mk Kd.shut [Value.pointer (some (Addr.mk 4 0 none))]), (15, Rw.mk Kd.shut [Value.int IntKind.i64 (0 : Int)]), (14, Rw.mk Kd.shut [Value.int IntKind.u64 a,
 Value.int IntKind.u64 b, Value.int IntKind.i64 (0 : Int), Value.int IntKind.i64 (1 : Int), Value.int IntKind.i64 (1 : Int), Value.slice (some (Addr.mk 7 0 none)) 0 0]), (6, Rw.mk Kd.shut [Value.int IntKind.u64 (0 : Int),
 Value.int IntKind.u64 (0 : Int)]), (5, Rw.mk Kd.shut [Value.int IntKind.u64 a, Value.int IntKind.u64 b]), (4, Rw.mk Kd.shut [Value.int IntKind.u64 a, Value.int IntKind.u64 b, Value.int IntKind.i64 (0 : Int), Value.int
 IntKind.i64 (1 : Int), Value.int IntKind.i64 (1 : Int), Value.slice (some (Addr.mk 7 0 none)) 0 0, Value.int IntKind.u64 (0 : Int), Value.int IntKind.u64 (0 : Int), Value.int IntKind.i64 (0 : Int), Value.int IntKind.i64
 (0 : Int), Value.int IntKind.i64 (0 : Int), Value.slice none 0 0, Value.int IntKind.u64 (0 : Int), Value.int IntKind.u64 (0 : Int), Value.int IntKind.i64 (0 : Int), Value.int IntKind.i64 (0 : Int), Value.int IntKind.i64
 (0 : Int), Value.slice none 0 0, Value.int IntKind.u64 (0 : Int), Value.int IntKind.u64 (0 : Int), Value.int IntKind.i64 (0 : Int), Value.int IntKind.i64 (0 : Int), Value.int IntKind.i64 (0 : Int), Value.slice none 0 0,
 Value.int IntKind.i64 (1 : Int), Value.bool true]), (3, Rw.mk Kd.shut [Value.int IntKind.u64 a, Value.int IntKind.u64 b]), (1, Rw.mk Kd.old rs), (2, Rw.mk Kd.old xs), (7, Rw.mk Kd.shut []), (8, Rw.mk Kd.shut [Value.int
 IntKind.u64 a, Value.int IntKind.u64 b, Value.int IntKind.i64 (0 : Int), Value.int IntKind.i64 (1 : Int), Value.int IntKind.i64 (1 : Int), Value.slice (some (Addr.mk 7 0 none)) 0 0])], 20 = 20, lk [(19, Rw.mk Kd.shut
 [Value.int IntKind.u64 (0 : Int), Value.int IntKind.u64 (0 : Int)]), (16, Rw.mk Kd.shut [Value.pointer (some (Addr.mk 4 0 none))]), (15, Rw.mk Kd.shut [Value.int IntKind.i64 (0 : Int)]), (14, Rw.mk Kd.shut [Value.int
 IntKind.u64 a, Value.int IntKind.u64 b, Value.int IntKind.i64 (0 : Int), Value.int IntKind.i64 (1 : Int), Value.int IntKind.i64 (1 : Int), Value.slice (some (Addr.mk 7 0 none)) 0 0]), (6, Rw.mk Kd.shut [Value.int
 IntKind.u64 (0 : Int), Value.int IntKind.u64 (0 : Int)]), (5, Rw.mk Kd.shut [Value.int IntKind.u64 a, Value.int IntKind.u64 b]), (4, Rw.mk Kd.shut [Value.int IntKind.u64 a, Value.int IntKind.u64 b, Value.int IntKind.i64
 (0 : Int), Value.int IntKind.i64 (1 : Int), Value.int IntKind.i64 (1 : Int), Value.slice (some (Addr.mk 7 0 none)) 0 0, Value.int IntKind.u64 (0 : Int), Value.int IntKind.u64 (0 : Int), Value.int IntKind.i64 (0 : Int),
 Value.int IntKind.i64 (0 : Int), Value.int IntKind.i64 (0 : Int), Value.slice none 0 0, Value.int IntKind.u64 (0 : Int), Value.int IntKind.u64 (0 : Int), Value.int IntKind.i64 (0 : Int), Value.int IntKind.i64 (0 : Int),
 Value.int IntKind.i64 (0 : Int), Value.slice none 0 0, Value.int IntKind.u64 (0 : Int), Value.int IntKind.u64 (0 : Int), Value.int IntKind.i64 (0 : Int), Value.int IntKind.i64 (0 : Int), Value.int IntKind.i64 (0 : Int),
 Value.slice none 0 0, Value.int IntKind.i64 (1 : Int), Value.bool true]), (3, Rw.mk Kd.shut [Value.int IntKind.u64 a, Value.int IntKind.u64 b]), (1, Rw.mk Kd.old rs), (2, Rw.mk Kd.old xs), (7, Rw.mk Kd.shut []), (8, Rw.mk
 Kd.shut [Value.int IntKind.u64 a, Value.int IntKind.u64 b, Value.int IntKind.i64 (0 : Int), Value.int IntKind.i64 (1 : Int), Value.int IntKind.i64 (1 : Int), Value.slice (some (Addr.mk 7 0 none)) 0 0])] 0 = none, lk [(19,
 Rw.mk Kd.shut [Value.int IntKind.u64 (0 : Int), Value.int IntKind.u64 (0 : Int)]), (16, Rw.mk Kd.shut [Value.pointer (some (Addr.mk 4 0 none))]), (15, Rw.mk Kd.shut [Value.int IntKind.i64 (0 : Int)]), (14, Rw.mk Kd.shut
 [Value.int IntKind.u64 a, Value.int IntKind.u64 b, Value.int IntKind.i64 (0 : Int), Value.int IntKind.i64 (1 : Int), Value.int IntKind.i64 (1 : Int), Value.slice (some (Addr.mk 7 0 none)) 0 0]), (6, Rw.mk Kd.shut
 [Value.int IntKind.u64 (0 : Int), Value.int IntKind.u64 (0 : Int)]), (5, Rw.mk Kd.shut [Value.int IntKind.u64 a, Value.int IntKind.u64 b]), (4, Rw.mk Kd.shut [Value.int IntKind.u64 a, Value.int IntKind.u64 b, Value.int
 IntKind.i64 (0 : Int), Value.int IntKind.i64 (1 : Int), Value.int IntKind.i64 (1 : Int), Value.slice (some (Addr.mk 7 0 none)) 0 0, Value.int IntKind.u64 (0 : Int), Value.int IntKind.u64 (0 : Int), Value.int IntKind.i64
 (0 : Int), Value.int IntKind.i64 (0 : Int), Value.int IntKind.i64 (0 : Int), Value.slice none 0 0, Value.int IntKind.u64 (0 : Int), Value.int IntKind.u64 (0 : Int), Value.int IntKind.i64 (0 : Int), Value.int IntKind.i64
 (0 : Int), Value.int IntKind.i64 (0 : Int), Value.slice none 0 0, Value.int IntKind.u64 (0 : Int), Value.int IntKind.u64 (0 : Int), Value.int IntKind.i64 (0 : Int), Value.int IntKind.i64 (0 : Int), Value.int IntKind.i64
 (0 : Int), Value.slice none 0 0, Value.int IntKind.i64 (1 : Int), Value.bool true]), (3, Rw.mk Kd.shut [Value.int IntKind.u64 a, Value.int IntKind.u64 b]), (1, Rw.mk Kd.old rs), (2, Rw.mk Kd.old xs), (7, Rw.mk Kd.shut
 []), (8, Rw.mk Kd.shut [Value.int IntKind.u64 a, Value.int IntKind.u64 b, Value.int IntKind.i64 (0 : Int), Value.int IntKind.i64 (1 : Int), Value.int IntKind.i64 (1 : Int), Value.slice (some (Addr.mk 7 0 none)) 0 0])] 1 =
 some (Rw.mk Kd.old rs), lk [(19, Rw.mk Kd.shut [Value.int IntKind.u64 (0 : Int), Value.int IntKind.u64 (0 : Int)]), (16, Rw.mk Kd.shut [Value.pointer (some (Addr.mk 4 0 none))]), (15, Rw.mk Kd.shut [Value.int IntKind.i64
 (0 : Int)]), (14, Rw.mk Kd.shut [Value.int IntKind.u64 a, Value.int IntKind.u64 b, Value.int IntKind.i64 (0 : Int), Value.int IntKind.i64 (1 : Int), Value.int IntKind.i64 (1 : Int), Value.slice (some (Addr.mk 7 0 none)) 0
 0]), (6, Rw.mk Kd.shut [Value.int IntKind.u64 (0 : Int), Value.int IntKind.u64 (0 : Int)]), (5, Rw.mk Kd.shut [Value.int IntKind.u64 a, Value.int IntKind.u64 b]), (4, Rw.mk Kd.shut [Value.int IntKind.u64 a, Value.int
 IntKind.u64 b, Value.int IntKind.i64 (0 : Int), Value.int IntKind.i64 (1 : Int), Value.int IntKind.i64 (1 : Int), Value.slice (some (Addr.mk 7 0 none)) 0 0, Value.int IntKind.u64 (0 : Int), Value.int IntKind.u64 (0 :
 Int), Value.int IntKind.i64 (0 : Int), Value.int IntKind.i64 (0 : Int), Value.int IntKind.i64 (0 : Int), Value.slice none 0 0, Value.int IntKind.u64 (0 : Int), Value.int IntKind.u64 (0 : Int), Value.int IntKind.i64 (0 :
 Int), Value.int IntKind.i64 (0 : Int), Value.int IntKind.i64 (0 : Int), Value.slice none 0 0, Value.int IntKind.u64 (0 : Int), Value.int IntKind.u64 (0 : Int), Value.int IntKind.i64 (0 : Int), Value.int IntKind.i64 (0 :
 Int), Value.int IntKind.i64 (0 : Int), Value.slice none 0 0, Value.int IntKind.i64 (1 : Int), Value.bool true]), (3, Rw.mk Kd.shut [Value.int IntKind.u64 a, Value.int IntKind.u64 b]), (1, Rw.mk Kd.old rs), (2, Rw.mk
 Kd.old xs), (7, Rw.mk Kd.shut []), (8, Rw.mk Kd.shut [Value.int IntKind.u64 a, Value.int IntKind.u64 b, Value.int IntKind.i64 (0 : Int), Value.int IntKind.i64 (1 : Int), Value.int IntKind.i64 (1 : Int), Value.slice (some
 (Addr.mk 7 0 none)) 0 0])] 2 = some (Rw.mk Kd.old xs), lk [(19, Rw.mk Kd.shut [Value.int IntKind.u64 (0 : Int), Value.int IntKind.u64 (0 : Int)]), (16, Rw.mk Kd.shut [Value.pointer (some (Addr.mk 4 0 none))]), (15, Rw.mk
 Kd.shut [Value.int IntKind.i64 (0 : Int)]), (14, Rw.mk Kd.shut [Value.int IntKind.u64 a, Value.int IntKind.u64 b, Value.int IntKind.i64 (0 : Int), Value.int IntKind.i64 (1 : Int), Value.int IntKind.i64 (1 : Int),
 Value.slice (some (Addr.mk 7 0 none)) 0 0]), (6, Rw.mk Kd.shut [Value.int IntKind.u64 (0 : Int), Value.int IntKind.u64 (0 : Int)]), (5, Rw.mk Kd.shut [Value.int IntKind.u64 a, Value.int IntKind.u64 b]), (4, Rw.mk Kd.shut
 [Value.int IntKind.u64 a, Value.int IntKind.u64 b, Value.int IntKind.i64 (0 : Int), Value.int IntKind.i64 (1 : Int), Value.int IntKind.i64 (1 : Int), Value.slice (some (Addr.mk 7 0 none)) 0 0, Value.int IntKind.u64 (0 :
 Int), Value.int IntKind.u64 (0 : Int), Value.int IntKind.i64 (0 : Int), Value.int IntKind.i64 (0 : Int), Value.int IntKind.i64 (0 : Int), Value.slice none 0 0, Value.int IntKind.u64 (0 : Int), Value.int IntKind.u64 (0 :
 Int), Value.int IntKind.i64 (0 : Int), Value.int IntKind.i64 (0 : Int), Value.int IntKind.i64 (0 : Int), Value.slice none 0 0, Value.int IntKind.u64 (0 : Int), Value.int IntKind.u64 (0 : Int), Value.int IntKind.i64 (0 :
 Int), Value.int IntKind.i64 (0 : Int), Value.int IntKind.i64 (0 : Int), Value.slice none 0 0, Value.int IntKind.i64 (1 : Int), Value.bool true]), (3, Rw.mk Kd.shut [Value.int IntKind.u64 a, Value.int IntKind.u64 b]), (1,
 Rw.mk Kd.old rs), (2, Rw.mk Kd.old xs), (7, Rw.mk Kd.shut []), (8, Rw.mk Kd.shut [Value.int IntKind.u64 a, Value.int IntKind.u64 b, Value.int IntKind.i64 (0 : Int), Value.int IntKind.i64 (1 : Int), Value.int IntKind.i64
 (1 : Int), Value.slice (some (Addr.mk 7 0 none)) 0 0])] 3 = some (Rw.mk Kd.shut [Value.int IntKind.u64 a, Value.int IntKind.u64 b]), lk [(19, Rw.mk Kd.shut [Value.int IntKind.u64 (0 : Int), Value.int IntKind.u64 (0 :
 Int)]), (16, Rw.mk Kd.shut [Value.pointer (some (Addr.mk 4 0 none))]), (15, Rw.mk Kd.shut [Value.int IntKind.i64 (0 : Int)]), (14, Rw.mk Kd.shut [Value.int IntKind.u64 a, Value.int IntKind.u64 b, Value.int IntKind.i64 (0
 : Int), Value.int IntKind.i64 (1 : Int), Value.int IntKind.i64 (1 : Int), Value.slice (some (Addr.mk 7 0 none)) 0 0]), (6, Rw.mk Kd.shut [Value.int IntKind.u64 (0 : Int), Value.int IntKind.u64 (0 : Int)]), (5, Rw.mk
 Kd.shut [Value.int IntKind.u64 a, Value.int IntKind.u64 b]), (4, Rw.mk Kd.shut [Value.int IntKind.u64 a, Value.int IntKind.u64 b, Value.int IntKind.i64 (0 : Int), Value.int IntKind.i64 (1 : Int), Value.int IntKind.i64 (1
 : Int), Value.slice (some (Addr.mk 7 0 none)) 0 0, Value.int IntKind.u64 (0 : Int), Value.int IntKind.u64 (0 : Int), Value.int IntKind.i64 (0 : Int), Value.int IntKind.i64 (0 : Int), Value.int IntKind.i64 (0 : Int),
 Value.slice none 0 0, Value.int IntKind.u64 (0 : Int), Value.int IntKind.u64 (0 : Int), Value.int IntKind.i64 (0 : Int), Value.int IntKind.i64 (0 : Int), Value.int IntKind.i64 (0 : Int), Value.slice none 0 0, Value.int
 IntKind.u64 (0 : Int), Value.int IntKind.u64 (0 : Int), Value.int IntKind.i64 (0 : Int), Value.int IntKind.i64 (0 : Int), Value.int IntKind.i64 (0 : Int), Value.slice none 0 0, Value.int IntKind.i64 (1 : Int), Value.bool
 true]), (3, Rw.mk Kd.shut [Value.int IntKind.u64 a, Value.int IntKind.u64 b]), (1, Rw.mk Kd.old rs), (2, Rw.mk Kd.old xs), (7, Rw.mk Kd.shut []), (8, Rw.mk Kd.shut [Value.int IntKind.u64 a, Value.int IntKind.u64 b,
 Value.int IntKind.i64 (0 : Int), Value.int IntKind.i64 (1 : Int), Value.int IntKind.i64 (1 : Int), Value.slice (some (Addr.mk 7 0 none)) 0 0])] 4 = some (Rw.mk Kd.shut [Value.int IntKind.u64 a, Value.int IntKind.u64 b,
 Value.int IntKind.i64 (0 : Int), Value.int IntKind.i64 (1 : Int), Value.int IntKind.i64 (1 : Int), Value.slice (some (Addr.mk 7 0 none)) 0 0, Value.int IntKind.u64 (0 : Int), Value.int IntKind.u64 (0 : Int), Value.int
 IntKind.i64 (0 : Int), Value.int IntKind.i64 (0 : Int), Value.int IntKind.i64 (0 : Int), Value.slice none 0 0, Value.int IntKind.u64 (0 : Int), Value.int IntKind.u64 (0 : Int), Value.int IntKind.i64 (0 : Int), Value.int
 IntKind.i64 (0 : Int), Value.int IntKind.i64 (0 : Int), Value.slice none 0 0, Value.int IntKind.u64 (0 : Int), Value.int IntKind.u64 (0 : Int), Value.int IntKind.i64 (0 : Int), Value.int IntKind.i64 (0 : Int), Value.int
 IntKind.i64 (0 : Int), Value.slice none 0 0, Value.int IntKind.i64 (1 : Int), Value.bool true]), lk [(19, Rw.mk Kd.shut [Value.int IntKind.u64 (0 : Int), Value.int IntKind.u64 (0 : Int)]), (16, Rw.mk Kd.shut
 [Value.pointer (some (Addr.mk 4 0 none))]), (15, Rw.mk Kd.shut [Value.int IntKind.i64 (0 : Int)]), (14, Rw.mk Kd.shut [Value.int IntKind.u64 a, Value.int IntKind.u64 b, Value.int IntKind.i64 (0 : Int), Value.int
 IntKind.i64 (1 : Int), Value.int IntKind.i64 (1 : Int), Value.slice (some (Addr.mk 7 0 none)) 0 0]), (6, Rw.mk Kd.shut [Value.int IntKind.u64 (0 : Int), Value.int IntKind.u64 (0 : Int)]), (5, Rw.mk Kd.shut [Value.int
 IntKind.u64 a, Value.int IntKind.u64 b]), (4, Rw.mk Kd.shut [Value.int IntKind.u64 a, Value.int IntKind.u64 b, Value.int IntKind.i64 (0 : Int), Value.int IntKind.i64 (1 : Int), Value.int IntKind.i64 (1 : Int), Value.slice
 (some (Addr.mk 7 0 none)) 0 0, Value.int IntKind.u64 (0 : Int), Value.int IntKind.u64 (0 : Int), Value.int IntKind.i64 (0 : Int), Value.int IntKind.i64 (0 : Int), Value.int IntKind.i64 (0 : Int), Value.slice none 0 0,
 Value.int IntKind.u64 (0 : Int), Value.int IntKind.u64 (0 : Int), Value.int IntKind.i64 (0 : Int), Value.int IntKind.i64 (0 : Int), Value.int IntKind.i64 (0 : Int), Value.slice none 0 0, Value.int IntKind.u64 (0 : Int),
 Value.int IntKind.u64 (0 : Int), Value.int IntKind.i64 (0 : Int), Value.int IntKind.i64 (0 : Int), Value.int IntKind.i64 (0 : Int), Value.slice none 0 0, Value.int IntKind.i64 (1 : Int), Value.bool true]), (3, Rw.mk
 Kd.shut [Value.int IntKind.u64 a, Value.int IntKind.u64 b]), (1, Rw.mk Kd.old rs), (2, Rw.mk Kd.old xs), (7, Rw.mk Kd.shut []), (8, Rw.mk Kd.shut [Value.int IntKind.u64 a, Value.int IntKind.u64 b, Value.int IntKind.i64 (0
 : Int), Value.int IntKind.i64 (1 : Int), Value.int IntKind.i64 (1 : Int), Value.slice (some (Addr.mk 7 0 none)) 0 0])] 7 = some (Rw.mk Kd.shut []), SoF rs n c, SoX xs 0 d, 0 = 0]) := by kernel_rfl
theorem so_so (a b : Int) (rs xs : List Value) (n c m d : Nat) : prjV (runZ (soV 0 2 (soL Try.prog (soSpecO a b rs xs m d (0 + m) ([] ++ List.take m xs)))) Try.prog 9 3 [.agg ⟨[.int .u64 a, .int .u64 b]⟩, .slice (some ⟨1, 0, none⟩) n c, .slice (some ⟨2, 0, none⟩) m d] [(1, ⟨.old, rs⟩), (2, ⟨.old, xs⟩)] 3 [false, false, false, false, true, true, false]) =
  Res.ok (Value.bool true, [], [(a == (0 : Int) && (b == (0 : Int) && true)) = false, decide ((↑n : Int) > (40 : Int)) = false, decide ((↑m : Int) > (1024 : Int)) = false, (a == (0 : Int) && (b == (0 : Int) && true)) =
 false, true = true, true = true, decide ((↑m : Int) > (1024 : Int)) = false, 0 < 18446744073709551616, 0 < 0 + m, 0 ≤ 0, (0 + m) * 1 ≤ 140737488355328 ∧ 0 + m ≤ 9223372036854775807, m ≤ List.length xs, all1 (List.take m
 xs) = true, soB Try.prog = soB Try.prog, [(1, Value.slice (some (Addr.mk 1 0 none)) n c), (2, Value.slice (some (Addr.mk 2 0 none)) m d), (3, Value.pointer (some (Addr.mk 3 0 none))), (7, Value.bool true), (8,
 Value.pointer (some (Addr.mk 4 0 none))), (12, Value.int IntKind.i64 (0 : Int)), (13, Value.int IntKind.i64 (0 : Int))] = soS (Value.slice (some (Addr.mk 2 0 none)) m d) n c 0 (0 : Int), [(20, Rw.mk Kd.shut [Value.int
 IntKind.u64 (0 : Int), Value.int IntKind.u64 (0 : Int)]), (17, Rw.mk Kd.shut [Value.pointer (some (Addr.mk 4 0 none))]), (16, Rw.mk Kd.shut [Value.int IntKind.i64 (0 : Int)]), (15, Rw.mk Kd.shut [Value.int IntKind.u64 a,
 Value.int IntKind.u64 b, Value.int IntKind.i64 (0 : Int), Value.int IntKind.i64 (1 : Int), Value.int IntKind.i64 (1 : Int), Value.slice (some (Addr.mk 8 0 none)) (0 + m) (capBig + 8)]), (6, Rw.mk Kd.shut [Value.int
 IntKind.u64 (0 : Int), Value.int IntKind.u64 (0 : Int)]), (5, Rw.mk Kd.shut [Value.int IntKind.u64 a, Value.int IntKind.u64 b]), (4, Rw.mk Kd.shut [Value.int IntKind.u64 a, Value.int IntKind.u64 b, Value.int IntKind.i64
 (0 : Int), Value.int IntKind.i64 (1 : Int), Value.int IntKind.i64 (1 : Int), Value.slice (some (Addr.mk 8 0 none)) (0 + m) (capBig + 8), Value.int IntKind.u64 (0 : Int), Value.int IntKind.u64 (0 : Int), Value.int
 IntKind.i64 (0 : Int), Value.int IntKind.i64 (0 : Int), Value.int IntKind.i64 (0 : Int), Value.slice none 0 0, Value.int IntKind.u64 (0 : Int), Value.int IntKind.u64 (0 : Int), Value.int IntKind.i64 (0 : Int), Value.int
 IntKind.i64 (0 : Int), Value.int IntKind.i64 (0 : Int), Value.slice none 0 0, Value.int IntKind.u64 (0 : Int), Value.int IntKind.u64 (0 : Int), Value.int IntKind.i64 (0 : Int), Value.int IntKind.i64 (0 : Int), Value.int
 IntKind.i64 (0 : Int), Value.slice none 0 0, Value.int IntKind.i64 (1 : Int), Value.bool true]), (3, Rw.mk Kd.shut [Value.int IntKind.u64 a, Value.int IntKind.u64 b]), (1, Rw.mk Kd.old rs), (2, Rw.mk Kd.old xs), (7, Rw.mk
 Kd.shut []), (8, Rw.mk (Kd.room 1 [Value.int IntKind.u8 (0 : Int)]) ([] ++ List.take m xs)), (9, Rw.mk Kd.shut [Value.int IntKind.u64 a, Value.int IntKind.u64 b, Value.int IntKind.i64 (0 : Int), Value.int IntKind.i64 (1 :
 Int), Value.int IntKind.i64 (1 : Int), Value.slice (some (Addr.mk 8 0 none)) (0 + m) (capBig + 8)])] = [(20, Rw.mk Kd.shut [Value.int IntKind.u64 (0 : Int), Value.int IntKind.u64 (0 : Int)]), (17, Rw.mk Kd.shut
 [Value.pointer (some (Addr.mk 4 0 none))]), (16, Rw.mk Kd.shut [Value.int IntKind.i64 (0 : Int)]), (15, Rw.mk Kd.shut [Value.int IntKind.u64 a, Value.int IntKind.u64 b, Value.int IntKind.i64 (0 : Int), Value.int
 IntKind.i64 (1 : Int), Value.int IntKind.i64 (1 : Int), Value.slice (some (Addr.mk 8 0 none)) (0 + m) (capBig + 8)]), (6, Rw.mk Kd.shut [Value.int IntKind.u64 (0 : Int), Value.int IntKind.u64 (0 : Int)]), (5, Rw.mk
 Kd.shut [Value.int IntKind.u64 a, Value.int IntKind.u64 b]), (4, Rw.mk Kd.shut [Value.int IntKind.u64 a, Value.int IntKind.u64 b, Value.int IntKind.i64 (0 : Int), Value.int IntKind.i64 (1 : Int), Value.int IntKind.i64 (1
 : Int), Value.slice (some (Addr.mk 8 0 none)) (0 + m) (capBig + 8), Value.int IntKind.u64 (0 : Int), Value.int IntKind.u64 (0 : Int), Value.int IntKind.i64 (0 : Int), Value.int IntKind.i64 (0 : Int), Value.int IntKind.i64
 (0 : Int), Value.slice none 0 0, Value.int IntKind.u64 (0 : Int), Value.int IntKind.u64 (0 : Int), Value.int IntKind.i64 (0 : Int), Value.int IntKind.i64 (0 : Int), Value.int IntKind.i64 (0 : Int), Value.slice none 0 0,
 Value.int IntKind.u64 (0 : Int), Value.int IntKind.u64 (0 : Int), Value.int IntKind.i64 (0 : Int), Value.int IntKind.i64 (0 : Int), Value.int IntKind.i64 (0 : Int), Value.slice none 0 0, Value.int IntKind.i64 (1 : Int),
 Value.bool true]), (3, Rw.mk Kd.shut [Value.int IntKind.u64 a, Value.int IntKind.u64 b]), (1, Rw.mk Kd.old rs), (2, Rw.mk Kd.old xs), (7, Rw.mk Kd.shut []), (8, Rw.mk (Kd.room 1 [Value.int IntKind.u8 (0 : Int)]) ([] ++
 List.take m xs)), (9, Rw.mk Kd.shut [Value.int IntKind.u64 a, Value.int IntKind.u64 b, Value.int IntKind.i64 (0 : Int), Value.int IntKind.i64 (1 : Int), Value.int IntKind.i64 (1 : Int), Value.slice (some (Addr.mk 8 0
 none)) (0 + m) (capBig + 8)])], 21 = 21, lk [(20, Rw.mk Kd.shut [Value.int IntKind.u64 (0 : Int), Value.int IntKind.u64 (0 : Int)]), (17, Rw.mk Kd.shut [Value.pointer (some (Addr.mk 4 0 none))]), (16, Rw.mk Kd.shut
 [Value.int IntKind.i64 (0 : Int)]), (15, Rw.mk Kd.shut [Value.int IntKind.u64 a, Value.int IntKind.u64 b, Value.int IntKind.i64 (0 : Int), Value.int IntKind.i64 (1 : Int), Value.int IntKind.i64 (1 : Int), Value.slice
 (some (Addr.mk 8 0 none)) (0 + m) (capBig + 8)]), (6, Rw.mk Kd.shut [Value.int IntKind.u64 (0 : Int), Value.int IntKind.u64 (0 : Int)]), (5, Rw.mk Kd.shut [Value.int IntKind.u64 a, Value.int IntKind.u64 b]), (4, Rw.mk
 Kd.shut [Value.int IntKind.u64 a, Value.int IntKind.u64 b, Value.int IntKind.i64 (0 : Int), Value.int IntKind.i64 (1 : Int), Value.int IntKind.i64 (1 : Int), Value.slice (some (Addr.mk 8 0 none)) (0 + m) (capBig + 8),
 Value.int IntKind.u64 (0 : Int), Value.int IntKind.u64 (0 : Int), Value.int IntKind.i64 (0 : Int), Value.int IntKind.i64 (0 : Int), Value.int IntKind.i64 (0 : Int), Value.slice none 0 0, Value.int IntKind.u64 (0 : Int),
 Value.int IntKind.u64 (0 : Int), Value.int IntKind.i64 (0 : Int), Value.int IntKind.i64 (0 : Int), Value.int IntKind.i64 (0 : Int), Value.slice none 0 0, Value.int IntKind.u64 (0 : Int), Value.int IntKind.u64 (0 : Int),
 Value.int IntKind.i64 (0 : Int), Value.int IntKind.i64 (0 : Int), Value.int IntKind.i64 (0 : Int), Value.slice none 0 0, Value.int IntKind.i64 (1 : Int), Value.bool true]), (3, Rw.mk Kd.shut [Value.int IntKind.u64 a,
 Value.int IntKind.u64 b]), (1, Rw.mk Kd.old rs), (2, Rw.mk Kd.old xs), (7, Rw.mk Kd.shut []), (8, Rw.mk (Kd.room 1 [Value.int IntKind.u8 (0 : Int)]) ([] ++ List.take m xs)), (9, Rw.mk Kd.shut [Value.int IntKind.u64 a,
 Value.int IntKind.u64 b, Value.int IntKind.i64 (0 : Int), Value.int IntKind.i64 (1 : Int), Value.int IntKind.i64 (1 : Int), Value.slice (some (Addr.mk 8 0 none)) (0 + m) (capBig + 8)])] 0 = none, lk [(20, Rw.mk Kd.shut
 [Value.int IntKind.u64 (0 : Int), Value.int IntKind.u64 (0 : Int)]), (17, Rw.mk Kd.shut [Value.pointer (some (Addr.mk 4 0 none))]), (16, Rw.mk Kd.shut [Value.int IntKind.i64 (0 : Int)]), (15, Rw.mk Kd.shut [Value.int
 IntKind.u64 a, Value.int IntKind.u64 b, Value.int IntKind.i64 (0 : Int), Value.int IntKind.i64 (1 : Int), Value.int IntKind.i64 (1 : Int), Value.slice (some (Addr.mk 8 0 none)) (0 + m) (capBig + 8)]), (6, Rw.mk Kd.shut
 [Value.int IntKind.u64 (0 : Int), Value.int IntKind.u64 (0 : Int)]), (5, Rw.mk Kd.shut [Value.int IntKind.u64 a, Value.int IntKind.u64 b]), (4, Rw.mk Kd.shut [Value.int IntKind.u64 a, Value.int IntKind.u64 b, Value.int
 IntKind.i64 (0 : Int), Value.int IntKind.i64 (1 : Int), Value.int IntKind.i64 (1 : Int), Value.slice (some (Addr.mk 8 0 none)) (0 + m) (capBig + 8), Value.int IntKind.u64 (0 : Int), Value.int IntKind.u64 (0 : Int),
 Value.int IntKind.i64 (0 : Int), Value.int IntKind.i64 (0 : Int), Value.int IntKind.i64 (0 : Int), Value.slice none 0 0, Value.int IntKind.u64 (0 : Int), Value.int IntKind.u64 (0 : Int), Value.int IntKind.i64 (0 : Int),
 Value.int IntKind.i64 (0 : Int), Value.int IntKind.i64 (0 : Int), Value.slice none 0 0, Value.int IntKind.u64 (0 : Int), Value.int IntKind.u64 (0 : Int), Value.int IntKind.i64 (0 : Int), Value.int IntKind.i64 (0 : Int),
 Value.int IntKind.i64 (0 : Int), Value.slice none 0 0, Value.int IntKind.i64 (1 : Int), Value.bool true]), (3, Rw.mk Kd.shut [Value.int IntKind.u64 a, Value.int IntKind.u64 b]), (1, Rw.mk Kd.old rs), (2, Rw.mk Kd.old xs),
 (7, Rw.mk Kd.shut []), (8, Rw.mk (Kd.room 1 [Value.int IntKind.u8 (0 : Int)]) ([] ++ List.take m xs)), (9, Rw.mk Kd.shut [Value.int IntKind.u64 a, Value.int IntKind.u64 b, Value.int IntKind.i64 (0 : Int), Value.int
 IntKind.i64 (1 : Int), Value.int IntKind.i64 (1 : Int), Value.slice (some (Addr.mk 8 0 none)) (0 + m) (capBig + 8)])] 1 = some (Rw.mk Kd.old rs), lk [(20, Rw.mk Kd.shut [Value.int IntKind.u64 (0 : Int), Value.int
 IntKind.u64 (0 : Int)]), (17, Rw.mk Kd.shut [Value.pointer (some (Addr.mk 4 0 none))]), (16, Rw.mk Kd.shut [Value.int IntKind.i64 (0 : Int)]), (15, Rw.mk Kd.shut [Value.int IntKind.u64 a, Value.int IntKind.u64 b,
 Value.int IntKind.i64 (0 : Int), Value.int IntKind.i64 (1 : Int), Value.int IntKind.i64 (1 : Int), Value.slice (some (Addr.mk 8 0 none)) (0 + m) (capBig + 8)]), (6, Rw.mk Kd.shut [Value.int IntKind.u64 (0 : Int),
 Value.int IntKind.u64 (0 : Int)]), (5, Rw.mk Kd.shut [Value.int IntKind.u64 a, Value.int IntKind.u64 b]), (4, Rw.mk Kd.shut [Value.int IntKind.u64 a, Value.int IntKind.u64 b, Value.int IntKind.i64 (0 : Int), Value.int
 IntKind.i64 (1 : Int), Value.int IntKind.i64 (1 : Int), Value.slice (some (Addr.mk 8 0 none)) (0 + m) (capBig + 8), Value.int IntKind.u64 (0 : Int), Value.int IntKind.u64 (0 : Int), Value.int IntKind.i64 (0 : Int),
 Value.int IntKind.i64 (0 : Int), Value.int IntKind.i64 (0 : Int), Value.slice none 0 0, Value.int IntKind.u64 (0 : Int), Value.int IntKind.u64 (0 : Int), Value.int IntKind.i64 (0 : Int), Value.int IntKind.i64 (0 : Int),
 Value.int IntKind.i64 (0 : Int), Value.slice none 0 0, Value.int IntKind.u64 (0 : Int), Value.int IntKind.u64 (0 : Int), Value.int IntKind.i64 (0 : Int), Value.int IntKind.i64 (0 : Int), Value.int IntKind.i64 (0 : Int),
 Value.slice none 0 0, Value.int IntKind.i64 (1 : Int), Value.bool true]), (3, Rw.mk Kd.shut [Value.int IntKind.u64 a, Value.int IntKind.u64 b]), (1, Rw.mk Kd.old rs), (2, Rw.mk Kd.old xs), (7, Rw.mk Kd.shut []), (8, Rw.mk
 (Kd.room 1 [Value.int IntKind.u8 (0 : Int)]) ([] ++ List.take m xs)), (9, Rw.mk Kd.shut [Value.int IntKind.u64 a, Value.int IntKind.u64 b, Value.int IntKind.i64 (0 : Int), Value.int IntKind.i64 (1 : Int), Value.int
 IntKind.i64 (1 : Int), Value.slice (some (Addr.mk 8 0 none)) (0 + m) (capBig + 8)])] 2 = some (Rw.mk Kd.old xs), lk [(20, Rw.mk Kd.shut [Value.int IntKind.u64 (0 : Int), Value.int IntKind.u64 (0 : Int)]), (17, Rw.mk
 Kd.shut [Value.pointer (some (Addr.mk 4 0 none))]), (16, Rw.mk Kd.shut [Value.int IntKind.i64 (0 : Int)]), (15, Rw.mk Kd.shut [Value.int IntKind.u64 a, Value.int IntKind.u64 b, Value.int IntKind.i64 (0 : Int), Value.int
 IntKind.i64 (1 : Int), Value.int IntKind.i64 (1 : Int), Value.slice (some (Addr.mk 8 0 none)) (0 + m) (capBig + 8)]), (6, Rw.mk Kd.shut [Value.int IntKind.u64 (0 : Int), Value.int IntKind.u64 (0 : Int)]), (5, Rw.mk
 Kd.shut [Value.int IntKind.u64 a, Value.int IntKind.u64 b]), (4, Rw.mk Kd.shut [Value.int IntKind.u64 a, Value.int IntKind.u64 b, Value.int IntKind.i64 (0 : Int), Value.int IntKind.i64 (1 : Int), Value.int IntKind.i64 (1
 : Int), Value.slice (some (Addr.mk 8 0 none)) (0 + m) (capBig + 8), Value.int IntKind.u64 (0 : Int), Value.int IntKind.u64 (0 : Int), Value.int IntKind.i64 (0 : Int), Value.int IntKind.i64 (0 : Int), Value.int IntKind.i64
 (0 : Int), Value.slice none 0 0, Value.int IntKind.u64 (0 : Int), Value.int IntKind.u64 (0 : Int), Value.int IntKind.i64 (0 : Int), Value.int IntKind.i64 (0 : Int), Value.int IntKind.i64 (0 : Int), Value.slice none 0 0,
 Value.int IntKind.u64 (0 : Int), Value.int IntKind.u64 (0 : Int), Value.int IntKind.i64 (0 : Int), Value.int IntKind.i64 (0 : Int), Value.int IntKind.i64 (0 : Int), Value.slice none 0 0, Value.int IntKind.i64 (1 : Int),
 Value.bool true]), (3, Rw.mk Kd.shut [Value.int IntKind.u64 a, Value.int IntKind.u64 b]), (1, Rw.mk Kd.old rs), (2, Rw.mk Kd.old xs), (7, Rw.mk Kd.shut []), (8, Rw.mk (Kd.room 1 [Value.int IntKind.u8 (0 : Int)]) ([] ++
 List.take m xs)), (9, Rw.mk Kd.shut [Value.int IntKind.u64 a, Value.int IntKind.u64 b, Value.int IntKind.i64 (0 : Int), Value.int IntKind.i64 (1 : Int), Value.int IntKind.i64 (1 : Int), Value.slice (some (Addr.mk 8 0
 none)) (0 + m) (capBig + 8)])] 3 = some (Rw.mk Kd.shut [Value.int IntKind.u64 a, Value.int IntKind.u64 b]), lk [(20, Rw.mk Kd.shut [Value.int IntKind.u64 (0 : Int), Value.int IntKind.u64 (0 : Int)]), (17, Rw.mk Kd.shut
 [Value.pointer (some (Addr.mk 4 0 none))]), (16, Rw.mk Kd.shut [Value.int IntKind.i64 (0 : Int)]), (15, Rw.mk Kd.shut [Value.int IntKind.u64 a, Value.int IntKind.u64 b, Value.int IntKind.i64 (0 : Int), Value.int
 IntKind.i64 (1 : Int), Value.int IntKind.i64 (1 : Int), Value.slice (some (Addr.mk 8 0 none)) (0 + m) (capBig + 8)]), (6, Rw.mk Kd.shut [Value.int IntKind.u64 (0 : Int), Value.int IntKind.u64 (0 : Int)]), (5, Rw.mk
 Kd.shut [Value.int IntKind.u64 a, Value.int IntKind.u64 b]), (4, Rw.mk Kd.shut [Value.int IntKind.u64 a, Value.int IntKind.u64 b, Value.int IntKind.i64 (0 : Int), Value.int IntKind.i64 (1 : Int), Value.int IntKind.i64 (1
 : Int), Value.slice (some (Addr.mk 8 0 none)) (0 + m) (capBig + 8), Value.int IntKind.u64 (0 : Int), Value.int IntKind.u64 (0 : Int), Value.int IntKind.i64 (0 : Int), Value.int IntKind.i64 (0 : Int), Value.int IntKind.i64
 (0 : Int), Value.slice none 0 0, Value.int IntKind.u64 (0 : Int), Value.int IntKind.u64 (0 : Int), Value.int IntKind.i64 (0 : Int), Value.int IntKind.i64 (0 : Int), Value.int IntKind.i64 (0 : Int), Value.slice none 0 0,
 Value.int IntKind.u64 (0 : Int), Value.int IntKind.u64 (0 : Int), Value.int IntKind.i64 (0 : Int), Value.int IntKind.i64 (0 : Int), Value.int IntKind.i64 (0 : Int), Value.slice none 0 0, Value.int IntKind.i64 (1 : Int),
 Value.bool true]), (3, Rw.mk Kd.shut [Value.int IntKind.u64 a, Value.int IntKind.u64 b]), (1, Rw.mk Kd.old rs), (2, Rw.mk Kd.old xs), (7, Rw.mk Kd.shut []), (8, Rw.mk (Kd.room 1 [Value.int IntKind.u8 (0 : Int)]) ([] ++
 List.take m xs)), (9, Rw.mk Kd.shut [Value.int IntKind.u64 a, Value.int IntKind.u64 b, Value.int IntKind.i64 (0 : Int), Value.int IntKind.i64 (1 : Int), Value.int IntKind.i64 (1 : Int), Value.slice (some (Addr.mk 8 0
 none)) (0 + m) (capBig + 8)])] 4 = some (Rw.mk Kd.shut [Value.int IntKind.u64 a, Value.int IntKind.u64 b, Value.int IntKind.i64 (0 : Int), Value.int IntKind.i64 (1 : Int), Value.int IntKind.i64 (1 : Int), Value.slice
 (some (Addr.mk 8 0 none)) (0 + m) (capBig + 8), Value.int IntKind.u64 (0 : Int), Value.int IntKind.u64 (0 : Int), Value.int IntKind.i64 (0 : Int), Value.int IntKind.i64 (0 : Int), Value.int IntKind.i64 (0 : Int),
 Value.slice none 0 0, Value.int IntKind.u64 (0 : Int), Value.int IntKind.u64 (0 : Int), Value.int IntKind.i64 (0 : Int), Value.int IntKind.i64 (0 : Int), Value.int IntKind.i64 (0 : Int), Value.slice none 0 0, Value.int
 IntKind.u64 (0 : Int), Value.int IntKind.u64 (0 : Int), Value.int IntKind.i64 (0 : Int), Value.int IntKind.i64 (0 : Int), Value.int IntKind.i64 (0 : Int), Value.slice none 0 0, Value.int IntKind.i64 (1 : Int), Value.bool
 true]), lk [(20, Rw.mk Kd.shut [Value.int IntKind.u64 (0 : Int), Value.int IntKind.u64 (0 : Int)]), (17, Rw.mk Kd.shut [Value.pointer (some (Addr.mk 4 0 none))]), (16, Rw.mk Kd.shut [Value.int IntKind.i64 (0 : Int)]),
 (15, Rw.mk Kd.shut [Value.int IntKind.u64 a, Value.int IntKind.u64 b, Value.int IntKind.i64 (0 : Int), Value.int IntKind.i64 (1 : Int), Value.int IntKind.i64 (1 : Int), Value.slice (some (Addr.mk 8 0 none)) (0 + m)
 (capBig + 8)]), (6, Rw.mk Kd.shut [Value.int IntKind.u64 (0 : Int), Value.int IntKind.u64 (0 : Int)]), (5, Rw.mk Kd.shut [Value.int IntKind.u64 a, Value.int IntKind.u64 b]), (4, Rw.mk Kd.shut [Value.int IntKind.u64 a,
 Value.int IntKind.u64 b, Value.int IntKind.i64 (0 : Int), Value.int IntKind.i64 (1 : Int), Value.int IntKind.i64 (1 : Int), Value.slice (some (Addr.mk 8 0 none)) (0 + m) (capBig + 8), Value.int IntKind.u64 (0 : Int),
 Value.int IntKind.u64 (0 : Int), Value.int IntKind.i64 (0 : Int), Value.int IntKind.i64 (0 : Int), Value.int IntKind.i64 (0 : Int), Value.slice none 0 0, Value.int IntKind.u64 (0 : Int), Value.int IntKind.u64 (0 : Int),
 Value.int IntKind.i64 (0 : Int), Value.int IntKind.i64 (0 : Int), Value.int IntKind.i64 (0 : Int), Value.slice none 0 0, Value.int IntKind.u64 (0 : Int), Value.int IntKind.u64 (0 : Int), Value.int IntKind.i64 (0 : Int),
 Value.int IntKind.i64 (0 : Int), Value.int IntKind.i64 (0 : Int), Value.slice none 0 0, Value.int IntKind.i64 (1 : Int), Value.bool true]), (3, Rw.mk Kd.shut [Value.int IntKind.u64 a, Value.int IntKind.u64 b]), (1, Rw.mk
 Kd.old rs), (2, Rw.mk Kd.old xs), (7, Rw.mk Kd.shut []), (8, Rw.mk (Kd.room 1 [Value.int IntKind.u8 (0 : Int)]) ([] ++ List.take m xs)), (9, Rw.mk Kd.shut [Value.int IntKind.u64 a, Value.int IntKind.u64 b, Value.int
 IntKind.i64 (0 : Int), Value.int IntKind.i64 (1 : Int), Value.int IntKind.i64 (1 : Int), Value.slice (some (Addr.mk 8 0 none)) (0 + m) (capBig + 8)])] 8 = some (rbr ([] ++ List.take m xs)), SoF rs n c, SoX xs m d, Fl ([]
 ++ List.take m xs)]) := by kernel_rfl
theorem so_nn (a b : Int) : prjV (runZ (soV 0 4 noL) Try.prog 9 3 [.agg ⟨[.int .u64 a, .int .u64 b]⟩, .slice none 0 0, .slice none 0 0] [] 3 [false, false, false, false, true, true, false, false]) =
  Res.ok (Value.bool true, [], [(a == (0 : Int) && (b == (0 : Int) && true)) = false, false = false, false = false, (a == (0 : Int) && (b == (0 : Int) && true)) = false, true = true, true = true, false = false, false =
 false]) := by kernel_rfl
theorem so_ne (a b : Int) (xs : List Value) (d : Nat) : prjV (runZ (soV 0 4 noL) Try.prog 9 3 [.agg ⟨[.int .u64 a, .int .u64 b]⟩, .slice none 0 0, .slice (some ⟨2, 0, none⟩) 0 d] [(2, ⟨.old, xs⟩)] 3 [false, false, false, false, true, true, false, false]) =
  Res.ok (Value.bool true, [], [(a == (0 : Int) && (b == (0 : Int) && true)) = false, false = false, false = false, (a == (0 : Int) && (b == (0 : Int) && true)) = false, true = true, true = true, false = false, false =
 false]) := by kernel_rfl
theorem so_no (a b : Int) (xs : List Value) (m d : Nat) : prjV (runZ (soV 0 2 noL) Try.prog 9 3 [.agg ⟨[.int .u64 a, .int .u64 b]⟩, .slice none 0 0, .slice (some ⟨2, 0, none⟩) m d] [(2, ⟨.old, xs⟩)] 3 [false, false, false, false, true, true, false, false]) =
  Res.ok (Value.bool true, [], [(a == (0 : Int) && (b == (0 : Int) && true)) = false, false = false, decide ((↑m : Int) > (1024 : Int)) = false, (a == (0 : Int) && (b == (0 : Int) && true)) = false, true = true, true =
 true, decide ((↑m : Int) > (1024 : Int)) = false, 0 < 18446744073709551616, 0 < 0 + m, 0 ≤ 0, (0 + m) * 1 ≤ 140737488355328 ∧ 0 + m ≤ 9223372036854775807, m ≤ List.length xs, all1 (List.take m xs) = true, false = false]) := by kernel_rfl
theorem so_znn (a b : Int) : prjV (runZ (soV 0 4 noL) Try.prog 9 3 [.agg ⟨[.int .u64 a, .int .u64 b]⟩, .slice none 0 0, .slice none 0 0] [] 3 [true]) =
  Res.ok (Value.bool true, [], [(a == (0 : Int) && (b == (0 : Int) && true)) = true]) := by kernel_rfl
theorem so_zno (a b : Int) (xs : List Value) (m d : Nat) : prjV (runZ (soV 0 2 noL) Try.prog 9 3 [.agg ⟨[.int .u64 a, .int .u64 b]⟩, .slice none 0 0, .slice (some ⟨2, 0, none⟩) m d] [(2, ⟨.old, xs⟩)] 3 [true]) =
  Res.ok (Value.bool true, [], [(a == (0 : Int) && (b == (0 : Int) && true)) = true]) := by kernel_rfl
theorem so_zon (a b : Int) (rs : List Value) (n c : Nat) : prjV (runZ (soV 0 2 noL) Try.prog 9 3 [.agg ⟨[.int .u64 a, .int .u64 b]⟩, .slice (some ⟨1, 0, none⟩) n c, .slice none 0 0] [(1, ⟨.old, rs⟩)] 3 [true]) =
  Res.ok (Value.bool true, [], [(a == (0 : Int) && (b == (0 : Int) && true)) = true]) := by kernel_rfl
theorem so_zoo (a b : Int) (rs xs : List Value) (n c m d : Nat) : prjV (runZ (soV 0 2 noL) Try.prog 9 3 [.agg ⟨[.int .u64 a, .int .u64 b]⟩, .slice (some ⟨1, 0, none⟩) n c, .slice (some ⟨2, 0, none⟩) m d] [(1, ⟨.old, rs⟩), (2, ⟨.old, xs⟩)] 3 [true]) =
  Res.ok (Value.bool true, [], [(a == (0 : Int) && (b == (0 : Int) && true)) = true]) := by kernel_rfl
theorem so_ron (a b : Int) (rs : List Value) (n c : Nat) : prjV (runZ (soV 0 2 noL) Try.prog 9 3 [.agg ⟨[.int .u64 a, .int .u64 b]⟩, .slice (some ⟨1, 0, none⟩) n c, .slice none 0 0] [(1, ⟨.old, rs⟩)] 3 [false, true]) =
  Res.ok (Value.bool true, [], [(a == (0 : Int) && (b == (0 : Int) && true)) = false, decide ((↑n : Int) > (40 : Int)) = true]) := by kernel_rfl
theorem so_roo (a b : Int) (rs xs : List Value) (n c m d : Nat) : prjV (runZ (soV 0 2 noL) Try.prog 9 3 [.agg ⟨[.int .u64 a, .int .u64 b]⟩, .slice (some ⟨1, 0, none⟩) n c, .slice (some ⟨2, 0, none⟩) m d] [(1, ⟨.old, rs⟩), (2, ⟨.old, xs⟩)] 3 [false, true]) =
  Res.ok (Value.bool true, [], [(a == (0 : Int) && (b == (0 : Int) && true)) = false, decide ((↑n : Int) > (40 : Int)) = true]) := by kernel_rfl
theorem so_bno (a b : Int) (xs : List Value) (m d : Nat) : prjV (runZ (soV 0 2 noL) Try.prog 9 3 [.agg ⟨[.int .u64 a, .int .u64 b]⟩, .slice none 0 0, .slice (some ⟨2, 0, none⟩) m d] [(2, ⟨.old, xs⟩)] 3 [false, false, true]) =
  Res.ok (Value.bool true, [], [(a == (0 : Int) && (b == (0 : Int) && true)) = false, false = false, decide ((↑m : Int) > (1024 : Int)) = true]) := by kernel_rfl
theorem so_boo (a b : Int) (rs xs : List Value) (n c m d : Nat) : prjV (runZ (soV 0 2 noL) Try.prog 9 3 [.agg ⟨[.int .u64 a, .int .u64 b]⟩, .slice (some ⟨1, 0, none⟩) n c, .slice (some ⟨2, 0, none⟩) m d] [(1, ⟨.old, rs⟩), (2, ⟨.old, xs⟩)] 3 [false, false, true]) =
  Res.ok (Value.bool true, [], [(a == (0 : Int) && (b == (0 : Int) && true)) = false, decide ((↑n : Int) > (40 : Int)) = false, decide ((↑m : Int) > (1024 : Int)) = true]) := by kernel_rfl
end Go.Proofs.Ytdcakhahagbedaa
