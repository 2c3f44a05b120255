/-
  Chapter 22: the statement SessionBack, at any bytes.
-/
import Derived.Test.YtdcakhahagbedaaSbI
import Derived.Test.YtdcakhahagbedaaSbIa
import Derived.Test.YtdcakhahagbedaaSbIb
import Derived.Test.YtdcakhahagbedaaSbJ
import Derived.Test.YtdcakhahagbedaaKitX
import Derived.Test.YtdcakhahagbedaaKitT
import Derived.Test.YtdcakhahagbedaaOpenSl
namespace Go.Proofs.Ytdcakhahagbedaa
set_option linter.unusedSimpArgs false
set_option linter.unusedVariables false
set_option linter.unusedSectionVars false
open Go Go.RowKit

def c4 (n : Int) : List Value := [.int .u8 n, .int .u8 0, .int .u8 0, .int .u8 0]
theorem w60 : w6 0 ∧ w6 0 := by unfold w6; omega
theorem fl_tab0 : Fl tab0 := fun f => renL_app (renL_app (renL_app (renL_app rb_z rb_z) rb_z) rb_z) rb_n
theorem lpF_ok (xs : List Value) (hd : RS) (hv : Int) : LSOk Try.prog 96 [4, 5, 6, 7, 18, 19] (sbB Try.prog) (lpF xs hd hv) := by
  refine lspec_ok fun h tp xt l2 h2 nx2 d tp' ob hs ho inr ts hn hg => ?_
  simp only at hs hg
  simp only [Option.some.injEq, Prod.mk.injEq] at hs
  obtain ⟨⟨rfl, rfl, rfl, rfl, rfl⟩, rfl, rfl⟩ := hs
  obtain ⟨g1, g2⟩ := Alls_app.1 ho
  obtain ⟨e0, e1, e2, e3, _⟩ := g1
  obtain ⟨⟨hi, k, rfl, hk, hr⟩, _⟩ := g2
  have key := sb_fail (inr := inr) (h0 := h) (k := k) k hd 0 0 [] hr (by simp) hk hi w60 (fun e he => by cases he)
  have hC : hd.C < capBig := by have := hi.c; unfold capBig; omega
  refine LRuns.enter (N := 8) (l2 := sbS (k : Int) 0) (h2 := sbH xs tab0 hd 0 0 []) hn hg (Nat.le_of_ble_eq_true rfl) (Nat.le_of_ble_eq_true rfl) (fun n => n) ⟨rfl, rb_ptr rfl, rfl, rb_ptr rfl, rfl, rfl, rfl, rb_ptr rfl, rfl, rfl, rfl, rfl, trivial⟩ ⟨rb_row (m := 3) rfl e3 rfl rfl (Fl.of rfl), rb_row (m := 2) rfl e2 rfl rfl fl_tab0, ⟨1, _, rfl, e1, rfl, rfl, .inl (rb_rd rfl hC)⟩, rb_old (Nat.le_of_ble_eq_true rfl) e0 (fl_byts hi.y), trivial⟩ rfl key ?_
  refine tidy_of (Nat.le_of_ble_eq_true rfl) (fun m hm hd => ?_) rfl
  have hm2 : m < 4 := hm
  simp only [List.mem_cons, List.not_mem_nil, or_false, not_or] at hd
  omega
theorem rows_lk : ∀ es : List Se, es.length ≤ 4 → ∀ m, m < 4 → lk (rowsL es) m = none
  | [], _, m, h => rfl
  | [_], _, m, h => by simp only [rowsL]; rw [lk_cons, if_neg (by omega)]; rfl
  | [_, _], _, m, h => by simp only [rowsL]; rw [lk_cons, if_neg (by omega), lk_cons, if_neg (by omega)]; rfl
  | [_, _, _], _, m, h => by simp only [rowsL]; rw [lk_cons, if_neg (by omega), lk_cons, if_neg (by omega), lk_cons, if_neg (by omega)]; rfl
  | [_, _, _, _], _, m, h => by simp only [rowsL]; rw [lk_cons, if_neg (by omega), lk_cons, if_neg (by omega), lk_cons, if_neg (by omega), lk_cons, if_neg (by omega)]; rfl
  | _ :: _ :: _ :: _ :: _ :: _, h, _, _ => by simp at h
theorem out_bd (xs : List Value) (s : RS) : ∀ es : List Se, es.length ≤ 4 → bdB (sbO xs es s).2.2 60 = true
  | [], _ => rfl
  | [_], _ => rfl
  | [_, _], _ => rfl
  | [_, _, _], _ => rfl
  | [_, _, _, _], _ => rfl
  | _ :: _ :: _ :: _ :: _ :: _, h => by simp at h
theorem rd_len {xs : List Value} : ∀ {r : Nat} {s : RS} {a b : Int} {es es' : List Se} {s' : RS}, Rd xs r s a b es (some (es', s')) → es'.length = es.length + r
  | 0, s, a, b, es, es', s', h => by cases h; rfl
  | r + 1, s, a, b, es, es', s', h => by
      cases h with
      | next h1 h2 h3 => have := rd_len h3; rw [this, List.length_append]; simp; omega
theorem rd_se {xs : List Value} : ∀ {r : Nat} {s : RS} {a b : Int} {es es' : List Se} {s' : RS}, Rd xs r s a b es (some (es', s')) → RI xs s → (∀ e ∈ es, SeF e a b) → ∀ e ∈ es', ∃ c d, SeF e c d
  | 0, s, a, b, es, es', s', h, hi, S => by cases h; exact fun e he => ⟨_, _, S e he⟩
  | r + 1, s, a, b, es, es', s', h, hi, S => by
      cases h with
      | next h1 h2 h3 =>
        have F := rnN_F hi
        have i3 : RI xs (rnN xs s).g3 := by rw [F.f3.t]; exact F.f3.i.nx 4
        have lt := h2.c
        exact rd_se h3 (i3.nx _) (fun e he => by
          rcases List.mem_append.1 he with h | h
          · exact (S e h).up (Int.le_of_lt lt)
          · rw [List.mem_singleton.1 h]; exact seN_F F h2)
theorem lpO_ok (xs : List Value) (hd : RS) (hv : Int) (es : List Se) (s : RS) : LSOk Try.prog 96 [4, 5, 6, 7, 18, 19] (sbB Try.prog) (lpO xs hd hv es s) := by
  refine lspec_ok fun h tp xt l2 h2 nx2 d tp' ob hs ho inr ts hn hg => ?_
  simp only at hs hg
  simp only [Option.some.injEq, Prod.mk.injEq] at hs
  obtain ⟨⟨rfl, rfl, rfl, rfl, rfl⟩, rfl, rfl⟩ := hs
  obtain ⟨g1, g2⟩ := Alls_app.1 ho
  obtain ⟨e0, e1, e2, e3, _⟩ := g1
  obtain ⟨⟨hi, k, rfl, hk, hr⟩, _⟩ := g2
  have key := sb_done (inr := inr) (h0 := h) (k := k) k hd 0 0 [] es s hr (by simp) hk hi w60 (fun e he => by cases he)
  have hC : hd.C < capBig := by have := hi.c; unfold capBig; omega
  have hl : es.length ≤ 4 := by have := rd_len hr; simp at this; omega
  refine LRuns.enter (N := 8) (l2 := sbS (k : Int) 0) (h2 := sbH xs tab0 hd 0 0 []) hn hg (Nat.le_of_ble_eq_true rfl) (Nat.le_of_ble_eq_true rfl) (fun n => n) ⟨rfl, rb_ptr rfl, rfl, rb_ptr rfl, rfl, rfl, rfl, rb_ptr rfl, rfl, rfl, rfl, rfl, trivial⟩ ⟨rb_row (m := 3) rfl e3 rfl rfl (Fl.of rfl), rb_row (m := 2) rfl e2 rfl rfl fl_tab0, ⟨1, _, rfl, e1, rfl, rfl, .inl (rb_rd rfl hC)⟩, rb_old (Nat.le_of_ble_eq_true rfl) e0 (fl_byts hi.y), trivial⟩ rfl key ?_
  refine tidy_of (Nat.le_of_ble_eq_true rfl) (fun m hm hd => ?_) (out_bd xs s es hl)
  have hm2 : m < 4 := hm
  simp only [List.mem_cons, List.not_mem_nil, or_false, not_or] at hd
  obtain rfl : m = 0 := by omega
  show lk (sbO xs es s).2.2 0 = _
  rw [e0]
  rfl
theorem sbkT_one (hd : RS) (hv : Int) : TOneZ Try.prog (sbkT hd hv) := orTz_ok (mkT_one aw_gok) (orTz_ok (mkT_one same_ok) (orTz_ok (mkT_one by_i_gok) (nbT_one _)))
theorem sbk_X (hd : RS) (hv : Int) (L : LFun) : XOkZ (sbkV hd hv L) Try.prog := noXz_ok rfl
theorem sbk_T (hd : RS) (hv : Int) (L : LFun) : TOkZ (sbkV hd hv L) Try.prog := T_okV rfl (sbkT_one hd hv)
structure RbOk (a : Sa) : Prop where
  y : Byts a.xs
  l : a.xs.length = a.n
  c : a.n ≤ a.c ∧ a.c ≤ 9223372036854775807
  z : a.b = false → a.n = 0
def SbRt (a : Sa) : Prop := RunsTrue Try.prog 8 [saV 0 a] (saH 0 a []) 1
set_option maxHeartbeats 8000000 in
theorem sb_k0 {xs : List Value} {n c : Nat} {hd s : RS} {hv : Int} (LO : LOkZ (sbkV hd hv (sbkL Try.prog (lpO xs hd hv [] s))) Try.prog) (hLp : LpF xs hd hv (some ([], s))) (NF : NbF xs ⟨0, n, c, false⟩ hd hv) (d4 : decide (hv > 4) = false) (d6 : decide ((n : Int) > 6000) = false) (hB : s.B = false) (dL : decide ((s.L : Int) > 0) = false) (hy : Byts xs) (hl : xs.length = n) (hc : n ≤ c ∧ c ≤ 9223372036854775807) (hn : n ≤ 6000) (eW : [].foldl apE (c4 0) = xs) :
    RunsTrue Try.prog 8 [.slice (some ⟨0, 0, none⟩) n c] [(0, ⟨.old, xs⟩)] 1 := by
  have hlen := congrArg List.length eW
  rw [hl] at hlen
  simp only [List.foldl, apE, d8, c4, b4s, bN, List.length_append, List.length_cons, List.length_nil] at hlen
  simp only [List.foldl, apE, d8, c4, b4s, bN, List.cons_append, List.nil_append, List.append_assoc] at eW
  have hBy : ∀ N, Byts (List.take N xs) := fun N => hy.take N
  have hF : ∀ N, Fl (List.take N xs) := fun N => fl_byts (hBy N)
  have hD : ∀ N, N = n → decide (intsOf (List.take N xs) = intsOf (List.take n xs)) = true := fun N e => by rw [e]; exact decide_eq_true rfl
  have yN : Byts (List.take n xs) := hy.take n
  have fN : Fl (List.take n xs) := fl_byts yN
  have hr := fun o => run_val (sbk_X _ _ _) (sbk_T _ _ _) LO (sbk_0 xs n c hd s hv) o rfl
  refine hr ?_
  repeat' (first | exact alls_nil | refine alls_cons ?_ ?_)
  all_goals first | with_reducible assumption | with_reducible rfl | omega | (dsimp only; simp only [List.length_append, List.length_cons, List.length_nil] <;> omega) | ((try dsimp only); simp only [List.cons_append, List.nil_append, List.append_assoc, eW]; first | exact hBy _ | exact hF _ | exact hD _ (by omega) | exact hy | exact fl_byts hy | (rw [take_len hl]; exact decide_eq_true rfl)) | rfl
set_option maxHeartbeats 8000000 in
theorem sb_k1 {xs : List Value} {n c : Nat} {hd s : RS} {hv : Int} {e0 : Se} (LO : LOkZ (sbkV hd hv (sbkL Try.prog (lpO xs hd hv [e0] s))) Try.prog) (hLp : LpF xs hd hv (some ([e0], s))) (NF : NbF xs ⟨0, n, c, false⟩ hd hv) (d4 : decide (hv > 4) = false) (d6 : decide ((n : Int) > 6000) = false) (hB : s.B = false) (dL : decide ((s.L : Int) > 0) = false) (hy : Byts xs) (hl : xs.length = n) (hc : n ≤ c ∧ c ≤ 9223372036854775807) (hn : n ≤ 6000) (l0 : e0.R.length = e0.n) (y0 : Byts e0.R) (n0 : e0.n ≤ 1024) (eW : [e0].foldl apE (c4 1) = xs) :
    RunsTrue Try.prog 8 [.slice (some ⟨0, 0, none⟩) n c] [(0, ⟨.old, xs⟩)] 1 := by
  have hlen := congrArg List.length eW
  rw [hl] at hlen
  simp only [List.foldl, apE, d8, c4, b4s, bN, List.length_append, List.length_cons, List.length_nil, l0] at hlen
  simp only [List.foldl, apE, d8, c4, b4s, bN, List.cons_append, List.nil_append, List.append_assoc] at eW
  have hBy : ∀ N, Byts (List.take N xs) := fun N => hy.take N
  have hF : ∀ N, Fl (List.take N xs) := fun N => fl_byts (hBy N)
  have hD : ∀ N, N = n → decide (intsOf (List.take N xs) = intsOf (List.take n xs)) = true := fun N e => by rw [e]; exact decide_eq_true rfl
  have yN : Byts (List.take n xs) := hy.take n
  have fN : Fl (List.take n xs) := fl_byts yN
  have a0 := all1_byts y0
  have t0 := take_len l0
  have hr := fun o => run_val (sbk_X _ _ _) (sbk_T _ _ _) LO (sbk_1 xs n c hd s hv e0) o rfl
  rw [t0] at hr
  refine hr ?_
  repeat' (first | exact alls_nil | refine alls_cons ?_ ?_)
  all_goals first | with_reducible assumption | with_reducible rfl | omega | (dsimp only; simp only [List.length_append, List.length_cons, List.length_nil, l0] <;> omega) | ((try dsimp only); simp only [List.cons_append, List.nil_append, List.append_assoc, eW]; first | exact hBy _ | exact hF _ | exact hD _ (by omega) | exact hy | exact fl_byts hy | (rw [take_len hl]; exact decide_eq_true rfl)) | rfl
set_option maxHeartbeats 8000000 in
theorem sb_k2 {xs : List Value} {n c : Nat} {hd s : RS} {hv : Int} {e0 e1 : Se} (LO : LOkZ (sbkV hd hv (sbkL Try.prog (lpO xs hd hv [e0, e1] s))) Try.prog) (hLp : LpF xs hd hv (some ([e0, e1], s))) (NF : NbF xs ⟨0, n, c, false⟩ hd hv) (d4 : decide (hv > 4) = false) (d6 : decide ((n : Int) > 6000) = false) (hB : s.B = false) (dL : decide ((s.L : Int) > 0) = false) (hy : Byts xs) (hl : xs.length = n) (hc : n ≤ c ∧ c ≤ 9223372036854775807) (hn : n ≤ 6000) (l0 : e0.R.length = e0.n) (y0 : Byts e0.R) (n0 : e0.n ≤ 1024) (l1 : e1.R.length = e1.n) (y1 : Byts e1.R) (n1 : e1.n ≤ 1024) (eW : [e0, e1].foldl apE (c4 2) = xs) :
    RunsTrue Try.prog 8 [.slice (some ⟨0, 0, none⟩) n c] [(0, ⟨.old, xs⟩)] 1 := by
  have hlen := congrArg List.length eW
  rw [hl] at hlen
  simp only [List.foldl, apE, d8, c4, b4s, bN, List.length_append, List.length_cons, List.length_nil, l0, l1] at hlen
  simp only [List.foldl, apE, d8, c4, b4s, bN, List.cons_append, List.nil_append, List.append_assoc] at eW
  have hBy : ∀ N, Byts (List.take N xs) := fun N => hy.take N
  have hF : ∀ N, Fl (List.take N xs) := fun N => fl_byts (hBy N)
  have hD : ∀ N, N = n → decide (intsOf (List.take N xs) = intsOf (List.take n xs)) = true := fun N e => by rw [e]; exact decide_eq_true rfl
  have yN : Byts (List.take n xs) := hy.take n
  have fN : Fl (List.take n xs) := fl_byts yN
  have a0 := all1_byts y0
  have t0 := take_len l0
  have a1 := all1_byts y1
  have t1 := take_len l1
  have hr := fun o => run_val (sbk_X _ _ _) (sbk_T _ _ _) LO (sbk_2 xs n c hd s hv e0 e1) o rfl
  rw [t0, t1] at hr
  refine hr ?_
  repeat' (first | exact alls_nil | refine alls_cons ?_ ?_)
  all_goals first | with_reducible assumption | with_reducible rfl | omega | (dsimp only; simp only [List.length_append, List.length_cons, List.length_nil, l0, l1] <;> omega) | ((try dsimp only); simp only [List.cons_append, List.nil_append, List.append_assoc, eW]; first | exact hBy _ | exact hF _ | exact hD _ (by omega) | exact hy | exact fl_byts hy | (rw [take_len hl]; exact decide_eq_true rfl)) | rfl
set_option maxHeartbeats 8000000 in
theorem sb_k3 {xs : List Value} {n c : Nat} {hd s : RS} {hv : Int} {e0 e1 e2 : Se} (LO : LOkZ (sbkV hd hv (sbkL Try.prog (lpO xs hd hv [e0, e1, e2] s))) Try.prog) (hLp : LpF xs hd hv (some ([e0, e1, e2], s))) (NF : NbF xs ⟨0, n, c, false⟩ hd hv) (d4 : decide (hv > 4) = false) (d6 : decide ((n : Int) > 6000) = false) (hB : s.B = false) (dL : decide ((s.L : Int) > 0) = false) (hy : Byts xs) (hl : xs.length = n) (hc : n ≤ c ∧ c ≤ 9223372036854775807) (hn : n ≤ 6000) (l0 : e0.R.length = e0.n) (y0 : Byts e0.R) (n0 : e0.n ≤ 1024) (l1 : e1.R.length = e1.n) (y1 : Byts e1.R) (n1 : e1.n ≤ 1024) (l2 : e2.R.length = e2.n) (y2 : Byts e2.R) (n2 : e2.n ≤ 1024) (eW : [e0, e1, e2].foldl apE (c4 3) = xs) :
    RunsTrue Try.prog 8 [.slice (some ⟨0, 0, none⟩) n c] [(0, ⟨.old, xs⟩)] 1 := by
  have hlen := congrArg List.length eW
  rw [hl] at hlen
  simp only [List.foldl, apE, d8, c4, b4s, bN, List.length_append, List.length_cons, List.length_nil, l0, l1, l2] at hlen
  simp only [List.foldl, apE, d8, c4, b4s, bN, List.cons_append, List.nil_append, List.append_assoc] at eW
  have hBy : ∀ N, Byts (List.take N xs) := fun N => hy.take N
  have hF : ∀ N, Fl (List.take N xs) := fun N => fl_byts (hBy N)
  have hD : ∀ N, N = n → decide (intsOf (List.take N xs) = intsOf (List.take n xs)) = true := fun N e => by rw [e]; exact decide_eq_true rfl
  have yN : Byts (List.take n xs) := hy.take n
  have fN : Fl (List.take n xs) := fl_byts yN
  have a0 := all1_byts y0
  have t0 := take_len l0
  have a1 := all1_byts y1
  have t1 := take_len l1
  have a2 := all1_byts y2
  have t2 := take_len l2
  have hr := fun o => run_val (sbk_X _ _ _) (sbk_T _ _ _) LO (sbk_3 xs n c hd s hv e0 e1 e2) o rfl
  rw [t0, t1, t2] at hr
  refine hr ?_
  repeat' (first | exact alls_nil | refine alls_cons ?_ ?_)
  all_goals first | with_reducible assumption | with_reducible rfl | omega | (dsimp only; simp only [List.length_append, List.length_cons, List.length_nil, l0, l1, l2] <;> omega) | ((try dsimp only); simp only [List.cons_append, List.nil_append, List.append_assoc, eW]; first | exact hBy _ | exact hF _ | exact hD _ (by omega) | exact hy | exact fl_byts hy | (rw [take_len hl]; exact decide_eq_true rfl)) | rfl
set_option maxHeartbeats 8000000 in
theorem sb_k4 {xs : List Value} {n c : Nat} {hd s : RS} {hv : Int} {e0 e1 e2 e3 : Se} (LO : LOkZ (sbkV hd hv (sbkL Try.prog (lpO xs hd hv [e0, e1, e2, e3] s))) Try.prog) (hLp : LpF xs hd hv (some ([e0, e1, e2, e3], s))) (NF : NbF xs ⟨0, n, c, false⟩ hd hv) (d4 : decide (hv > 4) = false) (d6 : decide ((n : Int) > 6000) = false) (hB : s.B = false) (dL : decide ((s.L : Int) > 0) = false) (hy : Byts xs) (hl : xs.length = n) (hc : n ≤ c ∧ c ≤ 9223372036854775807) (hn : n ≤ 6000) (l0 : e0.R.length = e0.n) (y0 : Byts e0.R) (n0 : e0.n ≤ 1024) (l1 : e1.R.length = e1.n) (y1 : Byts e1.R) (n1 : e1.n ≤ 1024) (l2 : e2.R.length = e2.n) (y2 : Byts e2.R) (n2 : e2.n ≤ 1024) (l3 : e3.R.length = e3.n) (y3 : Byts e3.R) (n3 : e3.n ≤ 1024) (eW : [e0, e1, e2, e3].foldl apE (c4 4) = xs) :
    RunsTrue Try.prog 8 [.slice (some ⟨0, 0, none⟩) n c] [(0, ⟨.old, xs⟩)] 1 := by
  have hlen := congrArg List.length eW
  rw [hl] at hlen
  simp only [List.foldl, apE, d8, c4, b4s, bN, List.length_append, List.length_cons, List.length_nil, l0, l1, l2, l3] at hlen
  simp only [List.foldl, apE, d8, c4, b4s, bN, List.cons_append, List.nil_append, List.append_assoc] at eW
  have hBy : ∀ N, Byts (List.take N xs) := fun N => hy.take N
  have hF : ∀ N, Fl (List.take N xs) := fun N => fl_byts (hBy N)
  have hD : ∀ N, N = n → decide (intsOf (List.take N xs) = intsOf (List.take n xs)) = true := fun N e => by rw [e]; exact decide_eq_true rfl
  have yN : Byts (List.take n xs) := hy.take n
  have fN : Fl (List.take n xs) := fl_byts yN
  have a0 := all1_byts y0
  have t0 := take_len l0
  have a1 := all1_byts y1
  have t1 := take_len l1
  have a2 := all1_byts y2
  have t2 := take_len l2
  have a3 := all1_byts y3
  have t3 := take_len l3
  have hr := fun o => run_val (sbk_X _ _ _) (sbk_T _ _ _) LO (sbk_4 xs n c hd s hv e0 e1 e2 e3) o rfl
  rw [t0, t1, t2, t3] at hr
  refine hr ?_
  repeat' (first | exact alls_nil | refine alls_cons ?_ ?_)
  all_goals first | with_reducible assumption | with_reducible rfl | omega | (dsimp only; simp only [List.length_append, List.length_cons, List.length_nil, l0, l1, l2, l3] <;> omega) | ((try dsimp only); simp only [List.cons_append, List.nil_append, List.append_assoc, eW]; first | exact hBy _ | exact hF _ | exact hD _ (by omega) | exact hy | exact fl_byts hy | (rw [take_len hl]; exact decide_eq_true rfl)) | rfl
theorem sbk_head {xs : List Value} {n c : Nat} (hy : Byts xs) (hl : xs.length = n) (hc : n ≤ c ∧ c ≤ 9223372036854775807) : RI xs ⟨0, n, c, false⟩ := ⟨hy, by simp only; omega, hc⟩
theorem c4_k (k : Nat) (h : k ≤ 4) : b4 (k : Int) = c4 (k : Int) := by
  rcases (show k = 0 ∨ k = 1 ∨ k = 2 ∨ k = 3 ∨ k = 4 by omega) with rfl | rfl | rfl | rfl | rfl <;> rfl
theorem sb_end {xs : List Value} {n c : Nat} {hd s : RS} {hv : Int} {es : List Se} (hk : hv = ((es.length : Nat) : Int)) (LO : LOkZ (sbkV hd hv (sbkL Try.prog (lpO xs hd hv es s))) Try.prog) (hLp : LpF xs hd hv (some (es, s))) (NF : NbF xs ⟨0, n, c, false⟩ hd hv) (d4 : decide (hv > 4) = false) (d6 : decide ((n : Int) > 6000) = false) (hB : s.B = false) (dL : decide ((s.L : Int) > 0) = false) (hy : Byts xs) (hl : xs.length = n) (hc : n ≤ c ∧ c ≤ 9223372036854775807) (h6 : n ≤ 6000) (eW : ∀ k : Int, k = hv → es.foldl apE (c4 k) = xs) (hS : ∀ e ∈ es, ∃ c d, SeF e c d) :
    RunsTrue Try.prog 8 [.slice (some ⟨0, 0, none⟩) n c] [(0, ⟨.old, xs⟩)] 1 := by
  have h4 : es.length ≤ 4 := by
    simp only [decide_eq_false_iff_not] at d4
    omega
  rcases es with _ | ⟨e0, _ | ⟨e1, _ | ⟨e2, _ | ⟨e3, _ | ⟨e4, t⟩⟩⟩⟩⟩
  · have ew := eW 0 (by rw [hk]; rfl)
    exact sb_k0 LO hLp NF d4 d6 hB dL hy hl hc h6 ew
  · obtain ⟨_, _, S0⟩ := hS e0 (by simp)
    have ew := eW 1 (by rw [hk]; rfl)
    exact sb_k1 LO hLp NF d4 d6 hB dL hy hl hc h6 S0.l S0.R S0.n ew
  · obtain ⟨_, _, S0⟩ := hS e0 (by simp)
    obtain ⟨_, _, S1⟩ := hS e1 (by simp)
    have ew := eW 2 (by rw [hk]; rfl)
    exact sb_k2 LO hLp NF d4 d6 hB dL hy hl hc h6 S0.l S0.R S0.n S1.l S1.R S1.n ew
  · obtain ⟨_, _, S0⟩ := hS e0 (by simp)
    obtain ⟨_, _, S1⟩ := hS e1 (by simp)
    obtain ⟨_, _, S2⟩ := hS e2 (by simp)
    have ew := eW 3 (by rw [hk]; rfl)
    exact sb_k3 LO hLp NF d4 d6 hB dL hy hl hc h6 S0.l S0.R S0.n S1.l S1.R S1.n S2.l S2.R S2.n ew
  · obtain ⟨_, _, S0⟩ := hS e0 (by simp)
    obtain ⟨_, _, S1⟩ := hS e1 (by simp)
    obtain ⟨_, _, S2⟩ := hS e2 (by simp)
    obtain ⟨_, _, S3⟩ := hS e3 (by simp)
    have ew := eW 4 (by rw [hk]; rfl)
    exact sb_k4 LO hLp NF d4 d6 hB dL hy hl hc h6 S0.l S0.R S0.n S1.l S1.R S1.n S2.l S2.R S2.n S3.l S3.R S3.n ew
  · simp only [List.length_cons] at h4
    omega
set_option maxRecDepth 100000 in
set_option maxHeartbeats 8000000 in
theorem sb_all {a : Sa} (h : RbOk a) : SbRt a := by
  obtain ⟨b, n, c, xs⟩ := a
  have hz := h.z
  have hy := h.y
  have hl := h.l
  have hc := h.c
  (try simp only at hz hy hl hc)
  clear h
  cases b with
  | false =>
    refine run_val (V := sbkN) (noXz_ok rfl) (T_okV rfl (mkT_one aw_gok)) (noL_okV rfl) sbk_n ?_ rfl
    simp only [Alls, rg]
    repeat' (first | with_reducible exact trivial | with_reducible apply And.intro)
    all_goals first | with_reducible assumption | omega | with_reducible rfl | (first | exact rfl | decide)
  | true =>
    by_cases h6 : n ≤ 6000
    case neg =>
      refine run_val (sbk_X _ _ _) (sbk_T _ _ _) (noL_okV rfl) (sbk_l xs n c) ?_ rfl
      repeat' (first | exact alls_nil | refine alls_cons ?_ ?_)
      all_goals first | with_reducible assumption | with_reducible rfl | omega | (simp only [decide_eq_false_iff_not, decide_eq_true_eq]; omega) | rfl
    have d6 : decide ((n : Int) > 6000) = false := by simp only [decide_eq_false_iff_not]; omega
    have hi0 := sbk_head hy hl hc
    obtain ⟨hd, ehd⟩ : ∃ hd, hd = rnx ⟨0, n, c, false⟩ 4 := ⟨_, rfl⟩
    obtain ⟨hv, ehv⟩ : ∃ hv, hv = rnv xs ⟨0, n, c, false⟩ := ⟨_, rfl⟩
    have NF : NbF xs ⟨0, n, c, false⟩ hd hv := ⟨hi0, ehd, ehv⟩
    have hi : RI xs hd := by rw [ehd]; exact hi0.nx 4
    obtain ⟨v0, v1⟩ := nb_rg NF
    by_cases h4 : hv ≤ 4
    case neg =>
      refine run_val (sbk_X _ _ _) (sbk_T _ _ _) (noL_okV rfl) (sbk_g xs n c hd hv) ?_ rfl
      repeat' (first | exact alls_nil | refine alls_cons ?_ ?_)
      all_goals first | with_reducible assumption | with_reducible rfl | omega | (simp only [decide_eq_false_iff_not, decide_eq_true_eq]; omega) | rfl
    have d4 : decide (hv > 4) = false := by simp only [decide_eq_false_iff_not]; omega
    obtain ⟨k, rfl⟩ := Int.eq_ofNat_of_zero_le v0
    obtain ⟨o, hr⟩ := Rd.ex xs k hd 0 0 []
    have hLp : LpF xs hd (k : Int) o := ⟨hi, k, rfl, by omega, hr⟩
    cases o with
    | none =>
      refine run_val (sbk_X _ _ _) (sbk_T _ _ _) (L_okV rfl (mkL_ok (lpF_ok xs hd k))) (sbk_f xs n c hd k) ?_ rfl
      repeat' (first | exact alls_nil | refine alls_cons ?_ ?_)
      all_goals first | with_reducible assumption | with_reducible rfl | omega | (simp only [decide_eq_false_iff_not, decide_eq_true_eq]; omega) | rfl
    | some p =>
      obtain ⟨es, s⟩ := p
      have LO := L_okV (V := sbkV hd k (sbkL Try.prog (lpO xs hd k es s))) rfl (mkL_ok (lpO_ok xs hd k es s))
      cases hB : s.B with
      | true =>
        refine run_val (sbk_X _ _ _) (sbk_T _ _ _) LO (sbk_b xs n c hd s k es) ?_ rfl
        repeat' (first | exact alls_nil | refine alls_cons ?_ ?_)
        all_goals first | with_reducible assumption | with_reducible rfl | omega | (simp only [decide_eq_false_iff_not, decide_eq_true_eq]; omega) | rfl
      | false =>
        by_cases hL : s.L = 0
        case neg =>
          have dL : decide ((s.L : Int) > 0) = true := by simp only [decide_eq_true_eq]; omega
          refine run_val (sbk_X _ _ _) (sbk_T _ _ _) LO (sbk_x xs n c hd s k es) ?_ rfl
          repeat' (first | exact alls_nil | refine alls_cons ?_ ?_)
          all_goals first | with_reducible assumption | with_reducible rfl | omega | (simp only [decide_eq_false_iff_not, decide_eq_true_eq]; omega) | rfl
        have dL : decide ((s.L : Int) > 0) = false := by simp only [decide_eq_false_iff_not]; omega
        have hdB := Rd.B hr hB
        have A0 : At xs ⟨0, n, c, false⟩ := ⟨by simp only; omega, .inr (by simp only; omega)⟩
        obtain ⟨A1, _, e4⟩ := A0.nb NF hdB
        simp only [hl, Nat.sub_self, List.take_zero, List.nil_append] at e4
        obtain ⟨eW, eL⟩ := rd_back (W := b4 (k : Int)) hr hB hi A1 (by rw [hl]; exact e4.symm)
        rw [hL, Nat.sub_zero, List.take_length] at eW
        have hS := rd_se hr hi (fun e he => by cases he)
        simp only [List.length_nil, Nat.zero_add] at eL
        subst eL
        rw [c4_k _ (by omega)] at eW
        exact sb_end rfl LO hLp NF d4 d6 hB dL hy hl hc h6 (fun k e => by rw [e]; exact eW) hS
theorem RbOk.nil : RbOk ⟨false, 0, 0, []⟩ := ⟨Byts.nil, rfl, ⟨Nat.le_refl 0, Nat.zero_le _⟩, fun _ => rfl⟩
theorem back_any {W : World} {v1 : Value} {a1 : Av} {q1 : Option (Addr × Nat)} {z1 : List (List Int)} (h1 : (a1 = .fl (.slice none 0 0) ∧ z1 = []) ∨ a1 = .sl (z1.map (cellsK [.u8])).flatten z1.length)
    (A1 : AvAt a1 v1 q1) (L1 : Lies W a1 q1) (w1 : ∀ zs ∈ z1, AllWf [.u8] zs) :
    Calls Try.prog 8 #[v1] W fun e w' => e = .returned (.bool true) ∧ Ext W w' := by
  have b1 := flat_Byts w1
  have l1 : ((z1.map (cellsK [.u8])).flatten).length = z1.length := by rw [flat_len w1]; simp
  refine calls_sl (avs := [a1]) (vs := [v1]) (ps := [q1]) ⟨A1, trivial⟩ ⟨L1, trivial⟩ (fun σ => rfl) fun cs hcs => ?_
  obtain ⟨c, rfl⟩ := caps1 hcs
  rcases h1 with ⟨rfl, rfl⟩ | rfl
  · exact sb_all (a := ⟨false, 0, 0, []⟩) RbOk.nil
  · exact sb_all (a := ⟨true, _, c, _⟩) ⟨b1, l1, hcs.1, fun h => by cases h⟩
end Go.Proofs.Ytdcakhahagbedaa
