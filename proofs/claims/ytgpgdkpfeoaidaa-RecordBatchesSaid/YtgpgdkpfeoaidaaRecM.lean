/-
  Chapter 02: the statement RecordBatches: what is known at its beginning; the lists that are too long.
-/
import Derived.Test.YtgpgdkpfeoaidaaRecJ
import Derived.Test.YtgpgdkpfeoaidaaRecL
namespace Go.Proofs.Ytgpgdkpfeoaidaa
set_option linter.unusedSimpArgs false
set_option linter.unusedVariables false
set_option linter.unusedSectionVars false
open Go Go.RowKit

theorem bt_L_onn (t : Bt) (ls : List Value) (n c : Nat) : prjV (runZ (btV t 0 0) Try.prog 9 6 [.slice (some ⟨0, 0, none⟩) n c, .slice none 0 0, .slice none 0 0] [(0, ⟨.old, ls⟩)] 3 [true]) =
  Res.ok (Value.bool true, [], [decide ((↑n : Int) > (20 : Int)) = true]) := by kernel_rfl
theorem bt_L_ono (t : Bt) (ls xs : List Value) (n c b g : Nat) : prjV (runZ (btV t 0 0) Try.prog 9 6 [.slice (some ⟨0, 0, none⟩) n c, .slice none 0 0, .slice (some ⟨2, 0, none⟩) b g] [(0, ⟨.old, ls⟩), (2, ⟨.old, xs⟩)] 3 [true]) =
  Res.ok (Value.bool true, [], [decide ((↑n : Int) > (20 : Int)) = true]) := by kernel_rfl
theorem bt_L_oon (t : Bt) (ls ms : List Value) (n c m d : Nat) : prjV (runZ (btV t 0 0) Try.prog 9 6 [.slice (some ⟨0, 0, none⟩) n c, .slice (some ⟨1, 0, none⟩) m d, .slice none 0 0] [(0, ⟨.old, ls⟩), (1, ⟨.old, ms⟩)] 3 [true]) =
  Res.ok (Value.bool true, [], [decide ((↑n : Int) > (20 : Int)) = true]) := by kernel_rfl
theorem bt_L_ooo (t : Bt) (ls ms xs : List Value) (n c m d b g : Nat) : prjV (runZ (btV t 0 0) Try.prog 9 6 [.slice (some ⟨0, 0, none⟩) n c, .slice (some ⟨1, 0, none⟩) m d, .slice (some ⟨2, 0, none⟩) b g] [(0, ⟨.old, ls⟩), (1, ⟨.old, ms⟩), (2, ⟨.old, xs⟩)] 3 [true]) =
  Res.ok (Value.bool true, [], [decide ((↑n : Int) > (20 : Int)) = true]) := by kernel_rfl
theorem bt_M_non (t : Bt) (ms : List Value) (m d : Nat) : prjV (runZ (btV t 0 0) Try.prog 9 6 [.slice none 0 0, .slice (some ⟨1, 0, none⟩) m d, .slice none 0 0] [(1, ⟨.old, ms⟩)] 3 [false, true]) =
  Res.ok (Value.bool true, [], [false = false, decide ((↑m : Int) > (20 : Int)) = true]) := by kernel_rfl
theorem bt_M_noo (t : Bt) (ms xs : List Value) (m d b g : Nat) : prjV (runZ (btV t 0 0) Try.prog 9 6 [.slice none 0 0, .slice (some ⟨1, 0, none⟩) m d, .slice (some ⟨2, 0, none⟩) b g] [(1, ⟨.old, ms⟩), (2, ⟨.old, xs⟩)] 3 [false, true]) =
  Res.ok (Value.bool true, [], [false = false, decide ((↑m : Int) > (20 : Int)) = true]) := by kernel_rfl
theorem bt_M_oon (t : Bt) (ls ms : List Value) (n c m d : Nat) : prjV (runZ (btV t 0 0) Try.prog 9 6 [.slice (some ⟨0, 0, none⟩) n c, .slice (some ⟨1, 0, none⟩) m d, .slice none 0 0] [(0, ⟨.old, ls⟩), (1, ⟨.old, ms⟩)] 3 [false, true]) =
  Res.ok (Value.bool true, [], [decide ((↑n : Int) > (20 : Int)) = false, decide ((↑m : Int) > (20 : Int)) = true]) := by kernel_rfl
theorem bt_M_ooo (t : Bt) (ls ms xs : List Value) (n c m d b g : Nat) : prjV (runZ (btV t 0 0) Try.prog 9 6 [.slice (some ⟨0, 0, none⟩) n c, .slice (some ⟨1, 0, none⟩) m d, .slice (some ⟨2, 0, none⟩) b g] [(0, ⟨.old, ls⟩), (1, ⟨.old, ms⟩), (2, ⟨.old, xs⟩)] 3 [false, true]) =
  Res.ok (Value.bool true, [], [decide ((↑n : Int) > (20 : Int)) = false, decide ((↑m : Int) > (20 : Int)) = true]) := by kernel_rfl
theorem bt_B_nno (t : Bt) (xs : List Value) (b g : Nat) : prjV (runZ (btV t 0 0) Try.prog 9 6 [.slice none 0 0, .slice none 0 0, .slice (some ⟨2, 0, none⟩) b g] [(2, ⟨.old, xs⟩)] 3 [false, false, true]) =
  Res.ok (Value.bool true, [], [false = false, false = false, decide ((↑b : Int) > (3000 : Int)) = true]) := by kernel_rfl
theorem bt_B_noo (t : Bt) (ms xs : List Value) (m d b g : Nat) : prjV (runZ (btV t 0 0) Try.prog 9 6 [.slice none 0 0, .slice (some ⟨1, 0, none⟩) m d, .slice (some ⟨2, 0, none⟩) b g] [(1, ⟨.old, ms⟩), (2, ⟨.old, xs⟩)] 3 [false, false, true]) =
  Res.ok (Value.bool true, [], [false = false, decide ((↑m : Int) > (20 : Int)) = false, decide ((↑b : Int) > (3000 : Int)) = true]) := by kernel_rfl
theorem bt_B_ono (t : Bt) (ls xs : List Value) (n c b g : Nat) : prjV (runZ (btV t 0 0) Try.prog 9 6 [.slice (some ⟨0, 0, none⟩) n c, .slice none 0 0, .slice (some ⟨2, 0, none⟩) b g] [(0, ⟨.old, ls⟩), (2, ⟨.old, xs⟩)] 3 [false, false, true]) =
  Res.ok (Value.bool true, [], [decide ((↑n : Int) > (20 : Int)) = false, false = false, decide ((↑b : Int) > (3000 : Int)) = true]) := by kernel_rfl
theorem bt_B_ooo (t : Bt) (ls ms xs : List Value) (n c m d b g : Nat) : prjV (runZ (btV t 0 0) Try.prog 9 6 [.slice (some ⟨0, 0, none⟩) n c, .slice (some ⟨1, 0, none⟩) m d, .slice (some ⟨2, 0, none⟩) b g] [(0, ⟨.old, ls⟩), (1, ⟨.old, ms⟩), (2, ⟨.old, xs⟩)] 3 [false, false, true]) =
  Res.ok (Value.bool true, [], [decide ((↑n : Int) > (20 : Int)) = false, decide ((↑m : Int) > (20 : Int)) = false, decide ((↑b : Int) > (3000 : Int)) = true]) := by kernel_rfl
/-- What is known of a list of records. -/
structure LsF (ls : List Value) (n c : Nat) : Prop where
  r : RecsOk ls n
  o : all1 ls = true
  c : n ≤ c ∧ c ≤ 9223372036854775807
structure XsF (xs : List Value) (b g : Nat) : Prop where
  y : Byts xs
  l : xs.length = b
  c : b ≤ g ∧ g ≤ 9223372036854775807
structure BtF (t : Bt) (ls : List Value) (n : Nat) (ms : List Value) (m : Nat) (xs : List Value) (b : Nat) : Prop where
  bl : n ≤ 8 → BatOk ls n t.B t.N
  bm : m ≤ 8 → BatOk ms m t.C t.M
  lB : t.B.length = t.N
  yB : Byts t.B
  mB : t.N ≤ 1024
  lC : t.C.length = t.M
  yC : Byts t.C
  mC : t.M ≤ 1024
  i : LentIs xs b t.I t.J t.K
  rn : rdNo b → RdNone b t.e
  rs : ¬ rdNo b → RdSome xs b t.k t.O
  ro : RecsOk t.O t.k
  ok : t.k ≤ 8
  s : b ≤ 3000
theorem bat_ex {ls : List Value} {n : Nat} (h : RecsOk ls n) : ∃ B N, (n ≤ 8 → BatOk ls n B N) ∧ B.length = N ∧ Byts B ∧ N ≤ 1024 := by
  by_cases hn : n ≤ 8
  · exact ⟨recL rcdB ls 0 n, n * 128, fun _ => ⟨rfl, h, hn, rfl⟩, recL_len rfl ls n 0, recL_Byts rfl ls n 0, by omega⟩
  · exact ⟨[], 0, fun h => absurd h hn, rfl, Byts.nil, by omega⟩
theorem rd_ex {xs : List Value} {b : Nat} (hb : Byts xs) : ∃ e k O, (rdNo b → RdNone b e) ∧ (¬ rdNo b → RdSome xs b k O) ∧ RecsOk O k ∧ k ≤ 8 := by
  by_cases h : rdNo b
  · exact ⟨rdE b, 0, [], fun _ => ⟨rfl, h⟩, fun h2 => absurd h h2, recs_nil, by omega⟩
  · have h2 : b % 128 = 0 ∧ b ≤ 1024 ∧ b ≠ 0 := by unfold rdNo at h; omega
    exact ⟨0, b / 128, rhL rcF xs 0 (b / 128), fun h3 => absurd h3 h, fun _ => ⟨rfl, by omega, by omega, by omega, hb⟩, rhL_ok hb _, by omega⟩
theorem bt_ex {ls ms xs : List Value} {n m b : Nat} (hl : RecsOk ls n) (hm : RecsOk ms m) (hb : Byts xs) (hx : xs.length = b) (hs : b ≤ 3000) : ∃ t, BtF t ls n ms m xs b := by
  obtain ⟨B, N, h1, h2, h3, h4⟩ := bat_ex hl
  obtain ⟨C, M, g1, g2, g3, g4⟩ := bat_ex hm
  obtain ⟨e, k, O, k1, k2, k3, k4⟩ := rd_ex (b := b) hb
  exact ⟨⟨B, N, C, M, xs ++ mk3 b, b, b + 3, O, e, k⟩, h1, g1, h2, h3, h4, g2, g3, g4, ⟨rfl, rfl, rfl, hb, by omega, hx⟩, k1, k2, k3, k4, hs⟩
theorem btV_X (t : Bt) (i j : Nat) : XOkZ (btV t i j) Try.prog := noXz_ok rfl
theorem btV_T (t : Bt) (i j : Nat) : TOkZ (btV t i j) Try.prog := T_okV rfl (btT_one t)
theorem btV_L (t : Bt) (i j : Nat) : LOkZ (btV t i j) Try.prog := noL_okV rfl
structure BtG (t : Bt) (ls : List Value) (n c : Nat) (ms : List Value) (m d : Nat) (xs : List Value) (b g : Nat) : Prop where
  eJ : t.J = b
  eK : t.K = b + 3
  hI : LentIs xs b t.I b (b + 3)
  hb4 : Byts xs
  hbl : xs.length = b
  hbm : b ≤ 1099511627776
  hli : t.I.length = b + 3
  yI : Byts t.I
  tJ : t.I.take b = xs
  tK : t.I.take (b + 3) = t.I
  tX : xs.take b = xs
  fX : Fl xs
  fI : Fl t.I
  yI1 : Byts (ovx t.I)
  cI : CopOk t.I (b + 3)
  sI : SamOk t.I t.I
  lI1 : (ovx t.I).length = b + 3
  lI2 : (ovx (ovx t.I)).length = b + 3
  lB : t.B.length = t.N
  yB : Byts t.B
  mB : t.N ≤ 1024
  fB : Fl t.B
  tB : t.B.take t.N = t.B
  lB1 : (ovx t.B).length = t.N
  lB2 : (ovx (ovx t.B)).length = t.N
  yB1 : Byts (ovx t.B)
  yB2 : Byts (ovx (ovx t.B))
  fB2 : Fl (ovx (ovx t.B))
  tB2 : (ovx (ovx t.B)).take t.N = ovx (ovx t.B)
  sB : SamOk t.B t.B
  sB2 : SamOk (ovx (ovx t.B)) (ovx (ovx t.B))
  lC : t.C.length = t.M
  yC : Byts t.C
  mC : t.M ≤ 1024
  fC : Fl t.C
  tC : t.C.take t.M = t.C
  lC1 : (ovx t.C).length = t.M
  lC2 : (ovx (ovx t.C)).length = t.M
  yC1 : Byts (ovx t.C)
  yC2 : Byts (ovx (ovx t.C))
  fC2 : Fl (ovx (ovx t.C))
  tC2 : (ovx (ovx t.C)).take t.M = ovx (ovx t.C)
  sC : SamOk t.C t.C
  sC2 : SamOk (ovx (ovx t.C)) (ovx (ovx t.C))
  rO : RecsOk t.O t.k
  fO : Fl t.O
  lO : t.O.length = t.k * 19
  tO : t.O.take (t.k * 19) = t.O
  kO : t.k ≤ 8
  rL : RecsOk ls n
  fL : Fl ls
  lL : ls.length = n * 19
  oL : all1 ls = true
  cL : n ≤ c ∧ c ≤ 9223372036854775807
  tL : ls.take (n * 19) = ls
  rM : RecsOk ms m
  fM : Fl ms
  lM : ms.length = m * 19
  oM : all1 ms = true
  cM : m ≤ d ∧ d ≤ 9223372036854775807
  tM : ms.take (m * 19) = ms
  cX : b ≤ g ∧ g ≤ 9223372036854775807
  s0 : SamOk [] []
  f0 : Fl []
  r0 : RecsOk [] 0
theorem btG {t : Bt} {ls ms xs : List Value} {n c m d b g : Nat} (F : BtF t ls n ms m xs b) (L : LsF ls n c) (M : LsF ms m d) (X : XsF xs b g) : BtG t ls n c ms m d xs b g := by
  have hI0 := F.i
  have hs := F.s
  have eJ : t.J = b := hI0.j
  have eK : t.K = b + 3 := hI0.k
  have hb4 := hI0.b
  have hbl := hI0.l
  have hbm := hI0.m
  have hli : t.I.length = b + 3 := by rw [hI0.i, List.length_append, hbl]; rfl
  have yI : Byts t.I := by rw [hI0.i]; exact hb4.app (mk3_byts _)
  have tJ : t.I.take b = xs := by rw [hI0.i, ← hbl, List.take_left]
  have tK : t.I.take (b + 3) = t.I := take_len hli
  have tX : xs.take b = xs := take_len hbl
  have fX := fl_byts hb4
  have fI := fl_byts yI
  have yI1 := ovx_byts t.I
  have cI : CopOk t.I (b + 3) := ⟨yI, by omega, by omega⟩
  have sI : SamOk t.I t.I := ⟨yI, yI, rfl⟩
  have lI1 : (ovx t.I).length = b + 3 := by rw [ovx_len, hli]
  have lI2 : (ovx (ovx t.I)).length = b + 3 := by rw [ovx_len, lI1]
  have lB := F.lB
  have yB := F.yB
  have mB := F.mB
  have fB := fl_byts yB
  have tB : t.B.take t.N = t.B := take_len lB
  have lB1 : (ovx t.B).length = t.N := by rw [ovx_len, lB]
  have lB2 : (ovx (ovx t.B)).length = t.N := by rw [ovx_len, lB1]
  have yB1 := ovx_byts t.B
  have yB2 := ovx_byts (ovx t.B)
  have fB2 := fl_byts yB2
  have tB2 : (ovx (ovx t.B)).take t.N = ovx (ovx t.B) := take_len lB2
  have sB : SamOk t.B t.B := ⟨yB, yB, rfl⟩
  have sB2 : SamOk (ovx (ovx t.B)) (ovx (ovx t.B)) := ⟨yB2, yB2, rfl⟩
  have lC := F.lC
  have yC := F.yC
  have mC := F.mC
  have fC := fl_byts yC
  have tC : t.C.take t.M = t.C := take_len lC
  have lC1 : (ovx t.C).length = t.M := by rw [ovx_len, lC]
  have lC2 : (ovx (ovx t.C)).length = t.M := by rw [ovx_len, lC1]
  have yC1 := ovx_byts t.C
  have yC2 := ovx_byts (ovx t.C)
  have fC2 := fl_byts yC2
  have tC2 : (ovx (ovx t.C)).take t.M = ovx (ovx t.C) := take_len lC2
  have sC : SamOk t.C t.C := ⟨yC, yC, rfl⟩
  have sC2 : SamOk (ovx (ovx t.C)) (ovx (ovx t.C)) := ⟨yC2, yC2, rfl⟩
  have rO := F.ro
  have fO := rO.f
  have lO := rO.l
  have tO : t.O.take (t.k * 19) = t.O := take_len lO
  have kO := F.ok
  have rL := L.r
  have fL := rL.f
  have lL := rL.l
  have oL := L.o
  have cL := L.c
  have tL : ls.take (n * 19) = ls := take_len lL
  have rM := M.r
  have fM := rM.f
  have lM := rM.l
  have oM := M.o
  have cM := M.c
  have tM : ms.take (m * 19) = ms := take_len lM
  have cX := X.c
  have s0 : SamOk [] [] := ⟨Byts.nil, Byts.nil, rfl⟩
  have f0 : Fl [] := Fl.of rfl
  have r0 := recs_nil
  have hI : LentIs xs b t.I b (b + 3) := by rw [eJ, eK] at hI0; exact hI0
  exact ⟨eJ, eK, hI, hb4, hbl, hbm, hli, yI, tJ, tK, tX, fX, fI, yI1, cI, sI, lI1, lI2, lB, yB, mB, fB, tB, lB1, lB2, yB1, yB2, fB2, tB2, sB, sB2, lC, yC, mC, fC, tC, lC1, lC2, yC1, yC2, fC2, tC2, sC, sC2, rO, fO, lO, tO, kO, rL, fL, lL, oL, cL, tL, rM, fM, lM, oM, cM, tM, cX, s0, f0, r0⟩
theorem btW {t : Bt} {ls ms xs : List Value} {n c m d b g : Nat} (G : BtG t ls n c ms m d xs b g) : (t.J = b) ∧ (t.K = b + 3) ∧ (t.I.take b = xs) ∧ (t.I.take (b + 3) = t.I) ∧ (xs.take b = xs) ∧ (t.B.take t.N = t.B) ∧ (t.C.take t.M = t.C) ∧ ((ovx (ovx t.B)).take t.N = ovx (ovx t.B)) ∧ ((ovx (ovx t.C)).take t.M = ovx (ovx t.C)) ∧ (t.O.take (t.k * 19) = t.O) ∧ (ls.take (n * 19) = ls) ∧ (ms.take (m * 19) = ms) := ⟨G.eJ, G.eK, G.tJ, G.tK, G.tX, G.tB, G.tC, G.tB2, G.tC2, G.tO, G.tL, G.tM⟩
theorem bt_pos {B : List Value} {N n : Nat} {ls : List Value} (h : BatOk ls n B N) (y : Byts B) (m : N ≤ 1024) (hn : 0 < n) : 0 < N ∧ CopOk B N ∧ CopOk (ovx (ovx B)) N := by
  have y2 := ovx_byts (ovx B)
  have p : 0 < N := by have := h.e; omega
  exact ⟨p, ⟨y, p, by omega⟩, y2, p, by omega⟩
theorem bt_zero {B : List Value} {N : Nat} {ls : List Value} (h : BatOk ls 0 B N) (y : Byts B) (l : B.length = N) : N = 0 ∧ SamOk B [] ∧ SamOk (ovx (ovx B)) [] := by
  have p : N = 0 := by have := h.e; omega
  have z : B = [] := List.length_eq_zero_iff.1 (by omega)
  subst z
  exact ⟨p, ⟨y, Byts.nil, rfl⟩, Byts.nil, Byts.nil, rfl⟩
end Go.Proofs.Ytgpgdkpfeoaidaa
