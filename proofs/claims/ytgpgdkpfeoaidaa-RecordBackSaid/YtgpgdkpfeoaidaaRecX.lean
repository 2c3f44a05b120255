/-
  Chapter 02: the statement RecordBack: what is known at its beginning; the lists that are too long.
-/
import Derived.Test.YtgpgdkpfeoaidaaRecT
import Derived.Test.YtgpgdkpfeoaidaaRecL
namespace Go.Proofs.Ytgpgdkpfeoaidaa
set_option linter.unusedSimpArgs false
set_option linter.unusedVariables false
set_option linter.unusedSectionVars false
open Go Go.RowKit

theorem rk_L_onn (ls : List Value) (n c : Nat) : prjV (runZ (rkV Try.prog false false [] 0 [] 0 [] 0 [] 0 [] (fun _ => 0)) Try.prog 9 7 [.slice (some ⟨0, 0, none⟩) n c, .slice none 0 0, .slice none 0 0] [(0, ⟨.old, ls⟩)] 3 [true]) =
  Res.ok (Value.bool true, [], [decide ((↑n : Int) > (20 : Int)) = true]) := by kernel_rfl
theorem rk_L_ono (ls xs : List Value) (n c b g : Nat) : prjV (runZ (rkV Try.prog false false [] 0 [] 0 [] 0 [] 0 [] (fun _ => 0)) Try.prog 9 7 [.slice (some ⟨0, 0, none⟩) n c, .slice none 0 0, .slice (some ⟨2, 0, none⟩) b g] [(0, ⟨.old, ls⟩), (2, ⟨.old, xs⟩)] 3 [true]) =
  Res.ok (Value.bool true, [], [decide ((↑n : Int) > (20 : Int)) = true]) := by kernel_rfl
theorem rk_L_oon (ls ms : List Value) (n c m d : Nat) : prjV (runZ (rkV Try.prog false false [] 0 [] 0 [] 0 [] 0 [] (fun _ => 0)) Try.prog 9 7 [.slice (some ⟨0, 0, none⟩) n c, .slice (some ⟨1, 0, none⟩) m d, .slice none 0 0] [(0, ⟨.old, ls⟩), (1, ⟨.old, ms⟩)] 3 [true]) =
  Res.ok (Value.bool true, [], [decide ((↑n : Int) > (20 : Int)) = true]) := by kernel_rfl
theorem rk_L_ooo (ls ms xs : List Value) (n c m d b g : Nat) : prjV (runZ (rkV Try.prog false false [] 0 [] 0 [] 0 [] 0 [] (fun _ => 0)) Try.prog 9 7 [.slice (some ⟨0, 0, none⟩) n c, .slice (some ⟨1, 0, none⟩) m d, .slice (some ⟨2, 0, none⟩) b g] [(0, ⟨.old, ls⟩), (1, ⟨.old, ms⟩), (2, ⟨.old, xs⟩)] 3 [true]) =
  Res.ok (Value.bool true, [], [decide ((↑n : Int) > (20 : Int)) = true]) := by kernel_rfl
theorem rk_M_non (ms : List Value) (m d : Nat) : prjV (runZ (rkV Try.prog false false [] 0 [] 0 [] 0 [] 0 [] (fun _ => 0)) Try.prog 9 7 [.slice none 0 0, .slice (some ⟨1, 0, none⟩) m d, .slice none 0 0] [(1, ⟨.old, ms⟩)] 3 [false, true]) =
  Res.ok (Value.bool true, [], [false = false, decide ((↑m : Int) > (20 : Int)) = true]) := by kernel_rfl
theorem rk_M_noo (ms xs : List Value) (m d b g : Nat) : prjV (runZ (rkV Try.prog false false [] 0 [] 0 [] 0 [] 0 [] (fun _ => 0)) Try.prog 9 7 [.slice none 0 0, .slice (some ⟨1, 0, none⟩) m d, .slice (some ⟨2, 0, none⟩) b g] [(1, ⟨.old, ms⟩), (2, ⟨.old, xs⟩)] 3 [false, true]) =
  Res.ok (Value.bool true, [], [false = false, decide ((↑m : Int) > (20 : Int)) = true]) := by kernel_rfl
theorem rk_M_oon (ls ms : List Value) (n c m d : Nat) : prjV (runZ (rkV Try.prog false false [] 0 [] 0 [] 0 [] 0 [] (fun _ => 0)) Try.prog 9 7 [.slice (some ⟨0, 0, none⟩) n c, .slice (some ⟨1, 0, none⟩) m d, .slice none 0 0] [(0, ⟨.old, ls⟩), (1, ⟨.old, ms⟩)] 3 [false, true]) =
  Res.ok (Value.bool true, [], [decide ((↑n : Int) > (20 : Int)) = false, decide ((↑m : Int) > (20 : Int)) = true]) := by kernel_rfl
theorem rk_M_ooo (ls ms xs : List Value) (n c m d b g : Nat) : prjV (runZ (rkV Try.prog false false [] 0 [] 0 [] 0 [] 0 [] (fun _ => 0)) Try.prog 9 7 [.slice (some ⟨0, 0, none⟩) n c, .slice (some ⟨1, 0, none⟩) m d, .slice (some ⟨2, 0, none⟩) b g] [(0, ⟨.old, ls⟩), (1, ⟨.old, ms⟩), (2, ⟨.old, xs⟩)] 3 [false, true]) =
  Res.ok (Value.bool true, [], [decide ((↑n : Int) > (20 : Int)) = false, decide ((↑m : Int) > (20 : Int)) = true]) := by kernel_rfl
theorem rk_B_nno (xs : List Value) (b g : Nat) : prjV (runZ (rkV Try.prog false false [] 0 [] 0 [] 0 [] 0 [] (fun _ => 0)) Try.prog 9 7 [.slice none 0 0, .slice none 0 0, .slice (some ⟨2, 0, none⟩) b g] [(2, ⟨.old, xs⟩)] 3 [false, false, true]) =
  Res.ok (Value.bool true, [], [false = false, false = false, decide ((↑b : Int) > (1024 : Int)) = true]) := by kernel_rfl
theorem rk_B_noo (ms xs : List Value) (m d b g : Nat) : prjV (runZ (rkV Try.prog false false [] 0 [] 0 [] 0 [] 0 [] (fun _ => 0)) Try.prog 9 7 [.slice none 0 0, .slice (some ⟨1, 0, none⟩) m d, .slice (some ⟨2, 0, none⟩) b g] [(1, ⟨.old, ms⟩), (2, ⟨.old, xs⟩)] 3 [false, false, true]) =
  Res.ok (Value.bool true, [], [false = false, decide ((↑m : Int) > (20 : Int)) = false, decide ((↑b : Int) > (1024 : Int)) = true]) := by kernel_rfl
theorem rk_B_ono (ls xs : List Value) (n c b g : Nat) : prjV (runZ (rkV Try.prog false false [] 0 [] 0 [] 0 [] 0 [] (fun _ => 0)) Try.prog 9 7 [.slice (some ⟨0, 0, none⟩) n c, .slice none 0 0, .slice (some ⟨2, 0, none⟩) b g] [(0, ⟨.old, ls⟩), (2, ⟨.old, xs⟩)] 3 [false, false, true]) =
  Res.ok (Value.bool true, [], [decide ((↑n : Int) > (20 : Int)) = false, false = false, decide ((↑b : Int) > (1024 : Int)) = true]) := by kernel_rfl
theorem rk_B_ooo (ls ms xs : List Value) (n c m d b g : Nat) : prjV (runZ (rkV Try.prog false false [] 0 [] 0 [] 0 [] 0 [] (fun _ => 0)) Try.prog 9 7 [.slice (some ⟨0, 0, none⟩) n c, .slice (some ⟨1, 0, none⟩) m d, .slice (some ⟨2, 0, none⟩) b g] [(0, ⟨.old, ls⟩), (1, ⟨.old, ms⟩), (2, ⟨.old, xs⟩)] 3 [false, false, true]) =
  Res.ok (Value.bool true, [], [decide ((↑n : Int) > (20 : Int)) = false, decide ((↑m : Int) > (20 : Int)) = false, decide ((↑b : Int) > (1024 : Int)) = true]) := by kernel_rfl
/-- Bytes that come in. -/
structure XkF (xs : List Value) (b g : Nat) : Prop where
  y : Byts xs
  l : xs.length = b
  c : b ≤ g ∧ g ≤ 9223372036854775807
/-- A batch and its bytes: when it is empty; when it may be; else. -/
structure BkE (B : List Value) (N : Nat) : Prop where
  b : BatOk [] 0 B N
  n : N = 0
  l : N ≤ B.length
  t : B.take N = B
  f : Fl B
structure BkO (ls : List Value) (n : Nat) (B : List Value) (N : Nat) : Prop where
  b : BatOk ls n B N
  r : RdSome B N n ls
  s : N ≤ 9223372036854775807
  l : N ≤ B.length
  t : B.take N = B
  f : Fl B
theorem bkE : BkE [] 0 := ⟨⟨rfl, recs_nil, by omega, rfl⟩, rfl, Nat.le_refl 0, rfl, Fl.of rfl⟩
theorem bkO {ls : List Value} {n c : Nat} (H : RecsU ls n c) (hn : 0 < n ∧ n ≤ 8) : ∃ B N, BkO ls n B N := by
  have hl : (recL rcdB ls 0 n).length = n * 128 := recL_len rfl ls n 0
  have hb : Byts (recL rcdB ls 0 n) := recL_Byts rfl ls n 0
  exact ⟨recL rcdB ls 0 n, n * 128, ⟨rfl, H.r, hn.2, rfl⟩, ⟨(recs_back H.r H.u).symm, rfl, hn.1, hn.2, hb⟩, by omega, by omega, take_len hl, fl_byts hb⟩
structure RkG (xs : List Value) (G : Nat → Int) : Prop where
  g : RdG xs 128 G
  i : RcdIs xs (G 0) (G 1) (G 2) (G 3) (G 4) (G 5) (G 6) (G 7) (G 8) (G 9) (G 10) (G 11) (G 12) (G 13) (G 14) (G 15) (G 16) (G 17) (G 18)
  w : recW (G 13) (G 14) (G 15) (G 16) (G 17)
theorem rkG {xs : List Value} (hb : Byts xs) (hl : xs.length = 128) : ∃ G, RkG xs G :=
  ⟨fun k => rcF k xs, ⟨hb, rfl, rfl⟩, (rcdB_back hb hl).symm, r4_wf (hb.drop 104), r4_wf (hb.drop 108), r4_wf (hb.drop 112), r2_wf (hb.drop 116), r2_wf (hb.drop 118)⟩
theorem RestB.z {a b : Nat} : RestB a b [] := .inl rfl
theorem RestB.a {a b : Nat} {ys : List Value} (f : Fl ys) : RestB a b [(a, ⟨.old, ys⟩)] := .inr (.inl ⟨ys, f, rfl⟩)
theorem RestB.b {a b : Nat} {ys : List Value} (f : Fl ys) : RestB a b [(b, ⟨.old, ys⟩)] := .inr (.inr (.inl ⟨ys, f, rfl⟩))
theorem RestB.c {a b : Nat} {ys zs : List Value} (f : Fl ys) (g : Fl zs) : RestB a b [(a, ⟨.old, ys⟩), (b, ⟨.old, zs⟩)] := .inr (.inr (.inr ⟨ys, zs, f, g, rfl⟩))
theorem sam_of {xs : List Value} (h : Byts xs) : SamOk xs xs := ⟨h, h, rfl⟩
end Go.Proofs.Ytgpgdkpfeoaidaa
