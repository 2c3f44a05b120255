/-
  Chapter 12: the statement MemtableScript: an act is done on both tables (what the runs say). Written by gen_ace.py.
-/
import Derived.Test.YtojakfnljopjbaaGrBD
import Derived.Test.YtojakfnljopjbaaGrBB
namespace Go.Proofs.Ytojakfnljopjbaa
set_option linter.unusedSimpArgs false
set_option linter.unusedVariables false
set_option linter.unusedSectionVars false
open Go Go.RowKit
theorem acX {z : Bool} : XOkZ (acV z) Try.prog := XOneZ.ok Ei rfl
theorem acTv {z : Bool} : TOkZ (acV z) Try.prog := Ly rfl (C4 layT_one (C4 gxtT_one (C4 allT_one (C4 rbT_one (C4 atT_one (C4 pxTs_one (C4 over4_one (C4 clT_one (C4 bsTv_one insT9_one)))))))))
theorem acL {z : Bool} : LOkZ (acV z) Try.prog := C9 rfl
theorem lowB (x : Int) : 0 ≤ lowI .u8 x ∧ lowI .u8 x < 256 := by
 have : lowI .u8 x = x % 256 := by unfold lowI; rw [mdI_eq]; rfl
 omega
def k5V (N : Int) : List Value := [.int .u8 (lowI .u8 N), .int .u8 (lowI .u8 (srI N 8))]
theorem k5_byt (N : Int) : BytI 2 (k5V N) := ⟨rfl, fun x hx => by
 have hx : x ∈ [lowI .u8 N, lowI .u8 (srI N 8)] := hx
 simp only [List.mem_cons, List.not_mem_nil, or_false] at hx
 rcases hx with rfl | rfl <;> exact lowB _, rfl⟩
theorem LyI.k5 {m c1 q c2 : Nat} {ky vy : List Value} (I : LyI m c1 q c2 ky vy) (N : Int) : LyI 2 2 q c2 (k5V N) vy := ⟨k5_byt N, I.v, by omega, I.q9, by omega, I.c2⟩
theorem E7 {s g : Bool} {m c1 q c2 : Nat} {ky vy : List Value} {ts : List Pr} (S : LyS s g m) (I : LyI m c1 q c2 ky vy) (hT : Ti ts) : LyOk s g m c1 q c2 ts.length (cpD ts) (cpD ts) ky vy := ⟨S, I, by rw [Bc]; exact hT, by rw [Bc], rfl, by rw [Bc]⟩
theorem lyok0 {s g : Bool} {m c1 q c2 : Nat} {ky vy : List Value} (S : LyS s g m) (I : LyI m c1 q c2 ky vy) : LyOk s g m c1 q c2 0 [] [] ky vy := ⟨S, I, Ti.nil, rfl, rfl, rfl⟩
theorem lyS0 {g : Bool} {m : Nat} : LyS false g m := ⟨fun e => by cases e⟩
theorem lyS5 : LyS true false 2 := ⟨fun _ => ⟨rfl, by omega, by omega⟩⟩
theorem C2 : ∀ W : List Pr, Ed (cpD W)
 | [] => trivial
 | p :: W => C2 W
theorem Bm {W : List Pr} (h : W.length ≤ 1000) : SpOk (cpD W) (cpD W) W.length := ⟨by rw [Bc]; exact H2 W, by rw [Bc]; exact H2 W, by rw [Bc], h⟩
theorem cl_ok {ts : List Pr} (h : Ti ts) (hz : ts.isEmpty = false) : ClOk (cpD ts) ts.length := ⟨by rw [Bc]; exact h, by rw [Bc], by rw [Bc], by rw [Bc]; exact hz⟩
theorem btw_len (ps : List Pr) (a b : List Int) : (btw ps a b).length ≤ ps.length := by
 have := (List.takeWhile_sublist (upP b) (l := ps.drop (lbP ps a))).length_le
 unfold btw tkP
 rw [List.length_drop] at this
 omega
def prO : Pr := ([111, 108, 100], [], false)
def prA : Pr := ([97], [], true)
theorem bO : BytI 3 vO := ⟨rfl, by decide, rfl⟩
theorem bA : BytI 1 vA := ⟨rfl, by decide, rfl⟩
theorem pO : PrOk prO := ⟨by decide, by decide⟩
theorem dvO : [DV.sl 3 none (List.map DV.fl [.int .u8 111, .int .u8 108, .int .u8 100]), DV.sl 0 none (List.map DV.fl []), DV.fl (.bool false)] = prD none none prO := rfl
theorem dvA : [DV.sl 1 none (List.map DV.fl [.int .u8 97]), DV.sl 0 none (List.map DV.fl []), DV.fl (.bool true)] = prD none none prA := rfl
theorem kO : okK prO = true := by decide
def acON (t y : Nat) : Hp := [(y + 1, ⟨.shut, [.slice (some ⟨y, 0, none⟩) 0 (B0 + y)]⟩), (y, ⟨.dp 3 zPr [], []⟩), (t, ⟨.shut, [.bool true, .slice none 0 0]⟩), (0, ⟨.shut, [.pointer (some ⟨t, 0, none⟩), .pointer (some ⟨y + 1, 0, none⟩)]⟩)]
def acOR (y : Nat) (ts : List Pr) : Hp := [(y + 1, ⟨.shut, [.slice (some ⟨y, 0, none⟩) ts.length (B0 + y)]⟩), (y, ⟨.dp 3 zPr (cpD ts), []⟩), (8, ⟨.shut, [.bool true, .slice (some ⟨9, 0, none⟩) ts.length (B0 + 9)]⟩), (9, ⟨.dp 3 zPr (cpD ts), []⟩), (0, ⟨.shut, [.pointer (some ⟨8, 0, none⟩), .pointer (some ⟨y + 1, 0, none⟩)]⟩)]
structure AcT (k N : Int) (m c1 q c2 : Nat) (ky vy : List Value) (ts : List Pr) : Prop where
 Nk0s : k = 0 → chP [] (lyPr false ky vy) = false → TriC Try.prog 27 (acA k N m c1 q c2) (lyN .old ky vy) 5 (.bool true) lySN 6
 Nk0n : k = 0 → chP [] (lyPr false ky vy) = true → TriC Try.prog 27 (acA k N m c1 q c2) (lyN .old ky vy) 5 (.bool true) (lyON 6 7 (layP [] (lyPr false ky vy))) 8
 Nk1s : k = 1 → chP [] (lyPr true ky vy) = false → TriC Try.prog 27 (acA k N m c1 q c2) (lyN .old ky vy) 5 (.bool true) lySN 6
 Nk1n : k = 1 → chP [] (lyPr true ky vy) = true → TriC Try.prog 27 (acA k N m c1 q c2) (lyN .old ky vy) 5 (.bool true) (lyON 6 7 (layP [] (lyPr true ky vy))) 8
 Nk5s : k = 5 → chP [] (lyPr false (k5V N) vy) = false → TriC Try.prog 27 (acA k N m c1 q c2) (lyN .old ky vy) 5 (.bool true) lySN 7
 Nk5n : k = 5 → chP [] (lyPr false (k5V N) vy) = true → TriC Try.prog 27 (acA k N m c1 q c2) (lyN .old ky vy) 5 (.bool true) (lyON 7 8 (layP [] (lyPr false (k5V N) vy))) 9
 Nk2m : k = 2 → TriC Try.prog 27 (acA k N m c1 q c2) (lyN .old ky vy) 5 (.bool true) lySN 12
 Nk3e : k = 3 → TriC Try.prog 27 (acA k N m c1 q c2) (lyN .old ky vy) 5 (.bool true) lySN 6
 Nk4 : k = 4 → TriC Try.prog 27 (acA k N m c1 q c2) (lyN .old ky vy) 5 (.bool true) (acON 6 33) 35
 Nkx : k ≠ 0 → k ≠ 1 → k ≠ 2 → k ≠ 3 → k ≠ 4 → k ≠ 5 → TriC Try.prog 27 (acA k N m c1 q c2) (lyN .old ky vy) 5 (.bool true) lySN 6
 Ek0s : k = 0 → chP [] (lyPr false ky vy) = false → TriC Try.prog 27 (acA k N m c1 q c2) (lyE .old ky vy) 6 (.bool true) lySE 7
 Ek0n : k = 0 → chP [] (lyPr false ky vy) = true → TriC Try.prog 27 (acA k N m c1 q c2) (lyE .old ky vy) 6 (.bool true) (lyON 7 8 (layP [] (lyPr false ky vy))) 9
 Ek1s : k = 1 → chP [] (lyPr true ky vy) = false → TriC Try.prog 27 (acA k N m c1 q c2) (lyE .old ky vy) 6 (.bool true) lySE 7
 Ek1n : k = 1 → chP [] (lyPr true ky vy) = true → TriC Try.prog 27 (acA k N m c1 q c2) (lyE .old ky vy) 6 (.bool true) (lyON 7 8 (layP [] (lyPr true ky vy))) 9
 Ek5s : k = 5 → chP [] (lyPr false (k5V N) vy) = false → TriC Try.prog 27 (acA k N m c1 q c2) (lyE .old ky vy) 6 (.bool true) lySE 8
 Ek5n : k = 5 → chP [] (lyPr false (k5V N) vy) = true → TriC Try.prog 27 (acA k N m c1 q c2) (lyE .old ky vy) 6 (.bool true) (lyON 8 9 (layP [] (lyPr false (k5V N) vy))) 10
 Ek2m : k = 2 → TriC Try.prog 27 (acA k N m c1 q c2) (lyE .old ky vy) 6 (.bool true) lySE 13
 Ek3e : k = 3 → TriC Try.prog 27 (acA k N m c1 q c2) (lyE .old ky vy) 6 (.bool true) lySE 7
 Ek4 : k = 4 → TriC Try.prog 27 (acA k N m c1 q c2) (lyE .old ky vy) 6 (.bool true) (acON 7 36) 38
 Ekx : k ≠ 0 → k ≠ 1 → k ≠ 2 → k ≠ 3 → k ≠ 4 → k ≠ 5 → TriC Try.prog 27 (acA k N m c1 q c2) (lyE .old ky vy) 6 (.bool true) lySE 7
 Rk0s : k = 0 → chP ts (lyPr false ky vy) = false → TriC Try.prog 27 (acA k N m c1 q c2) (lyR .old ts.length (cpD ts) (cpD ts) ky vy) 7 (.bool true) (lySR ts.length (cpD ts) (cpD ts)) 8
 Rk0n : k = 0 → chP ts (lyPr false ky vy) = true → TriC Try.prog 27 (acA k N m c1 q c2) (lyR .old ts.length (cpD ts) (cpD ts) ky vy) 7 (.bool true) (lyON 8 9 (layP ts (lyPr false ky vy))) 10
 Rk1s : k = 1 → chP ts (lyPr true ky vy) = false → TriC Try.prog 27 (acA k N m c1 q c2) (lyR .old ts.length (cpD ts) (cpD ts) ky vy) 7 (.bool true) (lySR ts.length (cpD ts) (cpD ts)) 8
 Rk1n : k = 1 → chP ts (lyPr true ky vy) = true → TriC Try.prog 27 (acA k N m c1 q c2) (lyR .old ts.length (cpD ts) (cpD ts) ky vy) 7 (.bool true) (lyON 8 9 (layP ts (lyPr true ky vy))) 10
 Rk5s : k = 5 → chP ts (lyPr false (k5V N) vy) = false → TriC Try.prog 27 (acA k N m c1 q c2) (lyR .old ts.length (cpD ts) (cpD ts) ky vy) 7 (.bool true) (lySR ts.length (cpD ts) (cpD ts)) 9
 Rk5n : k = 5 → chP ts (lyPr false (k5V N) vy) = true → TriC Try.prog 27 (acA k N m c1 q c2) (lyR .old ts.length (cpD ts) (cpD ts) ky vy) 7 (.bool true) (lyON 9 10 (layP ts (lyPr false (k5V N) vy))) 11
 Rk2m : k = 2 → hitP ts (B1 ky) = false → TriC Try.prog 27 (acA k N m c1 q c2) (lyR .old ts.length (cpD ts) (cpD ts) ky vy) 7 (.bool true) (lySR ts.length (cpD ts) (cpD ts)) 14
 Rk2h : k = 2 → hitP ts (B1 ky) = true → TriC Try.prog 27 (acA k N m c1 q c2) (lyR .old ts.length (cpD ts) (cpD ts) ky vy) 7 (.bool true) (lySR ts.length (cpD ts) (cpD ts)) 18
 Rk3e : k = 3 → (btw ts (B1 ky) (B1 vy)).isEmpty = true → TriC Try.prog 27 (acA k N m c1 q c2) (lyR .old ts.length (cpD ts) (cpD ts) ky vy) 7 (.bool true) (lySR ts.length (cpD ts) (cpD ts)) 8
 Rk3f : k = 3 → (btw ts (B1 ky) (B1 vy)).isEmpty = false → TriC Try.prog 27 (acA k N m c1 q c2) (lyR .old ts.length (cpD ts) (cpD ts) ky vy) 7 (.bool true) (lySR ts.length (cpD ts) (cpD ts)) 10
 Rk4uu : ts.isEmpty = false → k = 4 → hitP ts [111, 108, 100] = true → hitP (setP ts prO) [97] = true → TriC Try.prog 27 (acA k N m c1 q c2) (lyR .old ts.length (cpD ts) (cpD ts) ky vy) 7 (.bool true) (acOR 35 ts) 37
 Rk4uf : ts.isEmpty = false → k = 4 → hitP ts [111, 108, 100] = true → hitP (setP ts prO) [97] = false → 64 ≤ (setP ts prO).length → TriC Try.prog 27 (acA k N m c1 q c2) (lyR .old ts.length (cpD ts) (cpD ts) ky vy) 7 (.bool true) (acOR 27 ts) 29
 Rk4ui : ts.isEmpty = false → k = 4 → hitP ts [111, 108, 100] = true → hitP (setP ts prO) [97] = false → ¬64 ≤ (setP ts prO).length → TriC Try.prog 27 (acA k N m c1 q c2) (lyR .old ts.length (cpD ts) (cpD ts) ky vy) 7 (.bool true) (acOR 36 ts) 38
 Rk4fu : ts.isEmpty = false → k = 4 → hitP ts [111, 108, 100] = false → 64 ≤ ts.length → hitP ts [97] = true → TriC Try.prog 27 (acA k N m c1 q c2) (lyR .old ts.length (cpD ts) (cpD ts) ky vy) 7 (.bool true) (acOR 27 ts) 29
 Rk4ff : ts.isEmpty = false → k = 4 → hitP ts [111, 108, 100] = false → 64 ≤ ts.length → hitP ts [97] = false → 64 ≤ ts.length → TriC Try.prog 27 (acA k N m c1 q c2) (lyR .old ts.length (cpD ts) (cpD ts) ky vy) 7 (.bool true) (acOR 19 ts) 21
 Rk4fi : ts.isEmpty = false → k = 4 → hitP ts [111, 108, 100] = false → 64 ≤ ts.length → hitP ts [97] = false → ¬64 ≤ ts.length → TriC Try.prog 27 (acA k N m c1 q c2) (lyR .old ts.length (cpD ts) (cpD ts) ky vy) 7 (.bool true) (acOR 28 ts) 30
 Rk4iu : ts.isEmpty = false → k = 4 → hitP ts [111, 108, 100] = false → ¬64 ≤ ts.length → hitP (insP ts prO) [97] = true → TriC Try.prog 27 (acA k N m c1 q c2) (lyR .old ts.length (cpD ts) (cpD ts) ky vy) 7 (.bool true) (acOR 36 ts) 38
 Rk4if : ts.isEmpty = false → k = 4 → hitP ts [111, 108, 100] = false → ¬64 ≤ ts.length → hitP (insP ts prO) [97] = false → 64 ≤ (insP ts prO).length → TriC Try.prog 27 (acA k N m c1 q c2) (lyR .old ts.length (cpD ts) (cpD ts) ky vy) 7 (.bool true) (acOR 28 ts) 30
 Rk4ii : ts.isEmpty = false → k = 4 → hitP ts [111, 108, 100] = false → ¬64 ≤ ts.length → hitP (insP ts prO) [97] = false → ¬64 ≤ (insP ts prO).length → TriC Try.prog 27 (acA k N m c1 q c2) (lyR .old ts.length (cpD ts) (cpD ts) ky vy) 7 (.bool true) (acOR 37 ts) 39
 Rkx : k ≠ 0 → k ≠ 1 → k ≠ 2 → k ≠ 3 → k ≠ 4 → k ≠ 5 → TriC Try.prog 27 (acA k N m c1 q c2) (lyR .old ts.length (cpD ts) (cpD ts) ky vy) 7 (.bool true) (lySR ts.length (cpD ts) (cpD ts)) 8
set_option maxHeartbeats 8000000 in
theorem act {k N : Int} {m c1 q c2 : Nat} {ky vy : List Value} {ts : List Pr} (I : LyI m c1 q c2 ky vy) (hT : Ti ts) : AcT k N m c1 q c2 ky vy ts := by
 have hm := hT.m
 have cpl := C0 ts
 have hle := It ts [111, 108, 100]
 have iO : B1 [.int .u8 111, .int .u8 108, .int .u8 100] = [111, 108, 100] := rfl
 have iA : B1 [.int .u8 97] = [97] := rfl
 have jO : B1 vO = [111, 108, 100] := rfl
 have jA : B1 vA = [97] := rfl
 have eO : [DV.sl 3 none (List.map DV.fl vO), DV.sl 0 none (List.map DV.fl []), DV.fl (.bool false)] = prD none none prO := rfl
 have eA : [DV.sl 1 none (List.map DV.fl vA), DV.sl 0 none (List.map DV.fl []), DV.fl (.bool true)] = prD none none prA := rfl
 have nO : (prD none none prO).length = 3 := rfl
 have nA : (prD none none prA).length = 3 := rfl
 have s1 : setD (cpD ts) (lbP ts [111, 108, 100] * 3) (prD none none prO) = cpD (setP ts prO) := setD_cpD ts prO
 have s2 : insD (cpD ts) (lbP ts [111, 108, 100]) (prD none none prO) = cpD (insP ts prO) := insD_cpD ts prO
 have n1 := Kl ts prO
 have TO : Ti [prO] := (Ti.nil.ins pO kO rfl (by show 0 < 64; omega) : Ti (insP [] prO))
 have eR : rbR ⟨ts.length, m, c1, q, c2, cpD ts, ky, vy⟩ = btw ts (B1 ky) (B1 vy) := by
  show fiP (B1 ky) (B1 vy) (B2 (cpD ts)) = _
  rw [Bc]
  exact fi_btw hT.a
 have hbl := btw_len ts (B1 ky) (B1 vy)
 have hB : RbOk (cpD ts) ts.length m c1 q c2 ky vy := ⟨hT.at I.k, I.v, I.c1.2, I.c2.2⟩
 have hB0 : RbOk [] 0 m c1 q c2 ky vy := ⟨Ti.nil.at I.k, I.v, I.c1.2, I.c2.2⟩
 have hsp := Bm (W := btw ts (B1 ky) (B1 vy)) (by omega)
 have z0 := hT.tb
 have hu : hitP ts [111, 108, 100] = true → (setP ts prO).length = ts.length ∧ lbP ts [111, 108, 100] < ts.length ∧ Ti (setP ts prO) := fun h => ⟨setP_len (p := prO) h, (Hl h).2.2, hT.set pO kO h⟩
 have hi : hitP ts [111, 108, 100] = false → ¬64 ≤ ts.length → Ti (insP ts prO) := fun h g => hT.ins pO kO h (by omega)
 have lb1 : ∀ t : List Pr, lbP t [97] ≤ t.length := fun t => It t [97]
 have ht1 : ∀ {t : List Pr}, hitP t [97] = true → lbP t [97] < t.length := fun h => (Hl h).2.2
 refine ⟨fun h1 h2 => lyc (B8 acX acTv acL (ac_Nk0s k N m c1 q c2 0 [] [] ky vy) ?_ rfl) ?_, fun h1 h2 => lyc (B8 acX acTv acL (ac_Nk0n k N m c1 q c2 0 [] [] ky vy) ?_ rfl) ?_, fun h1 h2 => lyc (B8 acX acTv acL (ac_Nk1s k N m c1 q c2 0 [] [] ky vy) ?_ rfl) ?_, fun h1 h2 => lyc (B8 acX acTv acL (ac_Nk1n k N m c1 q c2 0 [] [] ky vy) ?_ rfl) ?_, fun h1 h2 => lyc (B8 acX acTv acL (ac_Nk5s k N m c1 q c2 0 [] [] ky vy) ?_ rfl) ?_, fun h1 h2 => lyc (B8 acX acTv acL (ac_Nk5n k N m c1 q c2 0 [] [] ky vy) ?_ rfl) ?_, fun h1 => lyc (B8 acX acTv acL (ac_Nk2m k N m c1 q c2 0 [] [] ky vy) ?_ rfl) ?_, fun h1 => lyc (B8 acX acTv acL (ac_Nk3e k N m c1 q c2 0 [] [] ky vy) ?_ rfl) ?_, fun h1 => lyc (B8 acX acTv acL (ac_Nk4 k N m c1 q c2 0 [] [] ky vy) ?_ rfl) ?_, fun h1 h2 h3 h4 h5 h6 => lyc (B8 acX acTv acL (ac_Nkx k N m c1 q c2 0 [] [] ky vy) ?_ rfl) ?_, fun h1 h2 => lyc (B8 acX acTv acL (ac_Ek0s k N m c1 q c2 0 [] [] ky vy) ?_ rfl) ?_, fun h1 h2 => lyc (B8 acX acTv acL (ac_Ek0n k N m c1 q c2 0 [] [] ky vy) ?_ rfl) ?_, fun h1 h2 => lyc (B8 acX acTv acL (ac_Ek1s k N m c1 q c2 0 [] [] ky vy) ?_ rfl) ?_, fun h1 h2 => lyc (B8 acX acTv acL (ac_Ek1n k N m c1 q c2 0 [] [] ky vy) ?_ rfl) ?_, fun h1 h2 => lyc (B8 acX acTv acL (ac_Ek5s k N m c1 q c2 0 [] [] ky vy) ?_ rfl) ?_, fun h1 h2 => lyc (B8 acX acTv acL (ac_Ek5n k N m c1 q c2 0 [] [] ky vy) ?_ rfl) ?_, fun h1 => lyc (B8 acX acTv acL (ac_Ek2m k N m c1 q c2 0 [] [] ky vy) ?_ rfl) ?_, fun h1 => lyc (B8 acX acTv acL (ac_Ek3e k N m c1 q c2 0 [] [] ky vy) ?_ rfl) ?_, fun h1 => lyc (B8 acX acTv acL (ac_Ek4 k N m c1 q c2 0 [] [] ky vy) ?_ rfl) ?_, fun h1 h2 h3 h4 h5 h6 => lyc (B8 acX acTv acL (ac_Ekx k N m c1 q c2 0 [] [] ky vy) ?_ rfl) ?_, fun h1 h2 => lyc (B8 acX acTv acL (ac_Rk0s k N m c1 q c2 ts.length (cpD ts) (cpD ts) ky vy) ?_ rfl) ?_, fun h1 h2 => lyc (B8 acX acTv acL (ac_Rk0n k N m c1 q c2 ts.length (cpD ts) (cpD ts) ky vy) ?_ rfl) ?_, fun h1 h2 => lyc (B8 acX acTv acL (ac_Rk1s k N m c1 q c2 ts.length (cpD ts) (cpD ts) ky vy) ?_ rfl) ?_, fun h1 h2 => lyc (B8 acX acTv acL (ac_Rk1n k N m c1 q c2 ts.length (cpD ts) (cpD ts) ky vy) ?_ rfl) ?_, fun h1 h2 => lyc (B8 acX acTv acL (ac_Rk5s k N m c1 q c2 ts.length (cpD ts) (cpD ts) ky vy) ?_ rfl) ?_, fun h1 h2 => lyc (B8 acX acTv acL (ac_Rk5n k N m c1 q c2 ts.length (cpD ts) (cpD ts) ky vy) ?_ rfl) ?_, fun h1 h2 => lyc (B8 acX acTv acL (ac_Rk2m k N m c1 q c2 ts.length (cpD ts) (cpD ts) ky vy) ?_ rfl) ?_, fun h1 h2 => lyc (B8 acX acTv acL (ac_Rk2h k N m c1 q c2 ts.length (cpD ts) (cpD ts) ky vy) ?_ rfl) ?_, fun h1 h2 => lyc (B8 acX acTv acL (ac_Rk3e k N m c1 q c2 ts.length (cpD ts) (cpD ts) ky vy) ?_ rfl) ?_, fun h1 h2 => lyc (B8 acX acTv acL (ac_Rk3f k N m c1 q c2 ts.length (cpD ts) (cpD ts) ky vy) ?_ rfl) ?_, fun h1 h2 h3 h4 => lyc (B8 acX acTv acL (ac_Rk4uu k N m c1 q c2 ts.length (cpD ts) (cpD ts) ky vy) ?_ rfl) ?_, fun h1 h2 h3 h4 h5 => lyc (B8 acX acTv acL (ac_Rk4uf k N m c1 q c2 ts.length (cpD ts) (cpD ts) ky vy) ?_ rfl) ?_, fun h1 h2 h3 h4 h5 => lyc (B8 acX acTv acL (ac_Rk4ui k N m c1 q c2 ts.length (cpD ts) (cpD ts) ky vy) ?_ rfl) ?_, fun h1 h2 h3 h4 h5 => lyc (B8 acX acTv acL (ac_Rk4fu k N m c1 q c2 ts.length (cpD ts) (cpD ts) ky vy) ?_ rfl) ?_, fun h1 h2 h3 h4 h5 h6 => lyc (B8 acX acTv acL (ac_Rk4ff k N m c1 q c2 ts.length (cpD ts) (cpD ts) ky vy) ?_ rfl) ?_, fun h1 h2 h3 h4 h5 h6 => lyc (B8 acX acTv acL (ac_Rk4fi k N m c1 q c2 ts.length (cpD ts) (cpD ts) ky vy) ?_ rfl) ?_, fun h1 h2 h3 h4 h5 => lyc (B8 acX acTv acL (ac_Rk4iu k N m c1 q c2 ts.length (cpD ts) (cpD ts) ky vy) ?_ rfl) ?_, fun h1 h2 h3 h4 h5 h6 => lyc (B8 acX acTv acL (ac_Rk4if k N m c1 q c2 ts.length (cpD ts) (cpD ts) ky vy) ?_ rfl) ?_, fun h1 h2 h3 h4 h5 h6 => lyc (B8 acX acTv acL (ac_Rk4ii k N m c1 q c2 ts.length (cpD ts) (cpD ts) ky vy) ?_ rfl) ?_, fun h1 h2 h3 h4 h5 h6 => lyc (B8 acX acTv acL (ac_Rkx k N m c1 q c2 ts.length (cpD ts) (cpD ts) ky vy) ?_ rfl) ?_⟩
 all_goals first
  | exact rfl
  | (show (_ : Hp) = _
     simp only [Bc]
     rfl)
  | (show (_ : Hp) = _
     unfold acOQ
     rw [List.drop_zero, List.nil_append, Nat.zero_add, List.take_of_length_le (by rw [C0]; exact Nat.le_refl _)]
     rfl)
  | skip
 all_goals (try have u := hu h3)
 all_goals (try have u := hi h3 h4)
 all_goals (try have v := lb1 ts)
 all_goals (try have v1 := lb1 (setP ts prO))
 all_goals (try have v2 := lb1 (insP ts prO))
 all_goals (try have x := ht1 h4)
 all_goals (try have x := ht1 h5)
 all_goals (try have tb1 := u.tb)
 all_goals (try have tb1 := u.2.2.tb)
 all_goals (try rw [n1] at tb1)
 all_goals (try rw [u.1] at tb1)
 all_goals (try have mu := u.m)
 all_goals (try have mu := u.2.2.m)
 all_goals first
  | (have g := Hl (ps := ts) (k := B1 ky) h2
     have g1 := g.1
     have g2 := g.2.1
     have g3 := g.2.2
     have F : PrAt (cpD ts) (lbP ts (B1 ky)) (atP ts (B1 ky)) := (H2 ts).facts g1
     have bp := hT.o _ (List.mem_of_getElem? g1)
     have f0 := F.l0
     have f1 := F.l1
     have v0 := F.v0
     have v1 := F.v1
     have gb := F.g
     have o1 := F.o29
     generalize hp : atP ts (B1 ky) = p at *
     have s1 := strEq_self (C5 p.1)
     have s2 := strEq_self (C5 p.2.1)
     have hl0 := Bz p.1
     have hl1 := Bz p.2.1
     have r0 := Cm p.1
     have r1 := Cm p.2.1
     have y0 : p.1.length = 0 → byV p.1 = [] := fun e => List.eq_nil_of_length_eq_zero (by omega)
     have y1 : p.2.1.length = 0 → byV p.2.1 = [] := fun e => List.eq_nil_of_length_eq_zero (by omega)
     simp only [Alls, Bw, acPu, acPf, acPi, acRu, acRf, acRi, acCl, Bl, cond_true, cond_false, List.drop_zero, Bc, beq_iff_eq, beq_eq_false_iff_ne, ne_eq, rg, decide_eq_true_eq, decide_eq_false_iff_not, Nat.add_zero, C0, hp, f0, f1, v0, v1, gb, Hv, C1, Bz, beq_self_eq_true, Nat.le_refl]
     repeat' (with_reducible apply And.intro)
     all_goals first | omega | (with_reducible assumption) | (with_reducible exact trivial) | (with_reducible rfl) | exact I.k | exact I.v | exact I.k.fl | exact I.v.fl | exact fun e => I.k.nil e | exact fun e => I.v.nil e | exact lyok0 lyS0 I | exact lyok0 lyS5 (I.k5 N) | exact E7 lyS0 I hT | exact E7 lyS5 (I.k5 N) hT | exact Ti.nil.tk | exact Ti.nil.at I.k | exact hT.tk | exact hT.at I.k | exact hB | exact hB0 | exact (fun τ => rfl) | (intro _; rfl) | exact Ti.nil.tb | exact Cb | exact cl_ok hT h1 | exact C8 | exact C2 _ | exact bO.fl | exact bA.fl | exact bO | exact bA | exact h2 | exact hsp | exact Bm (W := []) (by show 0 ≤ 1000; omega) | exact ⟨hT.tb, bO⟩ | exact ⟨Ti.nil.tb, bO⟩ | exact ⟨hT.tb, bA⟩ | exact ⟨tb1, bA⟩ | exact ⟨TO.tb, bA⟩ | exact o1 _ | exact r0 | exact r1 | exact Ho _ | exact dv1_pr _ | exact Li (Ho _) _ | exact Li (Ho []) _ | exact trivial | rfl | decide | skip)
  | (simp only [Alls, Bw, acPu, acPf, acPi, acRu, acRf, acRi, acCl, Bl, cond_true, cond_false, List.drop_zero, Bc, beq_iff_eq, beq_eq_false_iff_ne, ne_eq, rg, decide_eq_true_eq, decide_eq_false_iff_not, Nat.add_zero, C0, eR, dvO, dvA, eO, eA, jO, jA, iO, iA, nO, nA, s1, s2]
     repeat' (with_reducible apply And.intro)
     all_goals first | omega | (with_reducible assumption) | (with_reducible exact trivial) | (with_reducible rfl) | exact I.k | exact I.v | exact I.k.fl | exact I.v.fl | exact fun e => I.k.nil e | exact fun e => I.v.nil e | exact lyok0 lyS0 I | exact lyok0 lyS5 (I.k5 N) | exact E7 lyS0 I hT | exact E7 lyS5 (I.k5 N) hT | exact Ti.nil.tk | exact Ti.nil.at I.k | exact hT.tk | exact hT.at I.k | exact hB | exact hB0 | exact (fun τ => rfl) | (intro _; rfl) | exact Ti.nil.tb | exact Cb | exact cl_ok hT h1 | exact C8 | exact C2 _ | exact bO.fl | exact bA.fl | exact bO | exact bA | exact h2 | exact hsp | exact Bm (W := []) (by show 0 ≤ 1000; omega) | exact ⟨hT.tb, bO⟩ | exact ⟨Ti.nil.tb, bO⟩ | exact ⟨hT.tb, bA⟩ | exact ⟨tb1, bA⟩ | exact ⟨TO.tb, bA⟩ | exact o1 _ | exact r0 | exact r1 | exact Ho _ | exact dv1_pr _ | exact Li (Ho _) _ | exact Li (Ho []) _ | exact trivial | rfl | decide | skip)
def acPr (k N : Int) (ky vy : List Value) : Option Pr := if k = 0 then some (lyPr false ky vy) else if k = 1 then some (lyPr true ky vy) else if k = 5 then some (lyPr false (k5V N) vy) else none
def acQ (k N : Int) (ts : List Pr) (ky vy : List Value) : List Pr := match acPr k N ky vy with
 | some p => layP ts p
 | none => ts
def acCh (k N : Int) (ts : List Pr) (ky vy : List Value) : Bool := match acPr k N ky vy with
 | some p => chP ts p
 | none => false
theorem lyPr_ok {m c1 q c2 : Nat} {ky vy : List Value} {g : Bool} (I : LyI m c1 q c2 ky vy) : PrOk (lyPr g ky vy) := by
 refine ⟨I.k.2.1, ?_⟩
 cases g with
 | false => exact I.v.2.1
 | true => intro x hx; cases hx
theorem acPr_ok {k N : Int} {m c1 q c2 : Nat} {ky vy : List Value} {p : Pr} (I : LyI m c1 q c2 ky vy) (h : acPr k N ky vy = some p) : PrOk p := by
 unfold acPr at h
 split at h
 ·cases h; exact lyPr_ok I
 split at h
 ·cases h; exact lyPr_ok I
 split at h
 ·cases h; exact lyPr_ok (I.k5 N)
 ·cases h
theorem acQ_ti {k N : Int} {m c1 q c2 : Nat} {ky vy : List Value} {ts : List Pr} (I : LyI m c1 q c2 ky vy) (hT : Ti ts) : Ti (acQ k N ts ky vy) := by
 unfold acQ
 split
 ·rename_i p hp; exact hT.lay (acPr_ok I hp)
 ·exact hT
theorem lay_ne {ts : List Pr} {p : Pr} (h : chP ts p = true) : (layP ts p).isEmpty = false := by
 cases hh : hitP ts p.1 with
 | true => rw [M5 h hh]; unfold setP; cases List.take (lbP ts p.1) ts <;> rfl
 | false => rw [(Eh h hh).1]; unfold insP; cases List.take (lbP ts p.1) ts <;> rfl
theorem acQ_ne {k N : Int} {ts : List Pr} {ky vy : List Value} (h : acCh k N ts ky vy = true) : (acQ k N ts ky vy).isEmpty = false := by
 unfold acCh at h
 unfold acQ
 split at h
 ·rename_i p hp; exact lay_ne h
 ·cases h
def foCR (n : Nat) (es : List DV) : Fo := ⟨fun _ => .bool true, [(0, fun μ => ⟨.shut, [.pointer (some ⟨μ 7, 0, none⟩), .pointer (some ⟨μ 8, 0, none⟩)]⟩), (7, lyRt 9 n), (8, lyRr 10 n), (9, lyRd es), (10, lyRd es)], 4⟩
def gR (x : Nat) : Nat → Nat := fun i => bif Nat.beq i 0 then 8 else bif Nat.beq i 1 then x + 1 else bif Nat.beq i 2 then 9 else x
theorem Ik {f : FuncId} {x nx' n : Nat} {es : List DV} {args : (Nat → Nat) → List Value} {rows : List (Nat × ((Nat → Nat) → Rw))} {h' : Hp} (na : NatL 7 args) (nr : ∀ p ∈ rows, NatR 7 p.2) (h0 : 0 ∈ rows.map (·.1)) (T : TriC Try.prog f (args id) (mapR id rows) 7 (.bool true) h' nx')
  (k0 : lk h' 0 = some ⟨.shut, [.pointer (some ⟨8, 0, none⟩), .pointer (some ⟨x + 1, 0, none⟩)]⟩) (k8 : lk h' 8 = some ⟨.shut, [.bool true, .slice (some ⟨9, 0, none⟩) n (B0 + 9)]⟩) (kr : lk h' (x + 1) = some ⟨.shut, [.slice (some ⟨x, 0, none⟩) n (B0 + x)]⟩) (k9 : lk h' 9 = some ⟨.dp 3 zPr es, []⟩) (kx : lk h' x = some ⟨.dp 3 zPr es, []⟩) (hx : 10 ≤ x) (hx2 : x + 1 < nx') : FoOk Try.prog f 7 args rows (foCR n es) := by
 refine ⟨na, nr, nat_fl fun _ => rfl, ?_, .bool true, h', nx', gR x, T, rfl, ?_, ?_, ?_⟩
 ·intro p hp
  simp only [foCR, List.mem_cons, List.not_mem_nil, or_false] at hp
  rcases hp with rfl | rfl | rfl | rfl | rfl
  ·exact ⟨by show 0 < 7 + 4; omega, Hi (Bv (Dm (by show 7 < 7 + 4; omega)) (Bv (Dm (by show 8 < 7 + 4; omega)) Dn)) rfl, fun _ => h0⟩
  ·exact ⟨by show 7 < 7 + 4; omega, natRt (by show 9 < 7 + 4; omega), fun h => absurd h (by show ¬ 7 < 7; omega)⟩
  ·exact ⟨by show 8 < 7 + 4; omega, natRr (by show 10 < 7 + 4; omega), fun h => absurd h (by show ¬ 8 < 7; omega)⟩
  ·exact ⟨by show 9 < 7 + 4; omega, Ev, fun h => absurd h (by show ¬ 9 < 7; omega)⟩
  ·exact ⟨by show 10 < 7 + 4; omega, Ev, fun h => absurd h (by show ¬ 10 < 7; omega)⟩
 ·intro p hp
  simp only [foCR, List.mem_cons, List.not_mem_nil, or_false] at hp
  rcases hp with rfl | rfl | rfl | rfl | rfl
  ·exact k0
  ·exact k8
  ·exact kr
  ·exact k9
  ·exact kx
 ·intro i j hi hj e
  have hi : i < 4 := hi
  have hj : j < 4 := hj
  have e0 : gR x 0 = 8 := rfl
  have e1 : gR x 1 = x + 1 := rfl
  have e2 : gR x 2 = 9 := rfl
  have e3 : gR x 3 = x := rfl
  have ci : i = 0 ∨ i = 1 ∨ i = 2 ∨ i = 3 := by omega
  have cj : j = 0 ∨ j = 1 ∨ j = 2 ∨ j = 3 := by omega
  rcases ci with rfl | rfl | rfl | rfl <;> rcases cj with rfl | rfl | rfl | rfl <;> (simp only [e0, e1, e2, e3] at e; omega)
 ·intro i hi
  have hi : i < 4 := hi
  have e0 : gR x 0 = 8 := rfl
  have e1 : gR x 1 = x + 1 := rfl
  have e2 : gR x 2 = 9 := rfl
  have e3 : gR x 3 = x := rfl
  have ci : i = 0 ∨ i = 1 ∨ i = 2 ∨ i = 3 := by omega
  rcases ci with rfl | rfl | rfl | rfl <;> (simp only [e0, e1, e2, e3]; omega)
def foCN : Fo := ⟨fun _ => .bool true, [(0, fun μ => ⟨.shut, [.pointer (some ⟨μ 5, 0, none⟩), .pointer (some ⟨μ 6, 0, none⟩)]⟩), (5, fun _ => ⟨.shut, [.bool true, .slice none 0 0]⟩), (6, lyRr 7 0), (7, lyRd [])], 3⟩
def gN : Nat → Nat := fun i => bif Nat.beq i 0 then 6 else bif Nat.beq i 1 then 34 else 33
theorem fo_clN {f : FuncId} {nx' : Nat} {args : (Nat → Nat) → List Value} {rows : List (Nat × ((Nat → Nat) → Rw))} {h' : Hp} (na : NatL 5 args) (nr : ∀ p ∈ rows, NatR 5 p.2) (h0 : 0 ∈ rows.map (·.1)) (T : TriC Try.prog f (args id) (mapR id rows) 5 (.bool true) h' nx')
  (k0 : lk h' 0 = some ⟨.shut, [.pointer (some ⟨6, 0, none⟩), .pointer (some ⟨34, 0, none⟩)]⟩) (k8 : lk h' 6 = some ⟨.shut, [.bool true, .slice none 0 0]⟩) (kr : lk h' 34 = some ⟨.shut, [.slice (some ⟨33, 0, none⟩) 0 (B0 + 33)]⟩) (kx : lk h' 33 = some ⟨.dp 3 zPr [], []⟩) (hx2 : 34 < nx') : FoOk Try.prog f 5 args rows foCN := by
 refine ⟨na, nr, nat_fl fun _ => rfl, ?_, .bool true, h', nx', gN, T, rfl, ?_, ?_, ?_⟩
 ·intro p hp
  simp only [foCN, List.mem_cons, List.not_mem_nil, or_false] at hp
  rcases hp with rfl | rfl | rfl | rfl
  ·exact ⟨by show 0 < 5 + 3; omega, Hi (Bv (Dm (by show 5 < 5 + 3; omega)) (Bv (Dm (by show 6 < 5 + 3; omega)) Dn)) rfl, fun _ => h0⟩
  ·exact ⟨by show 5 < 5 + 3; omega, natSh fun _ => rfl, fun h => absurd h (by show ¬ 5 < 5; omega)⟩
  ·exact ⟨by show 6 < 5 + 3; omega, natRr (by show 7 < 5 + 3; omega), fun h => absurd h (by show ¬ 6 < 5; omega)⟩
  ·exact ⟨by show 7 < 5 + 3; omega, Ev, fun h => absurd h (by show ¬ 7 < 5; omega)⟩
 ·intro p hp
  simp only [foCN, List.mem_cons, List.not_mem_nil, or_false] at hp
  rcases hp with rfl | rfl | rfl | rfl
  ·exact k0
  ·exact k8
  ·exact kr
  ·exact kx
 ·intro i j hi hj e
  have hi : i < 3 := hi
  have hj : j < 3 := hj
  have e0 : gN 0 = 6 := rfl
  have e1 : gN 1 = 34 := rfl
  have e2 : gN 2 = 33 := rfl
  have ci : i = 0 ∨ i = 1 ∨ i = 2 := by omega
  have cj : j = 0 ∨ j = 1 ∨ j = 2 := by omega
  rcases ci with rfl | rfl | rfl <;> rcases cj with rfl | rfl | rfl <;> (simp only [e0, e1, e2] at e; omega)
 ·intro i hi
  have hi : i < 3 := hi
  have e0 : gN 0 = 6 := rfl
  have e1 : gN 1 = 34 := rfl
  have e2 : gN 2 = 33 := rfl
  have ci : i = 0 ∨ i = 1 ∨ i = 2 := by omega
  rcases ci with rfl | rfl | rfl <;> (simp only [e0, e1, e2]; omega)
def foCE : Fo := ⟨fun _ => .bool true, [(0, fun μ => ⟨.shut, [.pointer (some ⟨μ 6, 0, none⟩), .pointer (some ⟨μ 7, 0, none⟩)]⟩), (6, fun _ => ⟨.shut, [.bool true, .slice none 0 0]⟩), (7, lyRr 8 0), (8, lyRd [])], 3⟩
def gE : Nat → Nat := fun i => bif Nat.beq i 0 then 7 else bif Nat.beq i 1 then 37 else 36
theorem fo_clE {f : FuncId} {nx' : Nat} {args : (Nat → Nat) → List Value} {rows : List (Nat × ((Nat → Nat) → Rw))} {h' : Hp} (na : NatL 6 args) (nr : ∀ p ∈ rows, NatR 6 p.2) (h0 : 0 ∈ rows.map (·.1)) (T : TriC Try.prog f (args id) (mapR id rows) 6 (.bool true) h' nx')
  (k0 : lk h' 0 = some ⟨.shut, [.pointer (some ⟨7, 0, none⟩), .pointer (some ⟨37, 0, none⟩)]⟩) (k8 : lk h' 7 = some ⟨.shut, [.bool true, .slice none 0 0]⟩) (kr : lk h' 37 = some ⟨.shut, [.slice (some ⟨36, 0, none⟩) 0 (B0 + 36)]⟩) (kx : lk h' 36 = some ⟨.dp 3 zPr [], []⟩) (hx2 : 37 < nx') : FoOk Try.prog f 6 args rows foCE := by
 refine ⟨na, nr, nat_fl fun _ => rfl, ?_, .bool true, h', nx', gE, T, rfl, ?_, ?_, ?_⟩
 ·intro p hp
  simp only [foCE, List.mem_cons, List.not_mem_nil, or_false] at hp
  rcases hp with rfl | rfl | rfl | rfl
  ·exact ⟨by show 0 < 6 + 3; omega, Hi (Bv (Dm (by show 6 < 6 + 3; omega)) (Bv (Dm (by show 7 < 6 + 3; omega)) Dn)) rfl, fun _ => h0⟩
  ·exact ⟨by show 6 < 6 + 3; omega, natSh fun _ => rfl, fun h => absurd h (by show ¬ 6 < 6; omega)⟩
  ·exact ⟨by show 7 < 6 + 3; omega, natRr (by show 8 < 6 + 3; omega), fun h => absurd h (by show ¬ 7 < 6; omega)⟩
  ·exact ⟨by show 8 < 6 + 3; omega, Ev, fun h => absurd h (by show ¬ 8 < 6; omega)⟩
 ·intro p hp
  simp only [foCE, List.mem_cons, List.not_mem_nil, or_false] at hp
  rcases hp with rfl | rfl | rfl | rfl
  ·exact k0
  ·exact k8
  ·exact kr
  ·exact kx
 ·intro i j hi hj e
  have hi : i < 3 := hi
  have hj : j < 3 := hj
  have e0 : gE 0 = 7 := rfl
  have e1 : gE 1 = 37 := rfl
  have e2 : gE 2 = 36 := rfl
  have ci : i = 0 ∨ i = 1 ∨ i = 2 := by omega
  have cj : j = 0 ∨ j = 1 ∨ j = 2 := by omega
  rcases ci with rfl | rfl | rfl <;> rcases cj with rfl | rfl | rfl <;> (simp only [e0, e1, e2] at e; omega)
 ·intro i hi
  have hi : i < 3 := hi
  have e0 : gE 0 = 7 := rfl
  have e1 : gE 1 = 37 := rfl
  have e2 : gE 2 = 36 := rfl
  have ci : i = 0 ∨ i = 1 ∨ i = 2 := by omega
  rcases ci with rfl | rfl | rfl <;> (simp only [e0, e1, e2]; omega)
def acN (a : LyArg) : LyArg := ⟨false, false, a.m, a.c1, a.q, a.c2, a.n1, a.n2, a.es, a.rs, a.ky, a.vy⟩
abbrev De := Int × Int × LyArg
def acAg (a : De) : (Nat → Nat) → List Value := fun μ => [.pointer (some ⟨μ 0, 0, none⟩), .agg ⟨[.int .i64 a.1, .int .i64 a.2.1, .slice (some ⟨μ 3, 0, none⟩) a.2.2.m a.2.2.c1, .slice (some ⟨μ 4, 0, none⟩) a.2.2.q a.2.2.c2]⟩]
theorem natAc {n : Nat} {a : De} (hn : 5 ≤ n) (h1 : a.2.2.c1 ≤ 9223372036854775807) (h2 : a.2.2.c2 ≤ 9223372036854775807) : NatL n (acAg a) := Bv (Dm (by omega)) (Bv (nat_agg (Bv (nat_fl fun _ => rfl) (Bv (nat_fl fun _ => rfl) (Bv (Jm (by omega) (by unfold B0; omega)) (Bv (Jm (by omega) (by unfold B0; omega)) Dn))))) Dn)
theorem in012 {rows : List (Nat × ((Nat → Nat) → Rw))} {a b c : (Nat → Nat) → Rw} {l : List (Nat × ((Nat → Nat) → Rw))} (h : rows = (0, a) :: (1, b) :: (2, c) :: l) : ∀ i, i < 3 → i ∈ rows.map (·.1) := fun i hi => by
 subst h
 match i, hi with
 | 0, _ => exact List.mem_cons_self ..
 | 1, _ => exact List.mem_cons_of_mem _ (List.mem_cons_self ..)
 | 2, _ => exact List.mem_cons_of_mem _ (List.mem_cons_of_mem _ (List.mem_cons_self ..))
theorem acPr_no {k N : Int} {ky vy : List Value} (h0 : k ≠ 0) (h1 : k ≠ 1) (h5 : k ≠ 5) : acPr k N ky vy = none := by
 unfold acPr
 rw [if_neg h0, if_neg h1, if_neg h5]
structure AcOkN (a : De) : Prop where
 o : LyI a.2.2.m a.2.2.c1 a.2.2.q a.2.2.c2 a.2.2.ky a.2.2.vy
def L5 (a : De) : List (Nat × ((Nat → Nat) → Rw)) := Ex (acN a.2.2)
def acOutN (a : De) : Tape → Option (Fo × Tape × List Prop)
 | true :: tp => some (foCN, tp, [AcOkN a ∧ a.1 = 4])
 | false :: b :: tp => some (bif b then I2 5 (acQ a.1 a.2.1 [] a.2.2.ky a.2.2.vy) else foSN (acN a.2.2), tp, [AcOkN a ∧ a.1 ≠ 4 ∧ acCh a.1 a.2.1 [] a.2.2.ky a.2.2.vy = b])
 | _ => none
theorem acOutN_ok (a : De) (tp : Tape) (o : Fo) (tp' : Tape) (ob : List Prop) (h : acOutN a tp = some (o, tp', ob)) (ho : Alls ob) : FoOk Try.prog 27 5 (acAg a) (L5 a) o := by
 obtain ⟨k, N, s, g, m, c1, q, c2, n1, n2, es, rs, ky, vy⟩ := a
 have red : AcOkN (k, N, ⟨s, g, m, c1, q, c2, n1, n2, es, rs, ky, vy⟩) := by
  unfold acOutN at h
  split at h
  ·simp only [oI, pI] at h; obtain ⟨_, _, rfl⟩ := h; exact ho.1.1
  ·simp only [oI, pI] at h; obtain ⟨_, _, rfl⟩ := h; exact ho.1.1
  ·cases h
 have I := red.o
 dsimp only at I
 have na : NatL 5 (acAg (k, N, ⟨s, g, m, c1, q, c2, n1, n2, es, rs, ky, vy⟩)) := natAc (by omega) I.c1.2 I.c2.2
 have nr : ∀ p ∈ L5 (k, N, ⟨s, g, m, c1, q, c2, n1, n2, es, rs, ky, vy⟩), NatR 5 p.2 := lyNrN _ I.k.fl I.v.fl
 have h012 : ∀ i, i < 3 → i ∈ (L5 (k, N, ⟨s, g, m, c1, q, c2, n1, n2, es, rs, ky, vy⟩)).map (·.1) := in012 rfl
 have fs : ∀ {nx' : Nat}, TriC Try.prog 27 (acAg (k, N, ⟨s, g, m, c1, q, c2, n1, n2, es, rs, ky, vy⟩) id) (mapR id (L5 (k, N, ⟨s, g, m, c1, q, c2, n1, n2, es, rs, ky, vy⟩))) 5 (.bool true) (lySN) nx' → FoOk Try.prog 27 5 (acAg (k, N, ⟨s, g, m, c1, q, c2, n1, n2, es, rs, ky, vy⟩)) (L5 (k, N, ⟨s, g, m, c1, q, c2, n1, n2, es, rs, ky, vy⟩)) (foSN (acN (k, N, ⟨s, g, m, c1, q, c2, n1, n2, es, rs, ky, vy⟩).2.2)) := fun T => Jp na nr rfl rfl (fun p hp => by
   simp only [foSN, List.mem_cons, List.not_mem_nil, or_false] at hp
   rcases hp with rfl | rfl | rfl <;> exact ⟨by unfold L5 Ex; simp only [List.mem_cons, true_or, or_true], by dsimp only; omega⟩) T (fun p hp => by
   simp only [foSN, List.mem_cons, List.not_mem_nil, or_false] at hp
   rcases hp with rfl | rfl | rfl <;> rfl) (fun p hp => by
   simp only [foSN, List.mem_cons, List.not_mem_nil, or_false] at hp
   rcases hp with rfl | rfl | rfl <;> rfl)
 unfold acOutN at h
 split at h
 case h_3 => cases h
 ·simp only [oI, pI] at h
  obtain ⟨rfl, rfl, rfl⟩ := h
  have hk : k = 4 := ho.1.2
  exact fo_clN na nr (h012 0 (by omega)) ((act (N := N) I Ti.nil).Nk4 hk) rfl rfl rfl rfl (by omega)
 ·rename_i b tp2
  simp only [oI, pI] at h
  obtain ⟨rfl, rfl, rfl⟩ := h
  obtain ⟨⟨_, h4, hb⟩, _⟩ := ho
  (try dsimp only at h4 hb)
  by_cases h0 : k = 0
  ·have e : acPr k N ky vy = some (lyPr false ky vy) := by unfold acPr; rw [if_pos h0]
   have eL : acQ k N [] ky vy = layP [] (lyPr false ky vy) := by unfold acQ; rw [e]
   have eC : acCh k N [] ky vy = chP [] (lyPr false ky vy) := by unfold acCh; rw [e]
   rw [eC] at hb
   cases b with
   | true =>
    rw [cond_true, eL]
    exact Cn (x := 6) (y := 7) (by omega) na nr h012 ((act (N := N) I Ti.nil).Nk0n h0 hb) rfl rfl rfl rfl rfl (by omega) (by omega) (by omega)
   | false =>
    rw [cond_false]
    exact fs ((act (N := N) I Ti.nil).Nk0s h0 hb)
  by_cases h1 : k = 1
  ·have e : acPr k N ky vy = some (lyPr true ky vy) := by unfold acPr; rw [if_neg h0, if_pos h1]
   have eL : acQ k N [] ky vy = layP [] (lyPr true ky vy) := by unfold acQ; rw [e]
   have eC : acCh k N [] ky vy = chP [] (lyPr true ky vy) := by unfold acCh; rw [e]
   rw [eC] at hb
   cases b with
   | true =>
    rw [cond_true, eL]
    exact Cn (x := 6) (y := 7) (by omega) na nr h012 ((act (N := N) I Ti.nil).Nk1n h1 hb) rfl rfl rfl rfl rfl (by omega) (by omega) (by omega)
   | false =>
    rw [cond_false]
    exact fs ((act (N := N) I Ti.nil).Nk1s h1 hb)
  by_cases h5 : k = 5
  ·have e : acPr k N ky vy = some (lyPr false (k5V N) vy) := by unfold acPr; rw [if_neg h0, if_neg h1, if_pos h5]
   have eL : acQ k N [] ky vy = layP [] (lyPr false (k5V N) vy) := by unfold acQ; rw [e]
   have eC : acCh k N [] ky vy = chP [] (lyPr false (k5V N) vy) := by unfold acCh; rw [e]
   rw [eC] at hb
   cases b with
   | true =>
    rw [cond_true, eL]
    exact Cn (x := 7) (y := 8) (by omega) na nr h012 ((act (N := N) I Ti.nil).Nk5n h5 hb) rfl rfl rfl rfl rfl (by omega) (by omega) (by omega)
   | false =>
    rw [cond_false]
    exact fs ((act (N := N) I Ti.nil).Nk5s h5 hb)
  have e : acPr k N ky vy = none := acPr_no h0 h1 h5
  have eC : acCh k N [] ky vy = false := by unfold acCh; rw [e]
  rw [eC] at hb
  subst hb
  rw [cond_false]
  by_cases h2 : k = 2
  ·exact fs ((act (N := N) I Ti.nil).Nk2m h2)
  by_cases h3 : k = 3
  ·exact fs ((act (N := N) I Ti.nil).Nk3e h3)
  exact fs ((act (N := N) I Ti.nil).Nkx h0 h1 h2 h3 h4 h5)
def acPkN : List Value → Hp → Option (List Nat × De)
 | [p, .agg ⟨[.int .i64 k, .int .i64 N, x, y]⟩], h => (match lyPkN [p, x, y, .bool false] h with
  | some (ns, a) => bif a.s then none else some (ns, (k, N, a))
  | none => none)
 | _, _ => none
theorem acPkN_ok (xs : List Value) (h0 : Hp) (ns : List Nat) (a : De) (h : acPkN xs h0 = some (ns, a)) : ns.length = 5 ∧ ∀ nx, xs = acAg a (nmA ns 5 nx) ∧ ∀ p ∈ L5 a, lk h0 (nmA ns 5 nx p.1) = some (p.2 (nmA ns 5 nx)) := by
 unfold acPkN at h
 split at h
 case h_2 => cases h
 rename_i p k N x y
 split at h
 case h_2 => cases h
 rename_i ns1 a1 he
 cases hs : a1.s with
 | true => rw [hs, cond_true] at h; cases h
 | false =>
  rw [hs, cond_false] at h
  cases h
  obtain ⟨h1, h2⟩ := lyPkN_ok _ _ _ _ he
  refine ⟨h1, fun nx => ?_⟩
  obtain ⟨h3, h4⟩ := h2 nx
  obtain ⟨s, g, m, c1, q, c2, n1, n2, es, rs, ky, vy⟩ := a1
  simp only at hs
  subst hs
  simp only [lyAa, lyAg, List.cons.injEq, and_true] at h3
  obtain ⟨e1, e2, e3, e4⟩ := h3
  refine ⟨?_, h4⟩
  rw [e1, e2, e3]
  rfl
def acCN : Fc Try.prog 27 5 := ⟨De, acPkN, acAg, L5, acOutN, acPkN_ok, (fun a p hp => by
 simp only [L5, Ex, List.mem_cons, List.not_mem_nil, or_false] at hp
 rcases hp with rfl | rfl | rfl | rfl | rfl <;> (dsimp only; omega)), acOutN_ok⟩
structure AcOkE (a : De) : Prop where
 o : LyI a.2.2.m a.2.2.c1 a.2.2.q a.2.2.c2 a.2.2.ky a.2.2.vy
def L6 (a : De) : List (Nat × ((Nat → Nat) → Rw)) := Ey (acN a.2.2)
def acOutE (a : De) : Tape → Option (Fo × Tape × List Prop)
 | true :: tp => some (foCE, tp, [AcOkE a ∧ a.1 = 4])
 | false :: b :: tp => some (bif b then I2 6 (acQ a.1 a.2.1 [] a.2.2.ky a.2.2.vy) else foSE (acN a.2.2), tp, [AcOkE a ∧ a.1 ≠ 4 ∧ acCh a.1 a.2.1 [] a.2.2.ky a.2.2.vy = b])
 | _ => none
theorem acOutE_ok (a : De) (tp : Tape) (o : Fo) (tp' : Tape) (ob : List Prop) (h : acOutE a tp = some (o, tp', ob)) (ho : Alls ob) : FoOk Try.prog 27 6 (acAg a) (L6 a) o := by
 obtain ⟨k, N, s, g, m, c1, q, c2, n1, n2, es, rs, ky, vy⟩ := a
 have red : AcOkE (k, N, ⟨s, g, m, c1, q, c2, n1, n2, es, rs, ky, vy⟩) := by
  unfold acOutE at h
  split at h
  ·simp only [oI, pI] at h; obtain ⟨_, _, rfl⟩ := h; exact ho.1.1
  ·simp only [oI, pI] at h; obtain ⟨_, _, rfl⟩ := h; exact ho.1.1
  ·cases h
 have I := red.o
 dsimp only at I
 have na : NatL 6 (acAg (k, N, ⟨s, g, m, c1, q, c2, n1, n2, es, rs, ky, vy⟩)) := natAc (by omega) I.c1.2 I.c2.2
 have nr : ∀ p ∈ L6 (k, N, ⟨s, g, m, c1, q, c2, n1, n2, es, rs, ky, vy⟩), NatR 6 p.2 := lyNrE _ I.k.fl I.v.fl
 have h012 : ∀ i, i < 3 → i ∈ (L6 (k, N, ⟨s, g, m, c1, q, c2, n1, n2, es, rs, ky, vy⟩)).map (·.1) := in012 rfl
 have fs : ∀ {nx' : Nat}, TriC Try.prog 27 (acAg (k, N, ⟨s, g, m, c1, q, c2, n1, n2, es, rs, ky, vy⟩) id) (mapR id (L6 (k, N, ⟨s, g, m, c1, q, c2, n1, n2, es, rs, ky, vy⟩))) 6 (.bool true) (lySE) nx' → FoOk Try.prog 27 6 (acAg (k, N, ⟨s, g, m, c1, q, c2, n1, n2, es, rs, ky, vy⟩)) (L6 (k, N, ⟨s, g, m, c1, q, c2, n1, n2, es, rs, ky, vy⟩)) (foSE (acN (k, N, ⟨s, g, m, c1, q, c2, n1, n2, es, rs, ky, vy⟩).2.2)) := fun T => Jp na nr rfl rfl (fun p hp => by
   simp only [foSE, List.mem_cons, List.not_mem_nil, or_false] at hp
   rcases hp with rfl | rfl | rfl | rfl <;> exact ⟨by unfold L6 Ey; simp only [List.mem_cons, true_or, or_true], by dsimp only; omega⟩) T (fun p hp => by
   simp only [foSE, List.mem_cons, List.not_mem_nil, or_false] at hp
   rcases hp with rfl | rfl | rfl | rfl <;> rfl) (fun p hp => by
   simp only [foSE, List.mem_cons, List.not_mem_nil, or_false] at hp
   rcases hp with rfl | rfl | rfl | rfl <;> rfl)
 unfold acOutE at h
 split at h
 case h_3 => cases h
 ·simp only [oI, pI] at h
  obtain ⟨rfl, rfl, rfl⟩ := h
  have hk : k = 4 := ho.1.2
  exact fo_clE na nr (h012 0 (by omega)) ((act (N := N) I Ti.nil).Ek4 hk) rfl rfl rfl rfl (by omega)
 ·rename_i b tp2
  simp only [oI, pI] at h
  obtain ⟨rfl, rfl, rfl⟩ := h
  obtain ⟨⟨_, h4, hb⟩, _⟩ := ho
  (try dsimp only at h4 hb)
  by_cases h0 : k = 0
  ·have e : acPr k N ky vy = some (lyPr false ky vy) := by unfold acPr; rw [if_pos h0]
   have eL : acQ k N [] ky vy = layP [] (lyPr false ky vy) := by unfold acQ; rw [e]
   have eC : acCh k N [] ky vy = chP [] (lyPr false ky vy) := by unfold acCh; rw [e]
   rw [eC] at hb
   cases b with
   | true =>
    rw [cond_true, eL]
    exact Cn (x := 7) (y := 8) (by omega) na nr h012 ((act (N := N) I Ti.nil).Ek0n h0 hb) rfl rfl rfl rfl rfl (by omega) (by omega) (by omega)
   | false =>
    rw [cond_false]
    exact fs ((act (N := N) I Ti.nil).Ek0s h0 hb)
  by_cases h1 : k = 1
  ·have e : acPr k N ky vy = some (lyPr true ky vy) := by unfold acPr; rw [if_neg h0, if_pos h1]
   have eL : acQ k N [] ky vy = layP [] (lyPr true ky vy) := by unfold acQ; rw [e]
   have eC : acCh k N [] ky vy = chP [] (lyPr true ky vy) := by unfold acCh; rw [e]
   rw [eC] at hb
   cases b with
   | true =>
    rw [cond_true, eL]
    exact Cn (x := 7) (y := 8) (by omega) na nr h012 ((act (N := N) I Ti.nil).Ek1n h1 hb) rfl rfl rfl rfl rfl (by omega) (by omega) (by omega)
   | false =>
    rw [cond_false]
    exact fs ((act (N := N) I Ti.nil).Ek1s h1 hb)
  by_cases h5 : k = 5
  ·have e : acPr k N ky vy = some (lyPr false (k5V N) vy) := by unfold acPr; rw [if_neg h0, if_neg h1, if_pos h5]
   have eL : acQ k N [] ky vy = layP [] (lyPr false (k5V N) vy) := by unfold acQ; rw [e]
   have eC : acCh k N [] ky vy = chP [] (lyPr false (k5V N) vy) := by unfold acCh; rw [e]
   rw [eC] at hb
   cases b with
   | true =>
    rw [cond_true, eL]
    exact Cn (x := 8) (y := 9) (by omega) na nr h012 ((act (N := N) I Ti.nil).Ek5n h5 hb) rfl rfl rfl rfl rfl (by omega) (by omega) (by omega)
   | false =>
    rw [cond_false]
    exact fs ((act (N := N) I Ti.nil).Ek5s h5 hb)
  have e : acPr k N ky vy = none := acPr_no h0 h1 h5
  have eC : acCh k N [] ky vy = false := by unfold acCh; rw [e]
  rw [eC] at hb
  subst hb
  rw [cond_false]
  by_cases h2 : k = 2
  ·exact fs ((act (N := N) I Ti.nil).Ek2m h2)
  by_cases h3 : k = 3
  ·exact fs ((act (N := N) I Ti.nil).Ek3e h3)
  exact fs ((act (N := N) I Ti.nil).Ekx h0 h1 h2 h3 h4 h5)
def acPkE : List Value → Hp → Option (List Nat × De)
 | [p, .agg ⟨[.int .i64 k, .int .i64 N, x, y]⟩], h => (match lyPkE [p, x, y, .bool false] h with
  | some (ns, a) => bif a.s then none else some (ns, (k, N, a))
  | none => none)
 | _, _ => none
theorem acPkE_ok (xs : List Value) (h0 : Hp) (ns : List Nat) (a : De) (h : acPkE xs h0 = some (ns, a)) : ns.length = 6 ∧ ∀ nx, xs = acAg a (nmA ns 6 nx) ∧ ∀ p ∈ L6 a, lk h0 (nmA ns 6 nx p.1) = some (p.2 (nmA ns 6 nx)) := by
 unfold acPkE at h
 split at h
 case h_2 => cases h
 rename_i p k N x y
 split at h
 case h_2 => cases h
 rename_i ns1 a1 he
 cases hs : a1.s with
 | true => rw [hs, cond_true] at h; cases h
 | false =>
  rw [hs, cond_false] at h
  cases h
  obtain ⟨h1, h2⟩ := lyPkE_ok _ _ _ _ he
  refine ⟨h1, fun nx => ?_⟩
  obtain ⟨h3, h4⟩ := h2 nx
  obtain ⟨s, g, m, c1, q, c2, n1, n2, es, rs, ky, vy⟩ := a1
  simp only at hs
  subst hs
  simp only [lyAa, lyAg, List.cons.injEq, and_true] at h3
  obtain ⟨e1, e2, e3, e4⟩ := h3
  refine ⟨?_, h4⟩
  rw [e1, e2, e3]
  rfl
def acCE : Fc Try.prog 27 6 := ⟨De, acPkE, acAg, L6, acOutE, acPkE_ok, (fun a p hp => by
 simp only [L6, Ey, List.mem_cons, List.not_mem_nil, or_false] at hp
 rcases hp with rfl | rfl | rfl | rfl | rfl | rfl <;> (dsimp only; omega)), acOutE_ok⟩
structure AcOkR (a : De) : Prop where
 o : LyOk false false a.2.2.m a.2.2.c1 a.2.2.q a.2.2.c2 a.2.2.n1 a.2.2.es a.2.2.rs a.2.2.ky a.2.2.vy ∧ a.2.2.n2 = a.2.2.n1 ∧ (B2 a.2.2.es).isEmpty = false
def L4 (a : De) : List (Nat × ((Nat → Nat) → Rw)) := Ew (acN a.2.2)
def acOutR (a : De) : Tape → Option (Fo × Tape × List Prop)
 | true :: tp => some (foCR a.2.2.n1 a.2.2.es, tp, [AcOkR a ∧ a.1 = 4])
 | false :: b :: tp => some (bif b then I2 7 (acQ a.1 a.2.1 (B2 a.2.2.es) a.2.2.ky a.2.2.vy) else foSR (acN a.2.2), tp, [AcOkR a ∧ a.1 ≠ 4 ∧ acCh a.1 a.2.1 (B2 a.2.2.es) a.2.2.ky a.2.2.vy = b])
 | _ => none
theorem acOutR_ok (a : De) (tp : Tape) (o : Fo) (tp' : Tape) (ob : List Prop) (h : acOutR a tp = some (o, tp', ob)) (ho : Alls ob) : FoOk Try.prog 27 7 (acAg a) (L4 a) o := by
 obtain ⟨k, N, s, g, m, c1, q, c2, n1, n2, es, rs, ky, vy⟩ := a
 have red : AcOkR (k, N, ⟨s, g, m, c1, q, c2, n1, n2, es, rs, ky, vy⟩) := by
  unfold acOutR at h
  split at h
  ·simp only [oI, pI] at h; obtain ⟨_, _, rfl⟩ := h; exact ho.1.1
  ·simp only [oI, pI] at h; obtain ⟨_, _, rfl⟩ := h; exact ho.1.1
  ·cases h
 obtain ⟨⟨S, I, T0, e0, r0, n0⟩, hn, hz⟩ := red.o
 dsimp only at *
 generalize hts : B2 es = ts at *
 subst e0
 subst r0
 subst n0
 subst hn
 have na : NatL 7 (acAg (k, N, ⟨s, g, m, c1, q, c2, ts.length, ts.length, cpD ts, cpD ts, ky, vy⟩)) := natAc (by omega) I.c1.2 I.c2.2
 have nr : ∀ p ∈ L4 (k, N, ⟨s, g, m, c1, q, c2, ts.length, ts.length, cpD ts, cpD ts, ky, vy⟩), NatR 7 p.2 := lyNrR _ I.k.fl I.v.fl
 have h012 : ∀ i, i < 3 → i ∈ (L4 (k, N, ⟨s, g, m, c1, q, c2, ts.length, ts.length, cpD ts, cpD ts, ky, vy⟩)).map (·.1) := in012 rfl
 have fs : ∀ {nx' : Nat}, TriC Try.prog 27 (acAg (k, N, ⟨s, g, m, c1, q, c2, ts.length, ts.length, cpD ts, cpD ts, ky, vy⟩) id) (mapR id (L4 (k, N, ⟨s, g, m, c1, q, c2, ts.length, ts.length, cpD ts, cpD ts, ky, vy⟩))) 7 (.bool true) (lySR ts.length (cpD ts) (cpD ts)) nx' → FoOk Try.prog 27 7 (acAg (k, N, ⟨s, g, m, c1, q, c2, ts.length, ts.length, cpD ts, cpD ts, ky, vy⟩)) (L4 (k, N, ⟨s, g, m, c1, q, c2, ts.length, ts.length, cpD ts, cpD ts, ky, vy⟩)) (foSR (acN (k, N, ⟨s, g, m, c1, q, c2, ts.length, ts.length, cpD ts, cpD ts, ky, vy⟩).2.2)) := fun T => Jp na nr rfl rfl (fun p hp => by
   simp only [foSR, List.mem_cons, List.not_mem_nil, or_false] at hp
   rcases hp with rfl | rfl | rfl | rfl | rfl <;> exact ⟨by unfold L4 Ew; simp only [List.mem_cons, true_or, or_true], by dsimp only; omega⟩) T (fun p hp => by
   simp only [foSR, List.mem_cons, List.not_mem_nil, or_false] at hp
   rcases hp with rfl | rfl | rfl | rfl | rfl <;> rfl) (fun p hp => by
   simp only [foSR, List.mem_cons, List.not_mem_nil, or_false] at hp
   rcases hp with rfl | rfl | rfl | rfl | rfl <;> rfl)
 unfold acOutR at h
 split at h
 case h_3 => cases h
 ·simp only [oI, pI] at h
  obtain ⟨rfl, rfl, rfl⟩ := h
  have hk : k = 4 := ho.1.2
  show FoOk _ _ _ _ _ (foCR ts.length (cpD ts))
  cases hO : hitP ts [111, 108, 100] with
  | true =>
   cases hA : hitP (setP ts prO) [97] with
   | true =>
    exact Ik (x := 35) na nr (h012 0 (by omega)) ((act (N := N) I T0).Rk4uu hz hk hO hA) rfl rfl rfl rfl rfl (by omega) (by omega)
   | false =>
    by_cases hg : 64 ≤ (setP ts prO).length
    ·
     exact Ik (x := 27) na nr (h012 0 (by omega)) ((act (N := N) I T0).Rk4uf hz hk hO hA hg) rfl rfl rfl rfl rfl (by omega) (by omega)
    ·
     exact Ik (x := 36) na nr (h012 0 (by omega)) ((act (N := N) I T0).Rk4ui hz hk hO hA hg) rfl rfl rfl rfl rfl (by omega) (by omega)
  | false =>
   by_cases hf : 64 ≤ ts.length
   ·
    cases hA : hitP ts [97] with
    | true =>
     exact Ik (x := 27) na nr (h012 0 (by omega)) ((act (N := N) I T0).Rk4fu hz hk hO hf hA) rfl rfl rfl rfl rfl (by omega) (by omega)
    | false =>
     by_cases hg : 64 ≤ ts.length
     ·
      exact Ik (x := 19) na nr (h012 0 (by omega)) ((act (N := N) I T0).Rk4ff hz hk hO hf hA hg) rfl rfl rfl rfl rfl (by omega) (by omega)
     ·
      exact Ik (x := 28) na nr (h012 0 (by omega)) ((act (N := N) I T0).Rk4fi hz hk hO hf hA hg) rfl rfl rfl rfl rfl (by omega) (by omega)
   ·
    cases hA : hitP (insP ts prO) [97] with
    | true =>
     exact Ik (x := 36) na nr (h012 0 (by omega)) ((act (N := N) I T0).Rk4iu hz hk hO hf hA) rfl rfl rfl rfl rfl (by omega) (by omega)
    | false =>
     by_cases hg : 64 ≤ (insP ts prO).length
     ·
      exact Ik (x := 28) na nr (h012 0 (by omega)) ((act (N := N) I T0).Rk4if hz hk hO hf hA hg) rfl rfl rfl rfl rfl (by omega) (by omega)
     ·
      exact Ik (x := 37) na nr (h012 0 (by omega)) ((act (N := N) I T0).Rk4ii hz hk hO hf hA hg) rfl rfl rfl rfl rfl (by omega) (by omega)
 ·rename_i b tp2
  simp only [oI, pI] at h
  obtain ⟨rfl, rfl, rfl⟩ := h
  obtain ⟨⟨_, h4, hb⟩, _⟩ := ho
  (try dsimp only at h4 hb)
  rw [hts] at hb
  show FoOk _ _ _ _ _ (bif b then I2 7 (acQ k N (B2 (cpD ts)) ky vy) else foSR (acN (k, N, (⟨s, g, m, c1, q, c2, ts.length, ts.length, cpD ts, cpD ts, ky, vy⟩ : LyArg)).2.2))
  rw [hts]
  by_cases h0 : k = 0
  ·have e : acPr k N ky vy = some (lyPr false ky vy) := by unfold acPr; rw [if_pos h0]
   have eL : acQ k N ts ky vy = layP ts (lyPr false ky vy) := by unfold acQ; rw [e]
   have eC : acCh k N ts ky vy = chP ts (lyPr false ky vy) := by unfold acCh; rw [e]
   rw [eC] at hb
   cases b with
   | true =>
    rw [cond_true, eL]
    exact Cn (x := 8) (y := 9) (by omega) na nr h012 ((act (N := N) I T0).Rk0n h0 hb) rfl rfl rfl rfl rfl (by omega) (by omega) (by omega)
   | false =>
    rw [cond_false]
    exact fs ((act (N := N) I T0).Rk0s h0 hb)
  by_cases h1 : k = 1
  ·have e : acPr k N ky vy = some (lyPr true ky vy) := by unfold acPr; rw [if_neg h0, if_pos h1]
   have eL : acQ k N ts ky vy = layP ts (lyPr true ky vy) := by unfold acQ; rw [e]
   have eC : acCh k N ts ky vy = chP ts (lyPr true ky vy) := by unfold acCh; rw [e]
   rw [eC] at hb
   cases b with
   | true =>
    rw [cond_true, eL]
    exact Cn (x := 8) (y := 9) (by omega) na nr h012 ((act (N := N) I T0).Rk1n h1 hb) rfl rfl rfl rfl rfl (by omega) (by omega) (by omega)
   | false =>
    rw [cond_false]
    exact fs ((act (N := N) I T0).Rk1s h1 hb)
  by_cases h5 : k = 5
  ·have e : acPr k N ky vy = some (lyPr false (k5V N) vy) := by unfold acPr; rw [if_neg h0, if_neg h1, if_pos h5]
   have eL : acQ k N ts ky vy = layP ts (lyPr false (k5V N) vy) := by unfold acQ; rw [e]
   have eC : acCh k N ts ky vy = chP ts (lyPr false (k5V N) vy) := by unfold acCh; rw [e]
   rw [eC] at hb
   cases b with
   | true =>
    rw [cond_true, eL]
    exact Cn (x := 9) (y := 10) (by omega) na nr h012 ((act (N := N) I T0).Rk5n h5 hb) rfl rfl rfl rfl rfl (by omega) (by omega) (by omega)
   | false =>
    rw [cond_false]
    exact fs ((act (N := N) I T0).Rk5s h5 hb)
  have e : acPr k N ky vy = none := acPr_no h0 h1 h5
  have eC : acCh k N ts ky vy = false := by unfold acCh; rw [e]
  rw [eC] at hb
  subst hb
  rw [cond_false]
  by_cases h2 : k = 2
  ·cases hh : hitP ts (B1 ky) with
   | true => exact fs ((act (N := N) I T0).Rk2h h2 hh)
   | false => exact fs ((act (N := N) I T0).Rk2m h2 hh)
  by_cases h3 : k = 3
  ·cases hb : (btw ts (B1 ky) (B1 vy)).isEmpty with
   | true => exact fs ((act (N := N) I T0).Rk3e h3 hb)
   | false => exact fs ((act (N := N) I T0).Rk3f h3 hb)
  exact fs ((act (N := N) I T0).Rkx h0 h1 h2 h3 h4 h5)
def acPkR : List Value → Hp → Option (List Nat × De)
 | [p, .agg ⟨[.int .i64 k, .int .i64 N, x, y]⟩], h => (match lyPkR [p, x, y, .bool false] h with
  | some (ns, a) => bif a.s then none else some (ns, (k, N, a))
  | none => none)
 | _, _ => none
theorem acPkR_ok (xs : List Value) (h0 : Hp) (ns : List Nat) (a : De) (h : acPkR xs h0 = some (ns, a)) : ns.length = 7 ∧ ∀ nx, xs = acAg a (nmA ns 7 nx) ∧ ∀ p ∈ L4 a, lk h0 (nmA ns 7 nx p.1) = some (p.2 (nmA ns 7 nx)) := by
 unfold acPkR at h
 split at h
 case h_2 => cases h
 rename_i p k N x y
 split at h
 case h_2 => cases h
 rename_i ns1 a1 he
 cases hs : a1.s with
 | true => rw [hs, cond_true] at h; cases h
 | false =>
  rw [hs, cond_false] at h
  cases h
  obtain ⟨h1, h2⟩ := lyPkR_ok _ _ _ _ he
  refine ⟨h1, fun nx => ?_⟩
  obtain ⟨h3, h4⟩ := h2 nx
  obtain ⟨s, g, m, c1, q, c2, n1, n2, es, rs, ky, vy⟩ := a1
  simp only at hs
  subst hs
  simp only [lyAa, lyAg, List.cons.injEq, and_true] at h3
  obtain ⟨e1, e2, e3, e4⟩ := h3
  refine ⟨?_, h4⟩
  rw [e1, e2, e3]
  rfl
def acCR : Fc Try.prog 27 7 := ⟨De, acPkR, acAg, L4, acOutR, acPkR_ok, (fun a p hp => by
 simp only [L4, Ew, List.mem_cons, List.not_mem_nil, or_false] at hp
 rcases hp with rfl | rfl | rfl | rfl | rfl | rfl | rfl <;> (dsimp only; omega)), acOutR_ok⟩
noncomputable def actT : TFun := orTz (mkG acCR) (orTz (mkG acCE) (mkG acCN))
theorem actT_one : Cv Try.prog actT := C4 (J5 _) (C4 (J5 _) (J5 _))
end Go.Proofs.Ytojakfnljopjbaa
