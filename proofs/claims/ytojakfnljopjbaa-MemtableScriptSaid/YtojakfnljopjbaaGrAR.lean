/-
  The statements' kit on lists of bytes: SameBytes, LentBytes, KeptBytes, OverBytes, told by contracts.
-/
import Derived.Test.YtojakfnljopjbaaGrAQ
import Derived.Test.YtojakfnljopjbaaProg
import Derived.Test.YtojakfnljopjbaaGrAA
namespace Go.Proofs.Ytojakfnljopjbaa
set_option linter.unusedSimpArgs false
set_option linter.unusedVariables false
set_option linter.unusedSectionVars false
open Go Go.RowKit

def Ez : Av → Option (List Value)
 | .fl (.slice none _ _) => some []
 | .sl xs _ => some xs
 | _ => none
def Byts (xs : List Value) : Prop := xs = (B1 xs).map (Value.int .u8) ∧ ∀ n ∈ B1 xs, 0 ≤ n ∧ n < 256
def gSame : Ji := fun av tp => match av with
 | [a, b] => match Ez a, Ez b with
  | some xs, some ys => some (⟨fun _ => .bool (decide (B1 xs = B1 ys)), []⟩, tp, [Byts xs, Byts ys])
  | _, _ => none
 | _ => none
def mk3 (n : Nat) : List Value := [.int .u8 (((160 + n % 90) % 256 : Nat) : Int), .int .u8 (((160 + (n + 1) % 90) % 256 : Nat) : Int), .int .u8 (((160 + (n + 1 + 1) % 90) % 256 : Nat) : Int)]
def Bl : Av → Nat
 | .sl _ n => n
 | _ => 0
def gLent : Ji := fun av tp => match av with
 | [a] => match Ez a with
  | some xs => some (⟨fun nx => .slice (some ⟨nx, 0, none⟩) (Bl a) (Bl a + 3), [⟨.shut, xs ++ mk3 (Bl a)⟩]⟩, tp, [Byts xs, Bl a ≤ 1099511627776])
  | none => none
 | _ => none
def gKept : Ji := fun av tp => match av with
 | [.sc ls l c, b] => match Ez b with
  | some xs => some (⟨fun _ => .bool (decide (B1 ls = B1 (xs ++ mk3 (Bl b)))), []⟩, tp, [Byts ls, Byts xs, l = Bl b, c = Bl b + 3, Bl b ≤ 1099511627776])
  | none => none
 | _ => none
def kitT : TFun := orTz (mkT 31 [.s 1, .s 1] gSame) (mkT 51 [.s 1] gLent)
def kKept : Tv := ⟨kitT, noXz, noL, tbl 53 [10], allSy 53 [], fun _ => [], fun _ => 0⟩
theorem kept_s (ls xs : List Value) (l c n cb : Nat) : runZ kKept Try.prog 5 53 [.slice (some ⟨0, 0, none⟩) l c, .slice (some ⟨1, 0, none⟩) n cb] [(0, ⟨.old, ls⟩), (1, ⟨.old, xs⟩)] 2 [true] =
 Res.ok ((Value.bool (bif true then decide (B1 (List.take c ls) = B1 (List.take (n + 3) (List.take n xs ++ mk3 (n)))) else false), [(0, Rw.mk Kd.old ls), (1, Rw.mk Kd.old xs)], 3, []), [], [((↑l : Int) == (↑n : Int)) = true, c < 18446744073709551616, c < 18446744073709551616, (0 : Int) ≤ (↑c : Int) ∧ (↑c : Int) ≤ (↑c : Int), n ≤ cb ∧ cb ≤ 9223372036854775807, n ≤ List.length xs, Fl (List.take n xs), Byts (List.take n xs), n ≤ 1099511627776, rg IntKind.i64 (↑(n + 3) : Int), n + 3 < 18446744073709551616, (0 : Int) ≤ (↑(n + 3) : Int) ∧ (↑(n + 3) : Int) ≤ (↑(n + 3) : Int), c ≤ c ∧ c ≤ 9223372036854775807, c ≤ List.length ls, Fl (List.take c ls), n + 3 ≤ n + 3 ∧ n + 3 ≤ 9223372036854775807, n + 3 ≤ List.length (List.take n xs ++ mk3 (n)), Fl (List.take (n + 3) (List.take n xs ++ mk3 (n))), Byts (List.take c ls), Byts (List.take (n + 3) (List.take n xs ++ mk3 (n)))]) := by kernel_rfl
theorem kept_n (ls : List Value) (l c : Nat) : runZ kKept Try.prog 5 53 [.slice (some ⟨0, 0, none⟩) l c, .slice none 0 0] [(0, ⟨.old, ls⟩)] 2 [true] =
 Res.ok ((Value.bool (bif true then decide (B1 (List.take c ls) = B1 (List.take 3 ([] ++ mk3 0))) else false), [(0, Rw.mk Kd.old ls)], 3, []), [], [((↑l : Int) == (0 : Int)) = true, c < 18446744073709551616, c < 18446744073709551616, (0 : Int) ≤ (↑c : Int) ∧ (↑c : Int) ≤ (↑c : Int), Byts [], 0 ≤ 1099511627776, rg IntKind.i64 (↑(0 + 3) : Int), 3 < 18446744073709551616, (0 : Int) ≤ (↑(0 + 3) : Int) ∧ (↑(0 + 3) : Int) ≤ (3 : Int), c ≤ c ∧ c ≤ 9223372036854775807, c ≤ List.length ls, Fl (List.take c ls), 3 ≤ 3 ∧ 3 ≤ 9223372036854775807, 3 ≤ 3, Fl (List.take 3 ([] ++ mk3 0)), Byts (List.take c ls), Byts (List.take 3 ([] ++ mk3 0))]) := by kernel_rfl
def kSame : Tv := ⟨noTz, noXz, noL, fun _ => [], allSy 31 [], fun _ => [], fun _ => 0⟩
theorem same_ss (xs ys : List Value) (n m ca cb : Nat) : runZ kSame Try.prog 5 31 [.slice (some ⟨0, 0, none⟩) n ca, .slice (some ⟨1, 0, none⟩) m cb] [(0, ⟨.old, xs⟩), (1, ⟨.old, ys⟩)] 2 [] =
 Res.ok ((Value.bool (Cp (C5 (B1 (List.take n xs))) (C5 (B1 (List.take m ys)))), [(0, Rw.mk Kd.old xs), (1, Rw.mk Kd.old ys)], 2, []), [], [n ≤ List.length xs, List.take n xs = List.map (Value.int IntKind.u8) (B1 (List.take n xs)), m ≤ List.length ys, List.take m ys = List.map (Value.int IntKind.u8) (B1 (List.take m ys))]) := by kernel_rfl
theorem same_sn (xs : List Value) (n ca : Nat) : runZ kSame Try.prog 5 31 [.slice (some ⟨0, 0, none⟩) n ca, .slice none 0 0] [(0, ⟨.old, xs⟩)] 2 [] =
 Res.ok ((Value.bool (Cp (C5 (B1 (List.take n xs))) ByteArray.empty), [(0, Rw.mk Kd.old xs)], 2, []), [], [n ≤ List.length xs, List.take n xs = List.map (Value.int IntKind.u8) (B1 (List.take n xs))]) := by kernel_rfl
theorem same_ns (ys : List Value) (m cb : Nat) : runZ kSame Try.prog 5 31 [.slice none 0 0, .slice (some ⟨1, 0, none⟩) m cb] [(1, ⟨.old, ys⟩)] 2 [] =
 Res.ok ((Value.bool (Cp ByteArray.empty (C5 (B1 (List.take m ys)))), [(1, Rw.mk Kd.old ys)], 2, []), [], [m ≤ List.length ys, List.take m ys = List.map (Value.int IntKind.u8) (B1 (List.take m ys))]) := by kernel_rfl
theorem same_nn  : runZ kSame Try.prog 5 31 [.slice none 0 0, .slice none 0 0] [] 2 [] =
 Res.ok ((Value.bool true, [], 2, []), [], []) := by kernel_rfl
def kLent : Tv := ⟨noTz, noXz, noL, tbl 51 [17], allSy 51 [], fun _ => [], fun _ => 0⟩
theorem lent_s (xs : List Value) (n ca : Nat) : runZ kLent Try.prog 5 51 [.slice (some ⟨0, 0, none⟩) n ca] [(0, ⟨.old, xs⟩)] 1 [true, true, true, false] =
 Res.ok ((Value.slice (some (Addr.mk 1 0 none)) n (n + 3), [(1, Rw.mk Kd.shut (Bg (Bg (Bg (Bg (zrep [Value.int IntKind.u8 (0 : Int)] (n + 3)) 0 (List.take (Nat.min n (n + 3)) (List.take n xs))) n [Value.int IntKind.u8 (↑((160 + n % 90) % 256) : Int)]) (n + 1) [Value.int IntKind.u8 (↑((160 + (n + 1) % 90) % 256) : Int)]) (n + 1 + 1) [Value.int IntKind.u8 (↑((160 + (n + 1 + 1) % 90) % 256) : Int)])), (0, Rw.mk Kd.old xs)], 2, []), [], [rg IntKind.i64 (↑(n + 3) : Int), (0 : Int) ≤ (↑(n + 3) : Int) ∧ (↑(n + 3) : Int) ≤ (↑(n + 3) : Int) ∧ (1 : Int) * (↑(n + 3) : Int) ≤ (281474976710656 : Int) ∧ (↑(n + 3) : Int) ≤ (9223372036854775807 : Int), List.length (List.take (Nat.min n (n + 3)) (List.take n xs)) ≤ List.length (zrep [Value.int IntKind.u8 (0 : Int)] (n + 3)), n ≤ List.length xs, all1 (List.take n xs) = true, decide ((↑n : Int) < (↑(n + 3) : Int)) = true, (0 : Int) ≤ (↑n :
 Int) ∧ (0 : Int) < (90 : Int), rg IntKind.i64 (↑(160 + n % 90) : Int), (0 : Int) ≤ (↑n : Int) ∧ (↑n : Int) < (↑(n + 3) : Int), n + 1 ≤ List.length (Bg (zrep [Value.int IntKind.u8 (0 : Int)] (n + 3)) 0 (List.take (Nat.min n (n + 3)) (List.take n xs))), rg IntKind.i64 (↑(n + 1) : Int), decide ((↑(n + 1) : Int) < (↑(n + 3) : Int)) = true, (0 : Int) ≤ (↑(n + 1) : Int) ∧ (0 : Int) < (90 : Int), rg IntKind.i64 (↑(160 + (n + 1) % 90) : Int), (0 : Int) ≤ (↑(n + 1) : Int) ∧ (↑(n + 1) : Int) < (↑(n + 3) : Int), n + 1 + 1 ≤ List.length (Bg (Bg (zrep [Value.int IntKind.u8 (0 : Int)] (n + 3)) 0 (List.take (Nat.min n (n + 3)) (List.take n xs))) n [Value.int IntKind.u8 (↑((160 + n % 90) % 256) : Int)]), rg IntKind.i64 (↑(n + 1 + 1) : Int), decide ((↑(n + 1 + 1) : Int) < (↑(n + 3) : Int)) = true, (0 : Int) ≤ (↑(n + 1 + 1) : Int) ∧ (0 : Int) < (90 : Int), rg IntKind.i64 (↑(160 + (n + 1 + 1) %
 90) : Int), (0 : Int) ≤ (↑(n + 1 + 1) : Int) ∧ (↑(n + 1 + 1) : Int) < (↑(n + 3) : Int), n + 1 + 1 + 1 ≤ List.length (Bg (Bg (Bg (zrep [Value.int IntKind.u8 (0 : Int)] (n + 3)) 0 (List.take (Nat.min n (n + 3)) (List.take n xs))) n [Value.int IntKind.u8 (↑((160 + n % 90) % 256) : Int)]) (n + 1) [Value.int IntKind.u8 (↑((160 + (n + 1) % 90) % 256) : Int)]), rg IntKind.i64 (↑(n + 1 + 1 + 1) : Int), decide ((↑(n + 1 + 1 + 1) : Int) < (↑(n + 3) : Int)) = false, n + 3 < 18446744073709551616, (0 : Int) ≤ (↑n : Int) ∧ (↑n : Int) ≤ (↑(n + 3) :
 Int)]) := by kernel_rfl
theorem lent_n  : runZ kLent Try.prog 5 51 [.slice none 0 0] [] 1 [true, true, true, false] =
 Res.ok ((Value.slice (some (Addr.mk 1 0 none)) 0 3, [(1, Rw.mk Kd.shut [Value.int IntKind.u8 (↑((160 + 0 % 90) % 256) : Int), Value.int IntKind.u8 (↑((160 + (0 + 1) % 90) % 256) : Int), Value.int IntKind.u8 (↑((160 + (0 + 1 + 1) % 90) % 256) : Int)])], 2, []), [], [rg IntKind.i64 (↑(0 + 3) : Int), (0 : Int) ≤ (↑(0 + 3) : Int) ∧ (↑(0 + 3) : Int) ≤ (↑(0 + 3) : Int) ∧ (1 : Int) * (↑(0 + 3) : Int) ≤ (281474976710656 : Int) ∧ (↑(0 + 3) : Int) ≤ (9223372036854775807 : Int), 0 ≤ 3, true = true, (0 : Int) ≤ (0 : Int) ∧ (0 : Int) < (90 : Int), rg IntKind.i64 (↑(160 + 0 % 90) : Int), (0 : Int) ≤ (0 : Int) ∧ (0 : Int) < (3 : Int), 1 ≤ 3, rg IntKind.i64 (↑(0 + 1) : Int), true = true, (0 : Int) ≤ (↑(0 + 1) : Int) ∧ (0 : Int) < (90 : Int), rg IntKind.i64 (↑(160 + (0 + 1) % 90) : Int), (0 : Int) ≤ (↑(0 + 1) : Int) ∧ (↑(0 + 1) : Int) < (3 : Int), 2 ≤ 3, rg IntKind.i64 (↑(0 + 1 + 1) : Int), true = true,
 (0 : Int) ≤ (↑(0 + 1 + 1) : Int) ∧ (0 : Int) < (90 : Int), rg IntKind.i64 (↑(160 + (0 + 1 + 1) % 90) : Int), (0 : Int) ≤ (↑(0 + 1 + 1) : Int) ∧ (↑(0 + 1 + 1) : Int) < (3 : Int), 3 ≤ 3, rg IntKind.i64 (↑(0 + 1 + 1 + 1) : Int), false = false, 3 < 18446744073709551616, (0 : Int) ≤ (0 : Int) ∧ (0 : Int) ≤ (3 :
 Int)]) := by kernel_rfl
theorem intsOf_map (k : IntKind) : ∀ l : List Int, B1 (l.map (Value.int k)) = l
 | [] => rfl
 | x :: l => by simp only [B1, List.map_cons, List.map_map]; congr 1; exact (by simpa [B1] using intsOf_map k l)
theorem Byts.of {l : List Int} (h : ∀ n ∈ l, 0 ≤ n ∧ n < 256) : Byts (l.map (Value.int .u8)) := by
 unfold Byts; rw [intsOf_map]; exact ⟨rfl, h⟩
theorem Kb : ∀ {a b : List Int}, (∀ n ∈ a, 0 ≤ n ∧ n < 256) → (∀ n ∈ b, 0 ≤ n ∧ n < 256) → Cp (C5 a) (C5 b) = decide (a = b)
 | [], [], _, _ => by simp [Cp, C5]
 | [], y :: b, _, _ => by simp [Cp, C5]
 | x :: a, [], _, _ => by simp [Cp, C5]
 | x :: a, y :: b, ha, hb => by
   have ih := Kb (a := a) (b := b) (fun n h => ha n (by simp [h])) (fun n h => hb n (by simp [h]))
   have hx := ha x (by simp)
   have hy := hb y (by simp)
   have e : (UInt8.ofNat x.toNat == UInt8.ofNat y.toNat) = decide (x = y) := by
    rw [Bool.eq_iff_iff, beq_iff_eq, decide_eq_true_eq, ← UInt8.toNat_inj, UInt8.toNat_ofNat', UInt8.toNat_ofNat']; omega
   simp only [Cp, C5, List.map_cons] at ih ⊢
   rw [List.cons_beq_cons, ih, e]
   by_cases h1 : x = y <;> by_cases h2 : a = b <;> simp [h1, h2]
theorem Hu {xs : List Value} {n : Nat} (h : xs.length = n * 1) : xs.take n = xs := List.take_of_length_le (by omega)
theorem mixed : (Try.prog).follows .mixedOrders = true := by kernel_rfl
theorem Ig {V : Tv} (h : V.X = noXz) {P : Program} : XOkZ V P := fun f args hp v ob e => by rw [h] at e; cases e
theorem D4 {V : Tv} (h : V.T = noTz) {P : Program} : TOkZ V P := fun f args hp nx tp out tp' ob e => by rw [h] at e; cases e
theorem C9 {V : Tv} (h : V.L = noL) {P : Program} : LOkZ V P := fun fid x ts hp nx tp o tp' ob e => by rw [h] at e; cases e
theorem Ly {V : Tv} {P : Program} {T : TFun} (h : V.T = T) (hT : Cv P T) : TOkZ V P := fun f args hp nx tp out tp' ob e ho => by rw [h] at e; exact hT _ _ _ _ _ _ _ _ e ho
theorem Lz {V : Tv} {P : Program} {L : LFun} (h : V.L = L) (hL : LOne P L) : LOkZ V P := fun fid x ts hp nx tp o tp' ob e ho => by rw [h] at e; exact hL _ _ _ _ _ _ _ _ _ e ho
theorem C6 {V : Tv} (hX : XOkZ V Try.prog) (hT : TOkZ V Try.prog) (hL : LOkZ V Try.prog) {k : Nat} {f : FuncId} {args : List Value} {h : Hp} {nx : Nat} {tp tp' : Tape} {out : Out} {ob : List Prop} (e : runZ V Try.prog k f args h nx tp = .ok (out, tp', ob)) (ho : Alls ob) (hf : Nat.blt f yBig = true) : Tri Try.prog f args h nx out :=
 (Bh hX hT hL mixed k).fn _ _ _ _ _ _ _ _ e ho (Nat.le_of_ble_eq_true hf)

theorem same_ok : GOk Try.prog 31 [.s 1, .s 1] gSame := by
 intro av tp gr tp' ob hG ho hP caps hcap
 unfold gSame at hG
 split at hG
 case h_2 => cases hG
 rename_i a b
 obtain ⟨ca, cb, rfl⟩ : ∃ x y, caps = [x, y] := by
  match caps, hcap with
  | [x, y], _ => exact ⟨x, y, rfl⟩
  | [], h => cases a <;> simp [Dr] at h
  | [x], h => cases a <;> cases b <;> simp [Dr] at h
  | x :: y :: z :: l, h => cases a <;> cases b <;> simp [Dr] at h
 have hX : XOkZ kSame Try.prog := Ig rfl
 have hT : TOkZ kSame Try.prog := D4 rfl
 have hL : LOkZ kSame Try.prog := C9 rfl
 obtain ⟨pa, pb, _⟩ := hP
 split at hG
 case h_2 => cases hG
 rename_i xs ys ha hb
 simp only [oI, pI] at hG
 obtain ⟨rfl, rfl, rfl⟩ := hG
 obtain ⟨bx, by_, _⟩ := ho
 cases a with
 | fl v =>
  simp only [AvP] at pa
  subst pa
  simp only [Ez, oI] at ha
  subst ha
  cases b with
  | fl u =>
   simp only [AvP] at pb
   subst pb
   simp only [Ez, oI] at hb
   subst hb
   exact ⟨_, _, _, _, _, C6 hX hT hL same_nn trivial rfl, GrIs.flat fun σ => rfl⟩
  | sl zs m =>
   simp only [Ez, oI] at hb
   subst hb
   have hz := Hu pb.2
   refine ⟨_, _, _, _, fun n => n, C6 hX hT hL (same_ns zs m cb) (by simp only [hz]; exact ⟨by have := pb.2; omega, by_.1, trivial⟩) rfl, ?_⟩
   rw [hz, show ByteArray.empty = C5 [] from rfl, Kb (by simp) by_.2]
   exact GrIs.flat fun σ => rfl
  | ag p zs m => simp [AvP] at pb
  | sc zs l m => simp [AvP] at pb
 | sl us n =>
  simp only [Ez, oI] at ha
  subst ha
  have hu := Hu pa.2
  cases b with
  | fl u =>
   simp only [AvP] at pb
   subst pb
   simp only [Ez, oI] at hb
   subst hb
   refine ⟨_, _, _, _, fun n => n, C6 hX hT hL (same_sn us n ca) (by simp only [hu]; exact ⟨by have := pa.2; omega, bx.1, trivial⟩) rfl, ?_⟩
   rw [hu, show ByteArray.empty = C5 [] from rfl, Kb bx.2 (by simp)]
   exact GrIs.flat fun σ => rfl
  | sl zs m =>
   simp only [Ez, oI] at hb
   subst hb
   have hz := Hu pb.2
   refine ⟨_, _, _, _, fun n => n, C6 hX hT hL (same_ss us zs n m ca cb) (by simp only [hu, hz]; exact ⟨by have := pa.2; omega, bx.1, by have := pb.2; omega, by_.1, trivial⟩) rfl, ?_⟩
   rw [hu, hz, Kb bx.2 by_.2]
   exact GrIs.flat fun σ => rfl
  | ag p zs m => simp [AvP] at pb
  | sc zs l m => simp [AvP] at pb
 | ag p zs m => simp [AvP] at pa
 | sc zs l m => simp [AvP] at pa

theorem Dt {a b c : List Value} {n : Nat} (hn : a.length = n) (h : c.length ≤ b.length) : Bg (a ++ b) n c = a ++ c ++ b.drop c.length := by
 subst hn; exact D7 c a b h
theorem zrep1 (z : Value) (n : Nat) : zrep [z] n = List.replicate n z := rfl
theorem all1_byts {xs : List Value} (h : Byts xs) : all1 xs = true := by
 have : ∀ l : List Int, all1 (l.map (Value.int .u8)) = true := fun l => by
  induction l with
  | nil => rfl
  | cons x l ih => simpa [all1, one1] using ih
 rw [h.1]; exact this _
theorem Do {xs : List Value} (h : Byts xs) : Fl xs := by rw [h.1]; exact Fl.ints _ _
theorem Byts.app {a b : List Value} (ha : Byts a) (hb : Byts b) : Byts (a ++ b) := by
 have e : B1 (a ++ b) = B1 a ++ B1 b := by simp [B1]
 refine ⟨by rw [e, List.map_append, ← ha.1, ← hb.1], fun n hn => ?_⟩
 rw [e, List.mem_append] at hn
 exact hn.elim (ha.2 n) (hb.2 n)
theorem Byts.nil : Byts [] := ⟨rfl, fun n h => by cases h⟩
theorem H9 (n : Nat) : Byts (mk3 n) := by
 refine Byts.of (l := [_, _, _]) fun x hx => ?_
 simp only [List.mem_cons, List.not_mem_nil, or_false] at hx
 rcases hx with rfl | rfl | rfl <;> omega
theorem lent_cs {xs : List Value} {n : Nat} (h : xs.length = n) (a b c : Value) :
  Bg (Bg (Bg (Bg (zrep [Value.int .u8 0] (n + 3)) 0 xs) n [a]) (n + 1) [b]) (n + 1 + 1) [c] = xs ++ [a, b, c] := by
 rw [zrep1, splice_head _ _ (by simp; omega), List.drop_replicate, h, show n + 3 - n = 3 by omega]
 rw [Dt h (by simp)]
 simp only [List.length_singleton, List.drop_replicate]
 rw [Dt (by simp [h]) (by simp)]
 simp only [List.length_singleton, List.drop_replicate]
 rw [Dt (by simp [h]) (by simp)]
 simp
theorem lent_ok : GOk Try.prog 51 [.s 1] gLent := by
 intro av tp gr tp' ob hG ho hP caps hcap
 unfold gLent at hG
 split at hG
 case h_2 => cases hG
 rename_i a
 obtain ⟨ca, rfl⟩ : ∃ x, caps = [x] := by
  match caps, hcap with
  | [x], _ => exact ⟨x, rfl⟩
  | [], h => cases a <;> simp [Dr] at h
  | x :: y :: l, h => cases a <;> simp [Dr] at h
 have hX : XOkZ kLent Try.prog := Ig rfl
 have hT : TOkZ kLent Try.prog := D4 rfl
 have hL : LOkZ kLent Try.prog := C9 rfl
 obtain ⟨pa, _⟩ := hP
 split at hG
 case h_2 => cases hG
 rename_i xs ha
 simp only [oI, pI] at hG
 obtain ⟨rfl, rfl, rfl⟩ := hG
 obtain ⟨bx, bn, _⟩ := ho
 have key : ∀ (m : Nat) (v0 : Value) (h0' : Hp) (_ : List Value), v0 = .slice (some ⟨1, 0, none⟩) m (m + 3) → m ≤ 1099511627776 → lk h0' 1 = some ⟨.shut, xs ++ mk3 m⟩ →
   GrIs ⟨fun nx => .slice (some ⟨nx, 0, none⟩) m (m + 3), [⟨.shut, xs ++ mk3 m⟩]⟩ v0 h0' (fun _ => 1) := by
  intro m v0 h0' _ hv hm hl
  subst hv
  refine ⟨fun nx => ?_, fun j r hj => ?_, fun i j hi hj _ => ?_⟩
  ·have hb : (f2s nx 1 fun _ => 1).b nx = some (1, 0) := by simp [f2s]
   have := B5 (l := m) (c := m + 3) (c' := m + 3) (o := 0) hb (by unfold cpR; rw [if_pos (by unfold B0; omega)]) (by simp [f2s]) (.inl rfl)
   simpa using this
  ·match j, hj with
   | 0, hj => cases hj; exact ⟨(Do bx).app (Do (H9 m)), rfl, (by intro e; cases e), hl⟩
  ·simp at hi hj; omega
 cases a with
 | fl v =>
  simp only [AvP] at pa
  subst pa
  simp only [Ez, oI] at ha
  subst ha
  refine ⟨_, _, _, _, fun _ => 1, C6 hX hT hL lent_n ?_ rfl, key 0 _ _ [] rfl (by omega) rfl⟩
  simp [Alls, rg]
 | sl zs n =>
  simp only [Ez, oI] at ha
  subst ha
  simp only [Bl] at bn ⊢
  have hu := Hu pa.2
  have hl : zs.length = n := by have := pa.2; omega
  have hmin : Nat.min n (n + 3) = n := Nat.min_eq_left (by omega)
  refine ⟨_, _, _, _, fun _ => 1, C6 hX hT hL (lent_s zs n ca) ?_ rfl, key n _ _ [] rfl bn ?_⟩
  ·simp only [hmin, hu, Alls, rg, Dj, zrep1, List.length_replicate, all1_byts bx, decide_eq_true_eq, decide_eq_false_iff_not]
   repeat' (first | with_reducible exact trivial | with_reducible apply And.intro)
   all_goals first | with_reducible assumption | omega | with_reducible rfl | (skip)
  ·simp only [hmin, hu, lent_cs hl]
   rfl
 | ag p zs m => simp [AvP] at pa
 | sc zs l m => simp [AvP] at pa
theorem kitT_one : Cv Try.prog kitT := C4 (Kh same_ok) (Kh lent_ok)
theorem kept_ok : GOk Try.prog 53 [.c 1, .s 1] gKept := by
 intro av tp gr tp' ob hG ho hP caps hcap
 unfold gKept at hG
 split at hG
 case h_2 => cases hG
 rename_i ls l c b
 obtain ⟨ca, cb, rfl⟩ : ∃ x y, caps = [x, y] := by
  match caps, hcap with
  | [x, y], _ => exact ⟨x, y, rfl⟩
  | [], h => simp [Dr] at h
  | [x], h => cases b <;> simp [Dr] at h
  | x :: y :: z :: l, h => cases b <;> simp [Dr] at h
 have hX : XOkZ kKept Try.prog := Ig rfl
 have hT : TOkZ kKept Try.prog := Ly rfl kitT_one
 have hL : LOkZ kKept Try.prog := C9 rfl
 obtain ⟨pa, pb, _⟩ := hP
 split at hG
 case h_2 => cases hG
 rename_i xs hb
 simp only [oI, pI] at hG
 obtain ⟨rfl, rfl, rfl⟩ := hG
 obtain ⟨bl, bx, e1, e2, bn, _⟩ := ho
 subst e1
 subst e2
 obtain ⟨fl, hll, hcb⟩ := pa
 have hul : ls.take (Bl b + 3) = ls := Hu hll
 cases b with
 | fl v =>
  simp only [AvP] at pb
  subst pb
  simp only [Ez, oI] at hb
  subst hb
  simp only [Bl] at *
  refine ⟨_, _, _, _, fun n => n, C6 hX hT hL (kept_n ls 0 (0 + 3)) ?_ rfl, ?_⟩
  ·rw [hul]
   simp only [Alls, rg, decide_eq_true_eq, beq_self_eq_true, and_true, true_and]
   repeat' (first | with_reducible exact trivial | with_reducible apply And.intro)
   all_goals first | with_reducible assumption | omega | with_reducible rfl | (first | exact Byts.nil | exact Do (H9 0) | exact H9 0 | (simp; done))
  ·rw [hul]
   exact GrIs.flat fun σ => rfl
 | sl zs n =>
  simp only [Ez, oI] at hb
  subst hb
  simp only [Bl] at *
  have hu := Hu pb.2
  have hl : zs.length = n := by have := pb.2; omega
  have hm : (zs ++ mk3 n).take (n + 3) = zs ++ mk3 n := List.take_of_length_le (by simp [mk3, hl])
  have hml : (zs ++ mk3 n).length = n + 3 := by simp [mk3, hl]
  refine ⟨_, _, _, _, fun n => n, C6 hX hT hL (kept_s ls zs n (n + 3) n cb) ?_ rfl, ?_⟩
  ·simp only [Dr] at hcap
   simp only [Bl, hul, hu, hm]
   simp only [Alls, rg, decide_eq_true_eq, beq_self_eq_true, and_true, true_and]
   repeat' (first | with_reducible exact trivial | with_reducible apply And.intro)
   all_goals first | with_reducible assumption | omega | with_reducible rfl | (first | exact Do bx | exact (Do bx).app (Do (H9 n)) | exact bx.app (H9 n))
  ·simp only [Bl, hul, hu, hm]
   exact GrIs.flat fun σ => rfl
 | ag p zs m => simp [AvP] at pb
 | sc zs l m => simp [AvP] at pb
def ovV (L : LFun) : Tv := ⟨noTz, noXz, L, tbl 40 [11], allSy 40 [], fun _ => [], fun _ => 0⟩
def K3 (P : Program) : Code := B6 P 40 2
def ovS (m i : Nat) : List (Nat × Value) := [(2, .slice (some ⟨0, 0, none⟩) m m), (3, .int .i64 (i : Int))]
theorem ov_more (inr : Bool) (cs : List Value) (m i : Nat) : prjZ [2, 3] (Bk (ovV noL) Try.prog (runZ (ovV noL) Try.prog 5) 40 inr 100000 (K3 Try.prog) (SL 22 (ovS m i)) [(0, ⟨.shut, cs⟩)] 1 [true]) =
 Res.ok ((Xt.normal, 22, [(2, Value.slice (some (Addr.mk 0 0 none)) m m), (3, Value.int IntKind.i64 (↑(i + 1) : Int))], [(0, Rw.mk Kd.shut (Bg cs i [Value.int IntKind.u8 (IntKind.wrap IntKind.u8 (↑(BitVec.toNat (BitVec.ofInt 8 (J9 cs i) ^^^ BitVec.ofInt 8 (90 : Int))) : Int))]))], 1, [0], []), [], [decide ((↑i : Int) < (↑m : Int)) = true, (0 : Int) ≤ (↑i : Int) ∧ (↑i : Int) < (↑m : Int), cs[i]? = some (Value.int IntKind.u8 (J9 cs i)), (0 : Int) ≤ (↑i : Int) ∧ (↑i : Int) < (↑m : Int), i + 1 ≤ List.length cs, rg IntKind.i64 (↑(i + 1) : Int)]) := by kernel_rfl
theorem ov_done (inr : Bool) (cs : List Value) (m i : Nat) : prjZ [2, 3] (Bk (ovV noL) Try.prog (runZ (ovV noL) Try.prog 5) 40 inr 100000 (K3 Try.prog) (SL 22 (ovS m i)) [(0, ⟨.shut, cs⟩)] 1 [false]) =
 Res.ok ((Xt.exit 0, 22, [(2, Value.slice (some (Addr.mk 0 0 none)) m m), (3, Value.int IntKind.i64 (↑i : Int))], [(0, Rw.mk Kd.shut cs)], 1, [], []), [], [decide ((↑i : Int) < (↑m : Int)) = false]) := by kernel_rfl
def ovSpec : I9 := fun live h nx tp => match live, h with
 | [(_, .slice (some ⟨b, o, none⟩) m c), (_, .int .i64 i)], [(n, ⟨.shut, cs⟩)] => some ((.exit 0, [(2, .slice (some ⟨0, 0, none⟩) m m), (3, .int .i64 (m : Int))], [], 1, [0]), tp, [b = 0, o = 0, c = m, i = 0, n = 0, nx = 1, Byts cs, cs.length = m, m ≤ 9223372036854775807])
 | _, _ => none
def ovL (P : Program) : LFun := mkL 40 2 22 [2, 3] (K3 P) ovSpec
theorem over_s (cs : List Value) (n m : Nat) : runZ (ovV (ovL Try.prog)) Try.prog 5 40 [.slice (some ⟨0, 0, none⟩) n m] [(0, ⟨.shut, cs⟩)] 1 [] =
 Res.ok ((Value.tuple (Array.mk []), [], 1, [0]), [], [m < 18446744073709551616, m < 18446744073709551616, (0 : Int) ≤ (↑m : Int) ∧ (↑m : Int) ≤ (↑m : Int), K3 Try.prog = K3 Try.prog, 0 = 0, 0 = 0, m = m, (0 : Int) = (0 : Int), 0 = 0, 1 = 1, Byts cs, List.length cs = m, m ≤ 9223372036854775807]) := by kernel_rfl
theorem over_n  : runZ (ovV noL) Try.prog 5 40 [.slice none 0 0] [] 1 [false] =
 Res.ok ((Value.tuple (Array.mk []), [], 1, []), [], [0 < 18446744073709551616, (0 : Int) ≤ (0 : Int) ∧ (0 : Int) ≤ (0 : Int), false = false]) := by kernel_rfl
theorem Byts.get {cs : List Value} (h : Byts cs) {i : Nat} (hi : i < cs.length) : cs[i]? = some (.int .u8 (J9 cs i)) ∧ 0 ≤ J9 cs i ∧ J9 cs i < 256 := by
 have hl : (B1 cs).length = cs.length := by simp [B1]
 have hi' : i < (B1 cs).length := by omega
 have e : cs[i]? = some (.int .u8 (B1 cs)[i]) := by
  conv => lhs; rw [h.1]
  rw [List.getElem?_map, List.getElem?_eq_getElem hi']
  rfl
 have ei : J9 cs i = (B1 cs)[i] := by unfold J9; rw [e]
 rw [ei]
 exact ⟨e, h.2 _ (List.getElem_mem _)⟩
theorem Byts.set {cs : List Value} (h : Byts cs) (i : Nat) {n : Int} (hn : 0 ≤ n ∧ n < 256) : Byts (cs.set i (.int .u8 n)) := by
 have e : B1 (cs.set i (.int .u8 n)) = (B1 cs).set i n := by unfold B1; rw [List.map_set]
 refine ⟨?_, fun x hx => ?_⟩
 ·rw [e, List.map_set, ← h.1]
 ·rw [e] at hx
  rcases List.mem_or_eq_of_mem_set hx with hx | rfl
  ·exact h.2 x hx
  ·exact hn
theorem xor_rg (a : Int) : 0 ≤ IntKind.u8.wrap (BitVec.toNat (BitVec.ofInt 8 a ^^^ BitVec.ofInt 8 90) : Nat) ∧ IntKind.u8.wrap (BitVec.toNat (BitVec.ofInt 8 a ^^^ BitVec.ofInt 8 90) : Nat) < 256 := by
 rw [IntKind.wrap_u8]; omega

theorem ov_loop {inr : Bool} {h0 : Hp} (hX : XOkZ (ovV noL) Try.prog) (hT : TOkZ (ovV noL) Try.prog) (hL : LOkZ (ovV noL) Try.prog) : ∀ (k i m : Nat) (cs : List Value), i + k = m → Byts cs → cs.length = m → m ≤ 9223372036854775807 →
  LRuns inr Try.prog (K3 Try.prog) 1 1 h0 22 (ovS m i) [(0, ⟨.shut, cs⟩)] 1 (.exit 0, ovS m m, [])
 | 0, i, m, cs, hi, hb, hl, hm => by
   obtain rfl : i = m := by omega
   refine LRuns.exit (H7 hX hL (Bh hX hT hL mixed 5) mixed (ov_done inr cs i i) ?_) (by intro e; cases e) rfl (Nat.le_refl _) (Nat.le_refl _) (fun n => n) ?_ trivial rfl
   ·simp [Alls]
   ·exact ⟨rfl, Bt rfl (by unfold B0; omega), rfl, rfl, trivial⟩
 | k + 1, i, m, cs, hi, hb, hl, hm => by
   have hi2 : i < cs.length := by omega
   obtain ⟨g1, g2, g3⟩ := hb.get hi2
   refine LRuns.step (l2 := ovS m (i + 1)) (H7 hX hL (Bh hX hT hL mixed 5) mixed (ov_more inr cs m i) ?_) rfl (Nat.le_refl _) (Nat.le_refl _) (fun n => n) ?_ ?_ rfl (ov_loop hX hT hL k (i + 1) m _ (by omega) (hb.set i (xor_rg (J9 cs i))) (by simpa using hl) hm)
   ·simp only [Alls, rg, decide_eq_true_eq]
    repeat' (first | with_reducible exact trivial | with_reducible apply And.intro)
    all_goals first | with_reducible assumption | omega | with_reducible rfl | (skip)
   ·exact ⟨rfl, Bt rfl (by unfold B0; omega), rfl, rfl, trivial⟩
   ·refine ⟨⟨0, _, rfl, rfl, rfl, rfl, .inl (Do (hb.set i (xor_rg (J9 cs i))) _)⟩, trivial⟩
theorem ov_spec_ok : LSOk Try.prog 22 [2, 3] (K3 Try.prog) ovSpec := by
 intro live h nx tp xt l2 h2 nx2 d tp' ob hs ho inr ts hn hg
 have hX : XOkZ (ovV noL) Try.prog := Ig rfl
 have hT : TOkZ (ovV noL) Try.prog := D4 rfl
 have hL : LOkZ (ovV noL) Try.prog := C9 rfl
 unfold ovSpec at hs
 split at hs
 case h_2 => cases hs
 rename_i k2 b o m c k3 i n cs
 simp only [oI, pI] at hs
 obtain ⟨⟨rfl, rfl, rfl, rfl, rfl⟩, rfl, rfl⟩ := hs
 obtain ⟨rfl, rfl, rfl, rfl, rfl, rfl, hb, hl, hm, _⟩ := ho
 have e2 : k2 = 2 ∧ k3 = 3 := by
  simp only [getS] at hg
  split at hg
  ·rename_i v l h1 h2
   split at h2
   ·simp only [oI] at h2
    subst h2
    simp only [oI, List.cons.injEq, pI] at hg
    exact ⟨hg.1.1.symm, hg.2.1.1.symm⟩
   ·cases h2
  ·cases hg
 obtain ⟨rfl, rfl⟩ := e2
 refine LRuns.enter (o := (.exit 0, ovS c c, [])) (l2 := ovS c 0) (h2 := [(0, ⟨.shut, cs⟩)]) hn hg (Nat.le_refl 1) (Nat.le_refl 1) (fun n => n) ?_ ?_ rfl (ov_loop hX hT hL c 0 c cs (by omega) hb hl hm) ?_
 ·exact ⟨rfl, Bt rfl (by unfold B0; omega), rfl, rfl, trivial⟩
 ·exact ⟨⟨0, _, rfl, rfl, rfl, rfl, .inl (Do hb _)⟩, trivial⟩
 ·refine ⟨Nat.le_refl _, fun n hn hd => ?_, fun _ => Ln rfl⟩
  rw [B3, if_neg (fun e => hd (by simp [e]))]
theorem tri_wipe {P : Program} {f : FuncId} (H : ∀ (cs : List Value) (len : Nat), len ≤ cs.length → Byts cs → cs.length ≤ 9223372036854775807 → ∃ nx' d, Tri P f [.slice (some ⟨0, 0, none⟩) len cs.length] [(0, ⟨.shut, cs⟩)] 1 (.tuple #[], [], nx', d))
  {h : Hp} {nx n len c : Nat} {r : Rw} (hl : lk h n = some r) (hlen : len ≤ r.cs.length) (hb : Byts r.cs)
  (hk : (r.kd = .shut ∧ c = r.cs.length ∧ c ≤ 9223372036854775807) ∨ (r.kd = .room 1 [.int .u8 0] ∧ c = B0 + n)) : Tri P f [.slice (some ⟨n, 0, none⟩) len c] h nx (.tuple #[], delH h n, nx, [n]) := by
 have ho : r.own := by
  rcases hk with ⟨e, _⟩ | ⟨e, _⟩ <;> (intro e2; rw [e] at e2; cases e2)
 refine ⟨⟨Nat.le_refl _, fun m _ hd => ?_, fun hB m hm => ?_⟩, fun hB W σ w args' hR hf ha => ?_⟩
 ·simp only [List.mem_singleton] at hd
  simp only
  rw [Bf, if_neg (Ne.symm hd)]
 ·simp only
  rw [Bf]
  split
  ·rfl
  ·exact hB m hm
 obtain ⟨v', vs', hv, hn, rfl⟩ := B9 ha
 simp only [renL, oI] at hn
 subst hn
 rcases B7 hv with ⟨p, c', hp, hc, rfl, _⟩ | ⟨h0, _⟩
 case inr => exact (hR.shr.1 n r hl ho h0).elim
 obtain ⟨b, s, vs, hpb, hvs, hkd⟩ := hR.row _ _ hl
 rw [hp] at hpb
 cases hpb
 have hvv : vs = r.cs := by
  have := Do hb σ
  rw [this] at hvs
  exact (Option.some.inj hvs).symm
 subst hvv
 obtain ⟨full, t, e0, hfull, hfl, hle, hcl, hrow⟩ : ∃ full t, s = 0 ∧ Byts full ∧ full.length ≤ 9223372036854775807 ∧ len ≤ full.length ∧ c' = full.length ∧ w.heap[b]? = some (.cells full.toArray t (0, 0)) := by
  rcases hk with ⟨e, rfl, hcm⟩ | ⟨e, rfl⟩
  ·rw [e] at hkd
   obtain ⟨h1, _, t, h3⟩ := hkd
   refine ⟨r.cs, t, h1, hb, hcm, hlen, ?_, h3⟩
   unfold cpR at hc
   rw [if_pos (by unfold B0; omega)] at hc
   exact (Option.some.inj hc).symm
  ·rw [e] at hkd
   obtain ⟨h1, _, t, rest, k, h3, h4, h5, h6, h7⟩ := hkd
   rw [Bq, h3] at hc
   cases hc
   have hrb : Byts rest := by
    have : rest = List.replicate rest.length (.int .u8 0) := List.eq_replicate_iff.2 ⟨rfl, fun x hx => by simpa using h7 x hx⟩
    rw [this]
    have e2 : List.replicate rest.length (Value.int .u8 0) = (List.replicate rest.length (0 : Int)).map (Value.int .u8) := by simp
    rw [e2]
    exact Byts.of fun x hx => by rw [List.eq_of_mem_replicate hx]; omega
   exact ⟨r.cs ++ rest, t, h1, hb.app hrb, by rw [h5]; unfold maxLen at h6; omega, by simp; omega, by rw [h5]; omega, h4⟩
 subst e0
 subst hcl
 have hge := (hR.ge hl ho hp).1
 have hR0 : Rl W (sgO b) [(0, ⟨.shut, full⟩)] w := rl_one hR.ext hge (Do hfull _) hrow
 obtain ⟨nx', d, T⟩ := H full len hle hfull hfl
 have hv0 : renV (sgO b) (.slice (some ⟨0, 0, none⟩) len full.length) = some (.slice (some ⟨b, 0, none⟩) len full.length) := by
  have := B5 (σ := sgO b) (n := 0) (o := 0) (l := len) (c := full.length) (c' := full.length) (p := (b, 0)) rfl (by unfold cpR; rw [if_pos (by unfold B0; omega)]) (by intro e; cases e) (.inr hle)
  simpa using this
 refine (T.2 (Ln rfl) W _ w _ hR0 (fun k h1 _ => ⟨if_neg (by omega), rfl⟩) (Bi hv0 rfl)).mono ?_
 rintro e w' ⟨σ', u, S, hu, rfl⟩
 have keep : ∀ b', b' < w.heap.size → b' ≠ b → w'.heap[b']? = w.heap[b']? := fun b' h1 h2 => S.fr b' h1 (fun k r1 p1 hk1 _ hp1 => by
  rw [B3] at hk1
  split at hk1
  ·rename_i e; subst e
   simp only [sgO, if_true, oI] at hp1
   rw [← hp1]; exact Ne.symm h2
  ·simp [lk] at hk1) fun k r1 _ hx => by cases hx
 have hdel : ∀ m r', lk (delH h n) m = some r' → lk h m = some r' ∧ m ≠ n := fun m r' hm => by
  rw [Bf] at hm
  split at hm
  ·cases hm
  ·rename_i e; exact ⟨hm, Ne.symm e⟩
 refine ⟨σ, u, Stp0.up ⟨Sg.le.refl σ, fun _ _ => ⟨rfl, rfl⟩, ⟨S.rl.ext, fun m r' hm => ?_, fun m k r1 s1 p1 q1 h1 h2 => hR.inj m k r1 s1 p1 q1 (hdel _ _ h1).1 (hdel _ _ h2).1⟩, S.size, fun b' h1 h2 _ => keep b' h1 fun e => h2 n r (b, 0) hl ho hp e.symm, fun m r1 p1 h1 h2 h3 => .inr ⟨m, r1, p1, (hdel _ _ h1).1, h2, h3, rfl⟩⟩ hR.shr hR.wf (hR.shr.sub fun m s e => ⟨s, (hdel _ _ e).1, fun h => h⟩), ?_, rfl⟩
 ·obtain ⟨h1, h2⟩ := hdel m r' hm
  exact hR.keepV hl ho hp h1 h2 (Sg.le.refl σ) keep
 ·simp only [renV, renA, renL, oI] at hu ⊢
  exact hu
def overT : TFun := fun f args h nx tp => bif Nat.beq f 40 then some (match args with
 | [.slice none l c] => bif Nat.beq l 0 && Nat.beq c 0 then .ok ((.tuple ⟨[]⟩, h, nx, []), tp, []) else .no
 | [.slice (some ⟨n, o, none⟩) len c] => (match lk h n with
  | some r => (match r.kd with
   | .shut => .ok ((.tuple ⟨[]⟩, delH h n, nx, [n]), tp, [o = 0, c = r.cs.length, c ≤ 9223372036854775807, len ≤ r.cs.length, Byts r.cs])
   | .room sz z => bif Nat.beq sz 1 && Iv z [.int .u8 0] then .ok ((.tuple ⟨[]⟩, delH h n, nx, [n]), tp, [o = 0, c = B0 + n, len ≤ r.cs.length, Byts r.cs]) else .no
   | _ => .no)
  | none => .no)
 | _ => .no) else none
theorem over_one : Cv Try.prog overT := by
 intro f args h nx tp out tp' ob e ho
 unfold overT at e
 rcases Be e with ⟨hf, e1⟩ | ⟨_, e1⟩
 case inr => cases e1
 clear e
 obtain rfl := Nat.eq_of_beq_eq_true hf
 have e := Option.some.inj e1
 clear e1
 have hX : ∀ L, XOkZ (ovV L) Try.prog := fun L => Ig rfl
 have hT : ∀ L, TOkZ (ovV L) Try.prog := fun L => D4 rfl
 have hL : LOkZ (ovV (ovL Try.prog)) Try.prog := Lz rfl (Hm ov_spec_ok)
 have hL0 : LOkZ (ovV noL) Try.prog := C9 rfl
 have H : ∀ (cs : List Value) (len : Nat), len ≤ cs.length → Byts cs → cs.length ≤ 9223372036854775807 → ∃ nx' d, Tri Try.prog 40 [.slice (some ⟨0, 0, none⟩) len cs.length] [(0, ⟨.shut, cs⟩)] 1 (.tuple #[], [], nx', d) := fun cs len h1 h2 h3 => by
  refine ⟨_, _, C6 (hX _) (hT _) hL (over_s cs len cs.length) ?_ rfl⟩
  simp only [Alls]
  repeat' (first | with_reducible exact trivial | with_reducible apply And.intro)
  all_goals first | with_reducible assumption | omega | with_reducible rfl | (skip)
 split at e
 ·obtain ⟨hb, e⟩ := Di e
  simp only [Bool.and_eq_true] at hb
  simp only [Res.ok.injEq, pI] at e
  obtain ⟨rfl, rfl, rfl⟩ := e
  obtain rfl := Nat.eq_of_beq_eq_true hb.1
  obtain rfl := Nat.eq_of_beq_eq_true hb.2
  refine L9 (fun σ args' ha => ?_) (fun σ => rfl) fun w => ?_
  ·simp only [renL, renV, oI] at ha; exact ha.symm
  ·exact calls_av [.fl (.slice none 0 0)] (ps := [none]) (fun cs _ => ⟨_, _, _, C6 (hX _) (hT _) hL0 over_n (by simp [Alls]) rfl⟩) (fun σ => rfl) ⟨⟨rfl, fun σ => rfl, rfl⟩, trivial⟩ (fun j ad c hj => by match j, hj with | 0, hj => simp at hj | j + 1, hj => simp at hj)
 ·split at e
  case h_2 => cases e
  rename_i r hl
  split at e
  ·rename_i hk
   simp only [Res.ok.injEq, pI] at e
   obtain ⟨rfl, rfl, rfl⟩ := e
   obtain ⟨rfl, h2, h3, h4, h5, _⟩ := ho
   exact tri_wipe H hl h4 h5 (.inl ⟨hk, h2, h3⟩)
  ·rename_i sz z hk
   obtain ⟨hb, e⟩ := Di e
   simp only [Bool.and_eq_true] at hb
   simp only [Res.ok.injEq, pI] at e
   obtain ⟨rfl, rfl, rfl⟩ := e
   obtain ⟨rfl, h2, h4, h5, _⟩ := ho
   obtain rfl := Nat.eq_of_beq_eq_true hb.1
   obtain rfl := Er hb.2
   exact tri_wipe H hl h4 h5 (.inr ⟨hk, h2⟩)
  ·cases e
 ·cases e
theorem rb_old {lo N : Nat} {ρ : Nat → Nat} {h0 h1 : Hp} {n : Nat} {xs : List Value} (h : n < lo) (hl : lk h1 n = some ⟨.old, xs⟩) (hx : Fl xs) : He lo N ρ h0 h1 n ⟨.old, xs⟩ :=
 ⟨n, _, by unfold fnN; rw [Dd h]; rfl, hl, rfl, rfl, .inl (hx _)⟩
theorem J4 {lo N : Nat} {ρ : Nat → Nat} {h0 h1 : Hp} {n m : Nat} {kd : Kd} (hn : fnN lo N ρ n = some m) (hl : lk h1 m = some ⟨kd, []⟩) (hk : recKd (sgf lo N ρ) kd) : He lo N ρ h0 h1 n ⟨kd, []⟩ :=
 ⟨m, _, hn, hl, rfl, hk, .inl rfl⟩
open Go.ChangeShapes Go.WideShapes Go.ChangeAt Go.RowKit

section
variable {H : Type} {enc : TypeId × Value → H} {P : Program} {W : World}
end
end Go.Proofs.Ytojakfnljopjbaa
