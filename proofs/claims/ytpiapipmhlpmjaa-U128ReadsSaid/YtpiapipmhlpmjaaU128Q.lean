/-
  Chapter 01: the statement U128Reads: what it calls, in few words; the law, run.
-/
import Derived.Test.YtpiapipmhlpmjaaU128O
import Derived.Test.YtpiapipmhlpmjaaU128ZB
namespace Go.Proofs.Ytpiapipmhlpmjaa
set_option linter.unusedSimpArgs false
set_option linter.unusedVariables false
set_option linter.unusedSectionVars false
open Go Go.RowKit

def gByT (X Y : Nat → Int) : GSpec := fun av tp => match tp with
  | true :: tp => (match gByX X av tp with | some (gr, tp', ob) => some (gr, tp', ob) | none => none)
  | false :: tp => (match gByX Y av tp with | some (gr, tp', ob) => some (gr, tp', ob) | none => none)
  | [] => none
theorem gByT_ok {f : FuncId} (H : GOk Try.prog f [.f] gBy) (X Y : Nat → Int) : GOk Try.prog f [.f] (gByT X Y) := by
  intro av tp gr tp' ob hG ho
  unfold gByT at hG
  split at hG
  · split at hG
    · rename_i g t o e
      simp only [Option.some.injEq, Prod.mk.injEq] at hG
      obtain ⟨rfl, rfl, rfl⟩ := hG
      exact gByX_ok H X av _ g t o e ho
    · cases hG
  · split at hG
    · rename_i g t o e
      simp only [Option.some.injEq, Prod.mk.injEq] at hG
      obtain ⟨rfl, rfl, rfl⟩ := hG
      exact gByX_ok H Y av _ g t o e ho
    · cases hG
  · cases hG
/-- Sixteen bytes read; keys. -/
structure RdN (xs : List Value) (n : Nat) (h l : Int) : Prop where
  b : Byts xs
  n : n = 16
  h : h = r8 (xs.drop 8)
  l : l = r8 xs
structure RkN (xs : List Value) (n : Nat) (h l : Int) : Prop where
  b : Byts xs
  n : n = 16
  h : h = r8 (xs.reverse.drop 8)
  l : l = r8 xs.reverse
def rdT (h l : Int) : Value := .tuple ⟨[.agg ⟨[.int .u64 h, .int .u64 l]⟩, .int .i64 0]⟩
def sRn (h l P Q : Int) : Spec1 := fun xs n tp => match tp with
  | true :: tp => some (⟨fun _ => badU, []⟩, tp, [n ≠ 16])
  | false :: true :: tp => some (⟨fun _ => rdT h l, []⟩, tp, [RdN xs n h l])
  | false :: false :: tp => some (⟨fun _ => rdT P Q, []⟩, tp, [RdN xs n P Q])
  | _ => none
def sKn (h l P Q : Int) : Spec1 := fun xs n tp => match tp with
  | true :: tp => some (⟨fun _ => badU, []⟩, tp, [n ≠ 16])
  | false :: true :: tp => some (⟨fun _ => rdT h l, []⟩, tp, [RkN xs n h l])
  | false :: false :: tp => some (⟨fun _ => rdT P Q, []⟩, tp, [RkN xs n P Q])
  | _ => none
theorem GOk.ofS {f : FuncId} {size : Nat} {S S' : Spec1} (H : GOk Try.prog f [.s size] (gS S)) (h : ∀ xs n tp gr tp' ob, S' xs n tp = some (gr, tp', ob) → Alls ob → ∃ tq tp0 ob0, S xs n tq = some (gr, tp0, ob0) ∧ Alls ob0) : GOk Try.prog f [.s size] (gS S') := by
  intro av tp gr tp' ob hG ho
  unfold gS at hG
  split at hG
  · rename_i a
    split at hG
    · rename_i xs hx
      obtain ⟨tq, tp0, ob0, h1, h2⟩ := h _ _ _ _ _ _ hG ho
      refine H [a] tq gr tp0 ob0 ?_ h2
      simp only [gS]
      rw [hx]
      exact h1
    · cases hG
  · cases hG
theorem sRn_of (h l P Q : Int) : ∀ xs n tp gr tp' ob, sRn h l P Q xs n tp = some (gr, tp', ob) → Alls ob → ∃ tq tp0 ob0, sR2 xs n tq = some (gr, tp0, ob0) ∧ Alls ob0 := by
  intro xs n tp gr tp' ob hG ho
  unfold sRn at hG
  split at hG
  · simp only [Option.some.injEq, Prod.mk.injEq] at hG
    obtain ⟨rfl, rfl, rfl⟩ := hG
    exact ⟨[true], [], _, rfl, ho⟩
  · simp only [Option.some.injEq, Prod.mk.injEq] at hG
    obtain ⟨rfl, rfl, rfl⟩ := hG
    obtain ⟨⟨h1, h2, h3, h4⟩, _⟩ := ho
    subst h3
    subst h4
    exact ⟨[false], [], [Byts xs, n = 16], rfl, h1, h2, trivial⟩
  · simp only [Option.some.injEq, Prod.mk.injEq] at hG
    obtain ⟨rfl, rfl, rfl⟩ := hG
    obtain ⟨⟨h1, h2, h3, h4⟩, _⟩ := ho
    subst h3
    subst h4
    exact ⟨[false], [], [Byts xs, n = 16], rfl, h1, h2, trivial⟩
  · cases hG
theorem sKn_of (h l P Q : Int) : ∀ xs n tp gr tp' ob, sKn h l P Q xs n tp = some (gr, tp', ob) → Alls ob → ∃ tq tp0 ob0, sK2 xs n tq = some (gr, tp0, ob0) ∧ Alls ob0 := by
  intro xs n tp gr tp' ob hG ho
  unfold sKn at hG
  split at hG
  · simp only [Option.some.injEq, Prod.mk.injEq] at hG
    obtain ⟨rfl, rfl, rfl⟩ := hG
    exact ⟨[true], [], _, rfl, ho⟩
  · simp only [Option.some.injEq, Prod.mk.injEq] at hG
    obtain ⟨rfl, rfl, rfl⟩ := hG
    obtain ⟨⟨h1, h2, h3, h4⟩, _⟩ := ho
    subst h3
    subst h4
    exact ⟨[false], [], [Byts xs, n = 16], rfl, h1, h2, trivial⟩
  · simp only [Option.some.injEq, Prod.mk.injEq] at hG
    obtain ⟨rfl, rfl, rfl⟩ := hG
    obtain ⟨⟨h1, h2, h3, h4⟩, _⟩ := ho
    subst h3
    subst h4
    exact ⟨[false], [], [Byts xs, n = 16], rfl, h1, h2, trivial⟩
  · cases hG
def gKeN (K0 K1 : List Value) : GSpec := fun av tp => match av, tp with
  | [.fl (.agg ⟨[.int .u64 a, .int .u64 b]⟩)], true :: tp => some (⟨fun nx => .slice (some ⟨nx, 0, none⟩) 16 16, [⟨.shut, K0⟩]⟩, tp, [K0 = keyB a b])
  | [.fl (.agg ⟨[.int .u64 a, .int .u64 b]⟩)], false :: tp => some (⟨fun nx => .slice (some ⟨nx, 0, none⟩) 16 16, [⟨.shut, K1⟩]⟩, tp, [K1 = keyB a b])
  | _, _ => none
theorem gKeN_ok (K0 K1 : List Value) : GOk Try.prog 27 [.f] (gKeN K0 K1) := by
  intro av tp gr tp' ob hG ho
  unfold gKeN at hG
  split at hG
  · rename_i a b tp
    simp only [Option.some.injEq, Prod.mk.injEq] at hG
    obtain ⟨rfl, rfl, rfl⟩ := hG
    obtain ⟨rfl, _⟩ := ho
    exact ke_i_gok [.fl (.agg ⟨[.int .u64 a, .int .u64 b]⟩)] tp _ tp _ rfl trivial
  · rename_i a b tp
    simp only [Option.some.injEq, Prod.mk.injEq] at hG
    obtain ⟨rfl, rfl, rfl⟩ := hG
    obtain ⟨rfl, _⟩ := ho
    exact ke_i_gok [.fl (.agg ⟨[.int .u64 a, .int .u64 b]⟩)] tp _ tp _ rfl trivial
  · cases hG
structure SamT (xs ys : List Value) : Prop where
  x : Byts xs
  y : Byts ys
  e : xs = ys
def gSamT : GSpec := fun av tp => match av with
  | [a, b] => match bytsA a, bytsA b with
    | some xs, some ys => some (⟨fun _ => .bool true, []⟩, tp, [SamT xs ys])
    | _, _ => none
  | _ => none
theorem gSamT_ok : GOk Try.prog 28 [.s 1, .s 1] gSamT := by
  intro av tp gr tp' ob hG ho
  unfold gSamT at hG
  split at hG
  · rename_i a b
    split at hG
    · rename_i xs ys hx hy
      simp only [Option.some.injEq, Prod.mk.injEq] at hG
      obtain ⟨rfl, rfl, rfl⟩ := hG
      obtain ⟨⟨h1, h2, h3⟩, _⟩ := ho
      subst h3
      refine same_ok [a, b] tp ⟨fun _ => .bool true, []⟩ tp [Byts xs, Byts xs] ?_ ⟨h1, h1, trivial⟩
      unfold gSame
      simp only [hx, hy]
      simp
    · cases hG
  · cases hG
def urT (X Y : Nat → Int) (h l P Q U V : Int) (K0 K1 : List Value) : TFun := orTz (mkT 7 [] gTrueY) (orTz (mkT 31 [.f] (gByT X Y)) (orTz (mkT 23 [.s 1] (gS (sRn h l P Q))) (orTz (mkT 25 [.s 1] (gS (sKn h l U V))) (orTz (mkT 27 [.f] (gKeN K0 K1)) (orTz (mkT 28 [.s 1, .s 1] gSamT) (orTz (mkT 36 [.f] gTxt) (mkT 34 [.f] gPrs)))))))
theorem urT_one (X Y : Nat → Int) (h l P Q U V : Int) (K0 K1 : List Value) : TOneZ Try.prog (urT X Y h l P Q U V K0 K1) := orTz_ok (mkT_one (gTrueY_ok known_any)) (orTz_ok (mkT_one (gByT_ok by_i_gok X Y)) (orTz_ok (mkT_one (rd_i2_gok.ofS (sRn_of h l P Q))) (orTz_ok (mkT_one (kr_i2_gok.ofS (sKn_of h l U V))) (orTz_ok (mkT_one (gKeN_ok K0 K1)) (orTz_ok (mkT_one gSamT_ok) (orTz_ok (mkT_one ti_gok) (mkT_one pi_gok)))))))
def urV (X Y : Nat → Int) (h l P Q U V : Int) (K0 K1 : List Value) : Tv := ⟨urT X Y h l P Q U V K0 K1, noXz, noL, tbl 10 [20, 24, 48, 52, 57, 69, 112, 117], noSy, fun _ => [], fun _ => 0⟩
theorem ur_nb (X Y : Nat → Int) (h l P Q U V : Int) (K0 K1  : List Value) (s : ByteArray) : prjV (runZ (urV X Y h l P Q U V K0 K1) Try.prog 9 10 [.agg ⟨[.int .u64 h, .int .u64 l]⟩, .slice none 0 0, .string s] [] 3 [false, false, true, false, true, true, false, true, false, false, false, false, true, true, false, true]) =
  Res.ok (Value.bool true, [], [false = false, decide ((↑(List.length (Array.toList (ByteArray.data s))) : Int) > (1000 : Int)) = false, BysIs X h l, ∀ (k : Nat), X k = byX h l k, 16 ≤ 16 ∧ 16 ≤ 9223372036854775807, 16 ≤
 16, Fl [Value.int IntKind.u8 (X 0), Value.int IntKind.u8 (X 1), Value.int IntKind.u8 (X 2), Value.int IntKind.u8 (X 3), Value.int IntKind.u8 (X 4), Value.int IntKind.u8 (X 5), Value.int IntKind.u8 (X 6), Value.int
 IntKind.u8 (X 7), Value.int IntKind.u8 (X 8), Value.int IntKind.u8 (X 9), Value.int IntKind.u8 (X 10), Value.int IntKind.u8 (X 11), Value.int IntKind.u8 (X 12), Value.int IntKind.u8 (X 13), Value.int IntKind.u8 (X 14),
 Value.int IntKind.u8 (X 15)], RdN [Value.int IntKind.u8 (X 0), Value.int IntKind.u8 (X 1), Value.int IntKind.u8 (X 2), Value.int IntKind.u8 (X 3), Value.int IntKind.u8 (X 4), Value.int IntKind.u8 (X 5), Value.int
 IntKind.u8 (X 6), Value.int IntKind.u8 (X 7), Value.int IntKind.u8 (X 8), Value.int IntKind.u8 (X 9), Value.int IntKind.u8 (X 10), Value.int IntKind.u8 (X 11), Value.int IntKind.u8 (X 12), Value.int IntKind.u8 (X 13),
 Value.int IntKind.u8 (X 14), Value.int IntKind.u8 (X 15)] 16 h l, K0 = [Value.int IntKind.u8 (h / (72057594037927936 : Int) % (256 : Int)), Value.int IntKind.u8 (h / (281474976710656 : Int) % (256 : Int)), Value.int
 IntKind.u8 (h / (1099511627776 : Int) % (256 : Int)), Value.int IntKind.u8 (h / (4294967296 : Int) % (256 : Int)), Value.int IntKind.u8 (h / (16777216 : Int) % (256 : Int)), Value.int IntKind.u8 (h / (65536 : Int) % (256
 : Int)), Value.int IntKind.u8 (h / (256 : Int) % (256 : Int)), Value.int IntKind.u8 (h % (256 : Int)), Value.int IntKind.u8 (l / (72057594037927936 : Int) % (256 : Int)), Value.int IntKind.u8 (l / (281474976710656 : Int)
 % (256 : Int)), Value.int IntKind.u8 (l / (1099511627776 : Int) % (256 : Int)), Value.int IntKind.u8 (l / (4294967296 : Int) % (256 : Int)), Value.int IntKind.u8 (l / (16777216 : Int) % (256 : Int)), Value.int IntKind.u8
 (l / (65536 : Int) % (256 : Int)), Value.int IntKind.u8 (l / (256 : Int) % (256 : Int)), Value.int IntKind.u8 (l % (256 : Int))], 16 ≤ 16 ∧ 16 ≤ 9223372036854775807, 16 ≤ List.length K0, Fl (List.take 16 K0), RkN
 (List.take 16 K0) 16 h l, wf64 h, wf64 l, (!(h == h && (l == l && true))) = false, (!(h == h && (l == l && true))) = false, (!(pvH (strI (txtI h l)) == h && (pvL (strI (txtI h l)) == l && true))) = false, (pvC (strI (txtI
 h l)) != (0 : Int)) = false, 0 ≠ 16, 0 ≠ 16, BysIs Y (0 : Int) (0 : Int), ∀ (k : Nat), Y k = byX (0 : Int) (0 : Int) k, (pvC s != (0 : Int)) = true]) := by kernel_rfl
theorem ur_nk (X Y : Nat → Int) (h l P Q U V : Int) (K0 K1  : List Value) (s : ByteArray) : prjV (runZ (urV X Y h l P Q U V K0 K1) Try.prog 9 10 [.agg ⟨[.int .u64 h, .int .u64 l]⟩, .slice none 0 0, .string s] [] 3 [false, false, true, false, true, true, false, true, false, false, false, false, true, true, false, false, true]) =
  Res.ok (Value.bool true, [], [false = false, decide ((↑(List.length (Array.toList (ByteArray.data s))) : Int) > (1000 : Int)) = false, BysIs X h l, ∀ (k : Nat), X k = byX h l k, 16 ≤ 16 ∧ 16 ≤ 9223372036854775807, 16 ≤
 16, Fl [Value.int IntKind.u8 (X 0), Value.int IntKind.u8 (X 1), Value.int IntKind.u8 (X 2), Value.int IntKind.u8 (X 3), Value.int IntKind.u8 (X 4), Value.int IntKind.u8 (X 5), Value.int IntKind.u8 (X 6), Value.int
 IntKind.u8 (X 7), Value.int IntKind.u8 (X 8), Value.int IntKind.u8 (X 9), Value.int IntKind.u8 (X 10), Value.int IntKind.u8 (X 11), Value.int IntKind.u8 (X 12), Value.int IntKind.u8 (X 13), Value.int IntKind.u8 (X 14),
 Value.int IntKind.u8 (X 15)], RdN [Value.int IntKind.u8 (X 0), Value.int IntKind.u8 (X 1), Value.int IntKind.u8 (X 2), Value.int IntKind.u8 (X 3), Value.int IntKind.u8 (X 4), Value.int IntKind.u8 (X 5), Value.int
 IntKind.u8 (X 6), Value.int IntKind.u8 (X 7), Value.int IntKind.u8 (X 8), Value.int IntKind.u8 (X 9), Value.int IntKind.u8 (X 10), Value.int IntKind.u8 (X 11), Value.int IntKind.u8 (X 12), Value.int IntKind.u8 (X 13),
 Value.int IntKind.u8 (X 14), Value.int IntKind.u8 (X 15)] 16 h l, K0 = [Value.int IntKind.u8 (h / (72057594037927936 : Int) % (256 : Int)), Value.int IntKind.u8 (h / (281474976710656 : Int) % (256 : Int)), Value.int
 IntKind.u8 (h / (1099511627776 : Int) % (256 : Int)), Value.int IntKind.u8 (h / (4294967296 : Int) % (256 : Int)), Value.int IntKind.u8 (h / (16777216 : Int) % (256 : Int)), Value.int IntKind.u8 (h / (65536 : Int) % (256
 : Int)), Value.int IntKind.u8 (h / (256 : Int) % (256 : Int)), Value.int IntKind.u8 (h % (256 : Int)), Value.int IntKind.u8 (l / (72057594037927936 : Int) % (256 : Int)), Value.int IntKind.u8 (l / (281474976710656 : Int)
 % (256 : Int)), Value.int IntKind.u8 (l / (1099511627776 : Int) % (256 : Int)), Value.int IntKind.u8 (l / (4294967296 : Int) % (256 : Int)), Value.int IntKind.u8 (l / (16777216 : Int) % (256 : Int)), Value.int IntKind.u8
 (l / (65536 : Int) % (256 : Int)), Value.int IntKind.u8 (l / (256 : Int) % (256 : Int)), Value.int IntKind.u8 (l % (256 : Int))], 16 ≤ 16 ∧ 16 ≤ 9223372036854775807, 16 ≤ List.length K0, Fl (List.take 16 K0), RkN
 (List.take 16 K0) 16 h l, wf64 h, wf64 l, (!(h == h && (l == l && true))) = false, (!(h == h && (l == l && true))) = false, (!(pvH (strI (txtI h l)) == h && (pvL (strI (txtI h l)) == l && true))) = false, (pvC (strI (txtI
 h l)) != (0 : Int)) = false, 0 ≠ 16, 0 ≠ 16, BysIs Y (0 : Int) (0 : Int), ∀ (k : Nat), Y k = byX (0 : Int) (0 : Int) k, (pvC s != (0 : Int)) = false, wf64 (pvH s), wf64 (pvL s), strEq (strI (txtI (pvH s) (pvL s))) s =
 true]) := by kernel_rfl
theorem ur_zb (X Y : Nat → Int) (h l P Q U V : Int) (K0 K1 xs : List Value) (s : ByteArray) (n c : Nat) : prjV (runZ (urV X Y h l P Q U V K0 K1) Try.prog 9 10 [.agg ⟨[.int .u64 h, .int .u64 l]⟩, .slice (some ⟨1, 0, none⟩) n c, .string s] [(1, ⟨.old, xs⟩)] 3 [false, false, true, false, true, true, false, true, false, false, false, false, true, true, false, true]) =
  Res.ok (Value.bool true, [], ((fun (q0 q1 q2 q3 q4 : Prop) => [decide ((↑n : Int) > (1000 : Int)) = false, decide ((↑(List.length (Array.toList (ByteArray.data s))) : Int) > (1000 : Int)) = false, BysIs X h l, ∀ (k :
 Nat), X k = byX h l k, q0, 16 ≤ 16, Fl [Value.int IntKind.u8 (X 0), Value.int IntKind.u8 (X 1), Value.int IntKind.u8 (X 2), Value.int IntKind.u8 (X 3), Value.int IntKind.u8 (X 4), Value.int IntKind.u8 (X 5), Value.int
 IntKind.u8 (X 6), Value.int IntKind.u8 (X 7), Value.int IntKind.u8 (X 8), Value.int IntKind.u8 (X 9), Value.int IntKind.u8 (X 10), Value.int IntKind.u8 (X 11), Value.int IntKind.u8 (X 12), Value.int IntKind.u8 (X 13),
 Value.int IntKind.u8 (X 14), Value.int IntKind.u8 (X 15)], RdN [Value.int IntKind.u8 (X 0), Value.int IntKind.u8 (X 1), Value.int IntKind.u8 (X 2), Value.int IntKind.u8 (X 3), Value.int IntKind.u8 (X 4), Value.int
 IntKind.u8 (X 5), Value.int IntKind.u8 (X 6), Value.int IntKind.u8 (X 7), Value.int IntKind.u8 (X 8), Value.int IntKind.u8 (X 9), Value.int IntKind.u8 (X 10), Value.int IntKind.u8 (X 11), Value.int IntKind.u8 (X 12),
 Value.int IntKind.u8 (X 13), Value.int IntKind.u8 (X 14), Value.int IntKind.u8 (X 15)] 16 h l, K0 = [Value.int IntKind.u8 (h / (72057594037927936 : Int) % (256 : Int)), Value.int IntKind.u8 (h / (281474976710656 : Int) %
 (256 : Int)), Value.int IntKind.u8 (h / (1099511627776 : Int) % (256 : Int)), Value.int IntKind.u8 (h / (4294967296 : Int) % (256 : Int)), Value.int IntKind.u8 (h / (16777216 : Int) % (256 : Int)), Value.int IntKind.u8 (h
 / (65536 : Int) % (256 : Int)), Value.int IntKind.u8 (h / (256 : Int) % (256 : Int)), Value.int IntKind.u8 (h % (256 : Int)), Value.int IntKind.u8 (l / (72057594037927936 : Int) % (256 : Int)), Value.int IntKind.u8 (l /
 (281474976710656 : Int) % (256 : Int)), Value.int IntKind.u8 (l / (1099511627776 : Int) % (256 : Int)), Value.int IntKind.u8 (l / (4294967296 : Int) % (256 : Int)), Value.int IntKind.u8 (l / (16777216 : Int) % (256 :
 Int)), Value.int IntKind.u8 (l / (65536 : Int) % (256 : Int)), Value.int IntKind.u8 (l / (256 : Int) % (256 : Int)), Value.int IntKind.u8 (l % (256 : Int))], q0, 16 ≤ List.length K0, Fl (List.take 16 K0), RkN (List.take
 16 K0) 16 h l, wf64 h, wf64 l, q1, q1, (!(pvH (strI (txtI h l)) == h && (pvL (strI (txtI h l)) == l && true))) = false, (pvC (strI (txtI h l)) != (0 : Int)) = false, q2, q3, q4, n ≠ 16, q2, q3, q4, n ≠ 16, BysIs Y (0 :
 Int) (0 : Int), ∀ (k : Nat), Y k = byX (0 : Int) (0 : Int) k, (pvC s != (0 : Int)) = true]) (16 ≤ 16 ∧ 16 ≤ 9223372036854775807) ((!(h == h && (l == l && true))) = false) (n ≤ c ∧ c ≤ 9223372036854775807) (n ≤ List.length
 xs) (Fl (List.take n xs)))) := by kernel_rfl
theorem ur_zk (X Y : Nat → Int) (h l P Q U V : Int) (K0 K1 xs : List Value) (s : ByteArray) (n c : Nat) : prjV (runZ (urV X Y h l P Q U V K0 K1) Try.prog 9 10 [.agg ⟨[.int .u64 h, .int .u64 l]⟩, .slice (some ⟨1, 0, none⟩) n c, .string s] [(1, ⟨.old, xs⟩)] 3 [false, false, true, false, true, true, false, true, false, false, false, false, true, true, false, false, true]) =
  Res.ok (Value.bool true, [], ((fun (q0 q1 q2 q3 q4 : Prop) => [decide ((↑n : Int) > (1000 : Int)) = false, decide ((↑(List.length (Array.toList (ByteArray.data s))) : Int) > (1000 : Int)) = false, BysIs X h l, ∀ (k :
 Nat), X k = byX h l k, q0, 16 ≤ 16, Fl [Value.int IntKind.u8 (X 0), Value.int IntKind.u8 (X 1), Value.int IntKind.u8 (X 2), Value.int IntKind.u8 (X 3), Value.int IntKind.u8 (X 4), Value.int IntKind.u8 (X 5), Value.int
 IntKind.u8 (X 6), Value.int IntKind.u8 (X 7), Value.int IntKind.u8 (X 8), Value.int IntKind.u8 (X 9), Value.int IntKind.u8 (X 10), Value.int IntKind.u8 (X 11), Value.int IntKind.u8 (X 12), Value.int IntKind.u8 (X 13),
 Value.int IntKind.u8 (X 14), Value.int IntKind.u8 (X 15)], RdN [Value.int IntKind.u8 (X 0), Value.int IntKind.u8 (X 1), Value.int IntKind.u8 (X 2), Value.int IntKind.u8 (X 3), Value.int IntKind.u8 (X 4), Value.int
 IntKind.u8 (X 5), Value.int IntKind.u8 (X 6), Value.int IntKind.u8 (X 7), Value.int IntKind.u8 (X 8), Value.int IntKind.u8 (X 9), Value.int IntKind.u8 (X 10), Value.int IntKind.u8 (X 11), Value.int IntKind.u8 (X 12),
 Value.int IntKind.u8 (X 13), Value.int IntKind.u8 (X 14), Value.int IntKind.u8 (X 15)] 16 h l, K0 = [Value.int IntKind.u8 (h / (72057594037927936 : Int) % (256 : Int)), Value.int IntKind.u8 (h / (281474976710656 : Int) %
 (256 : Int)), Value.int IntKind.u8 (h / (1099511627776 : Int) % (256 : Int)), Value.int IntKind.u8 (h / (4294967296 : Int) % (256 : Int)), Value.int IntKind.u8 (h / (16777216 : Int) % (256 : Int)), Value.int IntKind.u8 (h
 / (65536 : Int) % (256 : Int)), Value.int IntKind.u8 (h / (256 : Int) % (256 : Int)), Value.int IntKind.u8 (h % (256 : Int)), Value.int IntKind.u8 (l / (72057594037927936 : Int) % (256 : Int)), Value.int IntKind.u8 (l /
 (281474976710656 : Int) % (256 : Int)), Value.int IntKind.u8 (l / (1099511627776 : Int) % (256 : Int)), Value.int IntKind.u8 (l / (4294967296 : Int) % (256 : Int)), Value.int IntKind.u8 (l / (16777216 : Int) % (256 :
 Int)), Value.int IntKind.u8 (l / (65536 : Int) % (256 : Int)), Value.int IntKind.u8 (l / (256 : Int) % (256 : Int)), Value.int IntKind.u8 (l % (256 : Int))], q0, 16 ≤ List.length K0, Fl (List.take 16 K0), RkN (List.take
 16 K0) 16 h l, wf64 h, wf64 l, q1, q1, (!(pvH (strI (txtI h l)) == h && (pvL (strI (txtI h l)) == l && true))) = false, (pvC (strI (txtI h l)) != (0 : Int)) = false, q2, q3, q4, n ≠ 16, q2, q3, q4, n ≠ 16, BysIs Y (0 :
 Int) (0 : Int), ∀ (k : Nat), Y k = byX (0 : Int) (0 : Int) k, (pvC s != (0 : Int)) = false, wf64 (pvH s), wf64 (pvL s), strEq (strI (txtI (pvH s) (pvL s))) s = true]) (16 ≤ 16 ∧ 16 ≤ 9223372036854775807) ((!(h == h && (l
 == l && true))) = false) (n ≤ c ∧ c ≤ 9223372036854775807) (n ≤ List.length xs) (Fl (List.take n xs)))) := by kernel_rfl
theorem ur_kb (X Y : Nat → Int) (h l P Q U V : Int) (K0 K1 xs : List Value) (s : ByteArray) (c : Nat) : prjV (runZ (urV X Y h l P Q U V K0 K1) Try.prog 9 10 [.agg ⟨[.int .u64 h, .int .u64 l]⟩, .slice (some ⟨1, 0, none⟩) 16 c, .string s] [(1, ⟨.old, xs⟩)] 3 [false, false, true, false, true, true, false, true, false, false, false, false, false, false, false, false, false, false, true]) =
  Res.ok (Value.bool true, [], ((fun (q0 q1 q2 q3 q4 : Prop) => [false = false, decide ((↑(List.length (Array.toList (ByteArray.data s))) : Int) > (1000 : Int)) = false, BysIs X h l, ∀ (k : Nat), X k = byX h l k, q0, 16 ≤
 16, Fl [Value.int IntKind.u8 (X 0), Value.int IntKind.u8 (X 1), Value.int IntKind.u8 (X 2), Value.int IntKind.u8 (X 3), Value.int IntKind.u8 (X 4), Value.int IntKind.u8 (X 5), Value.int IntKind.u8 (X 6), Value.int
 IntKind.u8 (X 7), Value.int IntKind.u8 (X 8), Value.int IntKind.u8 (X 9), Value.int IntKind.u8 (X 10), Value.int IntKind.u8 (X 11), Value.int IntKind.u8 (X 12), Value.int IntKind.u8 (X 13), Value.int IntKind.u8 (X 14),
 Value.int IntKind.u8 (X 15)], RdN [Value.int IntKind.u8 (X 0), Value.int IntKind.u8 (X 1), Value.int IntKind.u8 (X 2), Value.int IntKind.u8 (X 3), Value.int IntKind.u8 (X 4), Value.int IntKind.u8 (X 5), Value.int
 IntKind.u8 (X 6), Value.int IntKind.u8 (X 7), Value.int IntKind.u8 (X 8), Value.int IntKind.u8 (X 9), Value.int IntKind.u8 (X 10), Value.int IntKind.u8 (X 11), Value.int IntKind.u8 (X 12), Value.int IntKind.u8 (X 13),
 Value.int IntKind.u8 (X 14), Value.int IntKind.u8 (X 15)] 16 h l, K0 = [Value.int IntKind.u8 (h / (72057594037927936 : Int) % (256 : Int)), Value.int IntKind.u8 (h / (281474976710656 : Int) % (256 : Int)), Value.int
 IntKind.u8 (h / (1099511627776 : Int) % (256 : Int)), Value.int IntKind.u8 (h / (4294967296 : Int) % (256 : Int)), Value.int IntKind.u8 (h / (16777216 : Int) % (256 : Int)), Value.int IntKind.u8 (h / (65536 : Int) % (256
 : Int)), Value.int IntKind.u8 (h / (256 : Int) % (256 : Int)), Value.int IntKind.u8 (h % (256 : Int)), Value.int IntKind.u8 (l / (72057594037927936 : Int) % (256 : Int)), Value.int IntKind.u8 (l / (281474976710656 : Int)
 % (256 : Int)), Value.int IntKind.u8 (l / (1099511627776 : Int) % (256 : Int)), Value.int IntKind.u8 (l / (4294967296 : Int) % (256 : Int)), Value.int IntKind.u8 (l / (16777216 : Int) % (256 : Int)), Value.int IntKind.u8
 (l / (65536 : Int) % (256 : Int)), Value.int IntKind.u8 (l / (256 : Int) % (256 : Int)), Value.int IntKind.u8 (l % (256 : Int))], q0, 16 ≤ List.length K0, Fl (List.take 16 K0), RkN (List.take 16 K0) 16 h l, wf64 h, wf64
 l, q1, q1, (!(pvH (strI (txtI h l)) == h && (pvL (strI (txtI h l)) == l && true))) = false, (pvC (strI (txtI h l)) != (0 : Int)) = false, q2, q3, q4, RdN (List.take 16 xs) 16 P Q, q2, q3, q4, RkN (List.take 16 xs) 16 U V,
 BysIs Y P Q, ∀ (k : Nat), Y k = byX P Q k, q0, 16 ≤ 16, Fl [Value.int IntKind.u8 (Y 0), Value.int IntKind.u8 (Y 1), Value.int IntKind.u8 (Y 2), Value.int IntKind.u8 (Y 3), Value.int IntKind.u8 (Y 4), Value.int IntKind.u8
 (Y 5), Value.int IntKind.u8 (Y 6), Value.int IntKind.u8 (Y 7), Value.int IntKind.u8 (Y 8), Value.int IntKind.u8 (Y 9), Value.int IntKind.u8 (Y 10), Value.int IntKind.u8 (Y 11), Value.int IntKind.u8 (Y 12), Value.int
 IntKind.u8 (Y 13), Value.int IntKind.u8 (Y 14), Value.int IntKind.u8 (Y 15)], q2, q3, q4, SamT [Value.int IntKind.u8 (Y 0), Value.int IntKind.u8 (Y 1), Value.int IntKind.u8 (Y 2), Value.int IntKind.u8 (Y 3), Value.int
 IntKind.u8 (Y 4), Value.int IntKind.u8 (Y 5), Value.int IntKind.u8 (Y 6), Value.int IntKind.u8 (Y 7), Value.int IntKind.u8 (Y 8), Value.int IntKind.u8 (Y 9), Value.int IntKind.u8 (Y 10), Value.int IntKind.u8 (Y 11),
 Value.int IntKind.u8 (Y 12), Value.int IntKind.u8 (Y 13), Value.int IntKind.u8 (Y 14), Value.int IntKind.u8 (Y 15)] (List.take 16 xs), K1 = [Value.int IntKind.u8 (U / (72057594037927936 : Int) % (256 : Int)), Value.int
 IntKind.u8 (U / (281474976710656 : Int) % (256 : Int)), Value.int IntKind.u8 (U / (1099511627776 : Int) % (256 : Int)), Value.int IntKind.u8 (U / (4294967296 : Int) % (256 : Int)), Value.int IntKind.u8 (U / (16777216 :
 Int) % (256 : Int)), Value.int IntKind.u8 (U / (65536 : Int) % (256 : Int)), Value.int IntKind.u8 (U / (256 : Int) % (256 : Int)), Value.int IntKind.u8 (U % (256 : Int)), Value.int IntKind.u8 (V / (72057594037927936 :
 Int) % (256 : Int)), Value.int IntKind.u8 (V / (281474976710656 : Int) % (256 : Int)), Value.int IntKind.u8 (V / (1099511627776 : Int) % (256 : Int)), Value.int IntKind.u8 (V / (4294967296 : Int) % (256 : Int)), Value.int
 IntKind.u8 (V / (16777216 : Int) % (256 : Int)), Value.int IntKind.u8 (V / (65536 : Int) % (256 : Int)), Value.int IntKind.u8 (V / (256 : Int) % (256 : Int)), Value.int IntKind.u8 (V % (256 : Int))], q0, 16 ≤ List.length
 K1, Fl (List.take 16 K1), q2, q3, q4, SamT (List.take 16 K1) (List.take 16 xs), (pvC s != (0 : Int)) = true]) (16 ≤ 16 ∧ 16 ≤ 9223372036854775807) ((!(h == h && (l == l && true))) = false) (16 ≤ c ∧ c ≤
 9223372036854775807) (16 ≤ List.length xs) (Fl (List.take 16 xs)))) := by kernel_rfl
theorem ur_kk (X Y : Nat → Int) (h l P Q U V : Int) (K0 K1 xs : List Value) (s : ByteArray) (c : Nat) : prjV (runZ (urV X Y h l P Q U V K0 K1) Try.prog 9 10 [.agg ⟨[.int .u64 h, .int .u64 l]⟩, .slice (some ⟨1, 0, none⟩) 16 c, .string s] [(1, ⟨.old, xs⟩)] 3 [false, false, true, false, true, true, false, true, false, false, false, false, false, false, false, false, false, false, false, true]) =
  Res.ok (Value.bool true, [], ((fun (q0 q1 q2 q3 q4 : Prop) => [false = false, decide ((↑(List.length (Array.toList (ByteArray.data s))) : Int) > (1000 : Int)) = false, BysIs X h l, ∀ (k : Nat), X k = byX h l k, q0, 16 ≤
 16, Fl [Value.int IntKind.u8 (X 0), Value.int IntKind.u8 (X 1), Value.int IntKind.u8 (X 2), Value.int IntKind.u8 (X 3), Value.int IntKind.u8 (X 4), Value.int IntKind.u8 (X 5), Value.int IntKind.u8 (X 6), Value.int
 IntKind.u8 (X 7), Value.int IntKind.u8 (X 8), Value.int IntKind.u8 (X 9), Value.int IntKind.u8 (X 10), Value.int IntKind.u8 (X 11), Value.int IntKind.u8 (X 12), Value.int IntKind.u8 (X 13), Value.int IntKind.u8 (X 14),
 Value.int IntKind.u8 (X 15)], RdN [Value.int IntKind.u8 (X 0), Value.int IntKind.u8 (X 1), Value.int IntKind.u8 (X 2), Value.int IntKind.u8 (X 3), Value.int IntKind.u8 (X 4), Value.int IntKind.u8 (X 5), Value.int
 IntKind.u8 (X 6), Value.int IntKind.u8 (X 7), Value.int IntKind.u8 (X 8), Value.int IntKind.u8 (X 9), Value.int IntKind.u8 (X 10), Value.int IntKind.u8 (X 11), Value.int IntKind.u8 (X 12), Value.int IntKind.u8 (X 13),
 Value.int IntKind.u8 (X 14), Value.int IntKind.u8 (X 15)] 16 h l, K0 = [Value.int IntKind.u8 (h / (72057594037927936 : Int) % (256 : Int)), Value.int IntKind.u8 (h / (281474976710656 : Int) % (256 : Int)), Value.int
 IntKind.u8 (h / (1099511627776 : Int) % (256 : Int)), Value.int IntKind.u8 (h / (4294967296 : Int) % (256 : Int)), Value.int IntKind.u8 (h / (16777216 : Int) % (256 : Int)), Value.int IntKind.u8 (h / (65536 : Int) % (256
 : Int)), Value.int IntKind.u8 (h / (256 : Int) % (256 : Int)), Value.int IntKind.u8 (h % (256 : Int)), Value.int IntKind.u8 (l / (72057594037927936 : Int) % (256 : Int)), Value.int IntKind.u8 (l / (281474976710656 : Int)
 % (256 : Int)), Value.int IntKind.u8 (l / (1099511627776 : Int) % (256 : Int)), Value.int IntKind.u8 (l / (4294967296 : Int) % (256 : Int)), Value.int IntKind.u8 (l / (16777216 : Int) % (256 : Int)), Value.int IntKind.u8
 (l / (65536 : Int) % (256 : Int)), Value.int IntKind.u8 (l / (256 : Int) % (256 : Int)), Value.int IntKind.u8 (l % (256 : Int))], q0, 16 ≤ List.length K0, Fl (List.take 16 K0), RkN (List.take 16 K0) 16 h l, wf64 h, wf64
 l, q1, q1, (!(pvH (strI (txtI h l)) == h && (pvL (strI (txtI h l)) == l && true))) = false, (pvC (strI (txtI h l)) != (0 : Int)) = false, q2, q3, q4, RdN (List.take 16 xs) 16 P Q, q2, q3, q4, RkN (List.take 16 xs) 16 U V,
 BysIs Y P Q, ∀ (k : Nat), Y k = byX P Q k, q0, 16 ≤ 16, Fl [Value.int IntKind.u8 (Y 0), Value.int IntKind.u8 (Y 1), Value.int IntKind.u8 (Y 2), Value.int IntKind.u8 (Y 3), Value.int IntKind.u8 (Y 4), Value.int IntKind.u8
 (Y 5), Value.int IntKind.u8 (Y 6), Value.int IntKind.u8 (Y 7), Value.int IntKind.u8 (Y 8), Value.int IntKind.u8 (Y 9), Value.int IntKind.u8 (Y 10), Value.int IntKind.u8 (Y 11), Value.int IntKind.u8 (Y 12), Value.int
 IntKind.u8 (Y 13), Value.int IntKind.u8 (Y 14), Value.int IntKind.u8 (Y 15)], q2, q3, q4, SamT [Value.int IntKind.u8 (Y 0), Value.int IntKind.u8 (Y 1), Value.int IntKind.u8 (Y 2), Value.int IntKind.u8 (Y 3), Value.int
 IntKind.u8 (Y 4), Value.int IntKind.u8 (Y 5), Value.int IntKind.u8 (Y 6), Value.int IntKind.u8 (Y 7), Value.int IntKind.u8 (Y 8), Value.int IntKind.u8 (Y 9), Value.int IntKind.u8 (Y 10), Value.int IntKind.u8 (Y 11),
 Value.int IntKind.u8 (Y 12), Value.int IntKind.u8 (Y 13), Value.int IntKind.u8 (Y 14), Value.int IntKind.u8 (Y 15)] (List.take 16 xs), K1 = [Value.int IntKind.u8 (U / (72057594037927936 : Int) % (256 : Int)), Value.int
 IntKind.u8 (U / (281474976710656 : Int) % (256 : Int)), Value.int IntKind.u8 (U / (1099511627776 : Int) % (256 : Int)), Value.int IntKind.u8 (U / (4294967296 : Int) % (256 : Int)), Value.int IntKind.u8 (U / (16777216 :
 Int) % (256 : Int)), Value.int IntKind.u8 (U / (65536 : Int) % (256 : Int)), Value.int IntKind.u8 (U / (256 : Int) % (256 : Int)), Value.int IntKind.u8 (U % (256 : Int)), Value.int IntKind.u8 (V / (72057594037927936 :
 Int) % (256 : Int)), Value.int IntKind.u8 (V / (281474976710656 : Int) % (256 : Int)), Value.int IntKind.u8 (V / (1099511627776 : Int) % (256 : Int)), Value.int IntKind.u8 (V / (4294967296 : Int) % (256 : Int)), Value.int
 IntKind.u8 (V / (16777216 : Int) % (256 : Int)), Value.int IntKind.u8 (V / (65536 : Int) % (256 : Int)), Value.int IntKind.u8 (V / (256 : Int) % (256 : Int)), Value.int IntKind.u8 (V % (256 : Int))], q0, 16 ≤ List.length
 K1, Fl (List.take 16 K1), q2, q3, q4, SamT (List.take 16 K1) (List.take 16 xs), (pvC s != (0 : Int)) = false, wf64 (pvH s), wf64 (pvL s), strEq (strI (txtI (pvH s) (pvL s))) s = true]) (16 ≤ 16 ∧ 16 ≤ 9223372036854775807)
 ((!(h == h && (l == l && true))) = false) (16 ≤ c ∧ c ≤ 9223372036854775807) (16 ≤ List.length xs) (Fl (List.take 16 xs)))) := by kernel_rfl
theorem ur_bl (X Y : Nat → Int) (h l P Q U V : Int) (K0 K1 xs : List Value) (s : ByteArray) (n c : Nat) : prjV (runZ (urV X Y h l P Q U V K0 K1) Try.prog 9 10 [.agg ⟨[.int .u64 h, .int .u64 l]⟩, .slice (some ⟨1, 0, none⟩) n c, .string s] [(1, ⟨.old, xs⟩)] 3 [true]) =
  Res.ok (Value.bool true, [], [decide ((↑n : Int) > (1000 : Int)) = true]) := by kernel_rfl
theorem ur_sn (X Y : Nat → Int) (h l P Q U V : Int) (K0 K1  : List Value) (s : ByteArray) : prjV (runZ (urV X Y h l P Q U V K0 K1) Try.prog 9 10 [.agg ⟨[.int .u64 h, .int .u64 l]⟩, .slice none 0 0, .string s] [] 3 [false, true]) =
  Res.ok (Value.bool true, [], [false = false, decide ((↑(List.length (Array.toList (ByteArray.data s))) : Int) > (1000 : Int)) = true]) := by kernel_rfl
theorem ur_so (X Y : Nat → Int) (h l P Q U V : Int) (K0 K1 xs : List Value) (s : ByteArray) (n c : Nat) : prjV (runZ (urV X Y h l P Q U V K0 K1) Try.prog 9 10 [.agg ⟨[.int .u64 h, .int .u64 l]⟩, .slice (some ⟨1, 0, none⟩) n c, .string s] [(1, ⟨.old, xs⟩)] 3 [false, true]) =
  Res.ok (Value.bool true, [], [decide ((↑n : Int) > (1000 : Int)) = false, decide ((↑(List.length (Array.toList (ByteArray.data s))) : Int) > (1000 : Int)) = true]) := by kernel_rfl
end Go.Proofs.Ytpiapipmhlpmjaa
