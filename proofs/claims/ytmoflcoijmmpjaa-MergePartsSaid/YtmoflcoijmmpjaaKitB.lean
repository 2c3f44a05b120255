/-
  The statements' kit on lists of bytes: SameBytes, LentBytes, KeptBytes, OverBytes, told by contracts.
-/
import Derived.Test.YtmoflcoijmmpjaaVmZd
import Derived.Test.YtmoflcoijmmpjaaProg
namespace Go.Proofs.Ytmoflcoijmmpjaa
set_option linter.unusedSimpArgs false
set_option linter.unusedVariables false
set_option linter.unusedSectionVars false
open Go Go.RowKit

/-! ### what the functions answer -/
def bytsA : Av → Option (List Value)
  | .fl (.slice none _ _) => some []
  | .sl xs _ => some xs
  | _ => none
/-- Bytes. -/
def Byts (xs : List Value) : Prop := xs = (intsOf xs).map (Value.int .u8) ∧ ∀ n ∈ intsOf xs, 0 ≤ n ∧ n < 256
def gSame : GSpec := fun av tp => match av with
  | [a, b] => match bytsA a, bytsA b with
    | some xs, some ys => some (⟨fun _ => .bool (decide (intsOf xs = intsOf ys)), []⟩, tp, [Byts xs, Byts ys])
    | _, _ => none
  | _ => none
/-- The marks behind a list that is lent. -/
def mk3 (n : Nat) : List Value := [.int .u8 (((160 + n % 90) % 256 : Nat) : Int), .int .u8 (((160 + (n + 1) % 90) % 256 : Nat) : Int), .int .u8 (((160 + (n + 1 + 1) % 90) % 256 : Nat) : Int)]
def avLen : Av → Nat
  | .sl _ n => n
  | _ => 0
def gLent : GSpec := fun av tp => match av with
  | [a] => match bytsA a with
    | some xs => some (⟨fun nx => .slice (some ⟨nx, 0, none⟩) (avLen a) (avLen a + 3), [⟨.shut, xs ++ mk3 (avLen a)⟩]⟩, tp, [Byts xs, avLen a ≤ 1099511627776])
    | none => none
  | _ => none
/-- A list that is lent, of the form in which it was made, and the list. -/
def gKept : GSpec := fun av tp => match av with
  | [.sc ls l c, b] => match bytsA b with
    | some xs => some (⟨fun _ => .bool (decide (intsOf ls = intsOf (xs ++ mk3 (avLen b)))), []⟩, tp, [Byts ls, Byts xs, l = avLen b, c = avLen b + 3, avLen b ≤ 1099511627776])
    | none => none
  | _ => none
def kSame : Tv := ⟨noTz, noXz, noL, fun _ => [], allSy 29 [], fun _ => [], fun _ => 0⟩
theorem same_ss (xs ys : List Value) (n m ca cb : Nat) : runZ kSame Try.prog 5 29 [.slice (some ⟨0, 0, none⟩) n ca, .slice (some ⟨1, 0, none⟩) m cb] [(0, ⟨.old, xs⟩), (1, ⟨.old, ys⟩)] 2 [] =
  Res.ok ((Value.bool (strEq (strOfI (intsOf (List.take n xs))) (strOfI (intsOf (List.take m ys)))), [(0, Rw.mk Kd.old xs), (1, Rw.mk Kd.old ys)], 2, []), [], [n ≤ List.length xs, List.take n xs = List.map (Value.int
 IntKind.u8) (intsOf (List.take n xs)), m ≤ List.length ys, List.take m ys = List.map (Value.int IntKind.u8) (intsOf (List.take m ys))]) := by kernel_rfl
theorem same_sn (xs : List Value) (n ca : Nat) : runZ kSame Try.prog 5 29 [.slice (some ⟨0, 0, none⟩) n ca, .slice none 0 0] [(0, ⟨.old, xs⟩)] 2 [] =
  Res.ok ((Value.bool (strEq (strOfI (intsOf (List.take n xs))) ByteArray.empty), [(0, Rw.mk Kd.old xs)], 2, []), [], [n ≤ List.length xs, List.take n xs = List.map (Value.int IntKind.u8) (intsOf (List.take n xs))]) := by kernel_rfl
theorem same_ns (ys : List Value) (m cb : Nat) : runZ kSame Try.prog 5 29 [.slice none 0 0, .slice (some ⟨1, 0, none⟩) m cb] [(1, ⟨.old, ys⟩)] 2 [] =
  Res.ok ((Value.bool (strEq ByteArray.empty (strOfI (intsOf (List.take m ys)))), [(1, Rw.mk Kd.old ys)], 2, []), [], [m ≤ List.length ys, List.take m ys = List.map (Value.int IntKind.u8) (intsOf (List.take m ys))]) := by kernel_rfl
theorem same_nn  : runZ kSame Try.prog 5 29 [.slice none 0 0, .slice none 0 0] [] 2 [] =
  Res.ok ((Value.bool true, [], 2, []), [], []) := by kernel_rfl
theorem intsOf_map (k : IntKind) : ∀ l : List Int, intsOf (l.map (Value.int k)) = l
  | [] => rfl
  | x :: l => by simp only [intsOf, List.map_cons, List.map_map]; congr 1; exact (by simpa [intsOf] using intsOf_map k l)
theorem Byts.of {l : List Int} (h : ∀ n ∈ l, 0 ≤ n ∧ n < 256) : Byts (l.map (Value.int .u8)) := by
  unfold Byts; rw [intsOf_map]; exact ⟨rfl, h⟩
theorem strEq_I : ∀ {a b : List Int}, (∀ n ∈ a, 0 ≤ n ∧ n < 256) → (∀ n ∈ b, 0 ≤ n ∧ n < 256) → strEq (strOfI a) (strOfI b) = decide (a = b)
  | [], [], _, _ => by simp [strEq, strOfI]
  | [], y :: b, _, _ => by simp [strEq, strOfI]
  | x :: a, [], _, _ => by simp [strEq, strOfI]
  | x :: a, y :: b, ha, hb => by
      have ih := strEq_I (a := a) (b := b) (fun n h => ha n (by simp [h])) (fun n h => hb n (by simp [h]))
      have hx := ha x (by simp)
      have hy := hb y (by simp)
      have e : (UInt8.ofNat x.toNat == UInt8.ofNat y.toNat) = decide (x = y) := by
        rw [Bool.eq_iff_iff, beq_iff_eq, decide_eq_true_eq, ← UInt8.toNat_inj, UInt8.toNat_ofNat', UInt8.toNat_ofNat']; omega
      simp only [strEq, strOfI, List.map_cons] at ih ⊢
      rw [List.cons_beq_cons, ih, e]
      by_cases h1 : x = y <;> by_cases h2 : a = b <;> simp [h1, h2]
theorem take_all {xs : List Value} {n : Nat} (h : xs.length = n * 1) : xs.take n = xs := List.take_of_length_le (by omega)
theorem mixed : (Try.prog).follows .mixedOrders = true := by kernel_rfl
theorem noXz_ok {V : Tv} (h : V.X = noXz) {P : Program} : XOkZ V P := fun f args hp v ob e => by rw [h] at e; cases e
theorem noTz_okV {V : Tv} (h : V.T = noTz) {P : Program} : TOkZ V P := fun f args hp nx tp out tp' ob e => by rw [h] at e; cases e
theorem noL_okV {V : Tv} (h : V.L = noL) {P : Program} : LOkZ V P := fun fid x ts hp nx tp o tp' ob e => by rw [h] at e; cases e
theorem T_okV {V : Tv} {P : Program} {T : TFun} (h : V.T = T) (hT : TOneZ P T) : TOkZ V P := fun f args hp nx tp out tp' ob e ho => by rw [h] at e; exact hT _ _ _ _ _ _ _ _ e ho
theorem L_okV {V : Tv} {P : Program} {L : LFun} (h : V.L = L) (hL : LOne P L) : LOkZ V P := fun fid x ts hp nx tp o tp' ob e ho => by rw [h] at e; exact hL _ _ _ _ _ _ _ _ _ e ho
/-- A run, told. -/
theorem run_tri {V : Tv} (hX : XOkZ V Try.prog) (hT : TOkZ V Try.prog) (hL : LOkZ V Try.prog) {k : Nat} {f : FuncId} {args : List Value} {h : Hp} {nx : Nat} {tp tp' : Tape} {out : Out} {ob : List Prop} (e : runZ V Try.prog k f args h nx tp = .ok (out, tp', ob)) (ho : Alls ob) (hf : Nat.blt f yBig = true) : Tri Try.prog f args h nx out :=
  (runZ_ok hX hT hL mixed k).fn _ _ _ _ _ _ _ _ e ho (Nat.le_of_ble_eq_true hf)

/-! ### SameBytes -/
theorem same_ok : GOk Try.prog 29 [.s 1, .s 1] gSame := by
  intro av tp gr tp' ob hG ho hP caps hcap
  unfold gSame at hG
  split at hG
  case h_2 => cases hG
  rename_i a b
  obtain ⟨ca, cb, rfl⟩ : ∃ x y, caps = [x, y] := by
    match caps, hcap with
    | [x, y], _ => exact ⟨x, y, rfl⟩
    | [], h => cases a <;> simp [CapsOk] at h
    | [x], h => cases a <;> cases b <;> simp [CapsOk] at h
    | x :: y :: z :: l, h => cases a <;> cases b <;> simp [CapsOk] at h
  have hX : XOkZ kSame Try.prog := noXz_ok rfl
  have hT : TOkZ kSame Try.prog := noTz_okV rfl
  have hL : LOkZ kSame Try.prog := noL_okV rfl
  obtain ⟨pa, pb, _⟩ := hP
  split at hG
  case h_2 => cases hG
  rename_i xs ys ha hb
  simp only [Option.some.injEq, Prod.mk.injEq] at hG
  obtain ⟨rfl, rfl, rfl⟩ := hG
  obtain ⟨bx, by_, _⟩ := ho
  cases a with
  | fl v =>
    simp only [AvP] at pa
    subst pa
    simp only [bytsA, Option.some.injEq] at ha
    subst ha
    cases b with
    | fl u =>
      simp only [AvP] at pb
      subst pb
      simp only [bytsA, Option.some.injEq] at hb
      subst hb
      exact ⟨_, _, _, _, _, run_tri hX hT hL same_nn trivial rfl, GrIs.flat fun σ => rfl⟩
    | sl zs m =>
      simp only [bytsA, Option.some.injEq] at hb
      subst hb
      have hz := take_all pb.2
      refine ⟨_, _, _, _, fun n => n, run_tri hX hT hL (same_ns zs m cb) (by simp only [hz]; exact ⟨by have := pb.2; omega, by_.1, trivial⟩) rfl, ?_⟩
      rw [hz, show ByteArray.empty = strOfI [] from rfl, strEq_I (by simp) by_.2]
      exact GrIs.flat fun σ => rfl
    | ag p zs m => simp [AvP] at pb
    | sc zs l m => simp [AvP] at pb
  | sl us n =>
    simp only [bytsA, Option.some.injEq] at ha
    subst ha
    have hu := take_all pa.2
    cases b with
    | fl u =>
      simp only [AvP] at pb
      subst pb
      simp only [bytsA, Option.some.injEq] at hb
      subst hb
      refine ⟨_, _, _, _, fun n => n, run_tri hX hT hL (same_sn us n ca) (by simp only [hu]; exact ⟨by have := pa.2; omega, bx.1, trivial⟩) rfl, ?_⟩
      rw [hu, show ByteArray.empty = strOfI [] from rfl, strEq_I bx.2 (by simp)]
      exact GrIs.flat fun σ => rfl
    | sl zs m =>
      simp only [bytsA, Option.some.injEq] at hb
      subst hb
      have hz := take_all pb.2
      refine ⟨_, _, _, _, fun n => n, run_tri hX hT hL (same_ss us zs n m ca cb) (by simp only [hu, hz]; exact ⟨by have := pa.2; omega, bx.1, by have := pb.2; omega, by_.1, trivial⟩) rfl, ?_⟩
      rw [hu, hz, strEq_I bx.2 by_.2]
      exact GrIs.flat fun σ => rfl
    | ag p zs m => simp [AvP] at pb
    | sc zs l m => simp [AvP] at pb
  | ag p zs m => simp [AvP] at pa
  | sc zs l m => simp [AvP] at pa

/-! ### LentBytes -/
theorem splice_at {a b c : List Value} {n : Nat} (hn : a.length = n) (h : c.length ≤ b.length) : splice (a ++ b) n c = a ++ c ++ b.drop c.length := by
  subst hn; exact splice_mid c a b h
theorem zrep1 (z : Value) (n : Nat) : zrep [z] n = List.replicate n z := rfl
theorem all1_byts {xs : List Value} (h : Byts xs) : all1 xs = true := by
  have : ∀ l : List Int, all1 (l.map (Value.int .u8)) = true := fun l => by
    induction l with
    | nil => rfl
    | cons x l ih => simpa [all1, one1] using ih
  rw [h.1]; exact this _
theorem fl_byts {xs : List Value} (h : Byts xs) : Fl xs := by rw [h.1]; exact Fl.ints _ _
theorem Byts.app {a b : List Value} (ha : Byts a) (hb : Byts b) : Byts (a ++ b) := by
  have e : intsOf (a ++ b) = intsOf a ++ intsOf b := by simp [intsOf]
  refine ⟨by rw [e, List.map_append, ← ha.1, ← hb.1], fun n hn => ?_⟩
  rw [e, List.mem_append] at hn
  exact hn.elim (ha.2 n) (hb.2 n)
theorem Byts.nil : Byts [] := ⟨rfl, fun n h => by cases h⟩
theorem mk3_byts (n : Nat) : Byts (mk3 n) := by
  refine Byts.of (l := [_, _, _]) fun x hx => ?_
  simp only [List.mem_cons, List.not_mem_nil, or_false] at hx
  rcases hx with rfl | rfl | rfl <;> omega
theorem lent_cs {xs : List Value} {n : Nat} (h : xs.length = n) (a b c : Value) :
    splice (splice (splice (splice (zrep [Value.int .u8 0] (n + 3)) 0 xs) n [a]) (n + 1) [b]) (n + 1 + 1) [c] = xs ++ [a, b, c] := by
  rw [zrep1, splice_head _ _ (by simp; omega), List.drop_replicate, h, show n + 3 - n = 3 by omega]
  rw [splice_at h (by simp)]
  simp only [List.length_singleton, List.drop_replicate]
  rw [splice_at (by simp [h]) (by simp)]
  simp only [List.length_singleton, List.drop_replicate]
  rw [splice_at (by simp [h]) (by simp)]
  simp
/-! ### KeptBytes -/
end Go.Proofs.Ytmoflcoijmmpjaa
