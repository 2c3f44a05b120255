/-
  The statements' kit on lists of bytes: SameBytes, LentBytes, KeptBytes, OverBytes, told by contracts.
-/
import Derived.Test.YtmoflcoijmmpjaaVmZd
import Derived.Test.YtmoflcoijmmpjaaProg
namespace Go.Proofs.Ytmoflcoijmmpjaa
set_option linter.unusedSimpArgs false
set_option linter.unusedVariables false
set_option linter.unusedSectionVars false
open Go Go.RowKit

def Byts (xs : List Value) : Prop := xs = (intsOf xs).map (Value.int .u8) ∧ ∀ n ∈ intsOf xs, 0 ≤ n ∧ n < 256
theorem intsOf_map (k : IntKind) : ∀ l : List Int, intsOf (l.map (Value.int k)) = l
  | [] => rfl
  | x :: l => by simp only [intsOf, List.map_cons, List.map_map]; congr 1; exact (by simpa [intsOf] using intsOf_map k l)
theorem Byts.of {l : List Int} (h : ∀ n ∈ l, 0 ≤ n ∧ n < 256) : Byts (l.map (Value.int .u8)) := by
  unfold Byts; rw [intsOf_map]; exact ⟨rfl, h⟩
theorem strEq_I : ∀ {a b : List Int}, (∀ n ∈ a, 0 ≤ n ∧ n < 256) → (∀ n ∈ b, 0 ≤ n ∧ n < 256) → strEq (strOfI a) (strOfI b) = decide (a = b)
  | [], [], _, _ => by simp [strEq, strOfI]
  | [], y :: b, _, _ => by simp [strEq, strOfI]
  | x :: a, [], _, _ => by simp [strEq, strOfI]
  | x :: a, y :: b, ha, hb => by
      have ih := strEq_I (a := a) (b := b) (fun n h => ha n (by simp [h])) (fun n h => hb n (by simp [h]))
      have hx := ha x (by simp)
      have hy := hb y (by simp)
      have e : (UInt8.ofNat x.toNat == UInt8.ofNat y.toNat) = decide (x = y) := by
        rw [Bool.eq_iff_iff, beq_iff_eq, decide_eq_true_eq, ← UInt8.toNat_inj, UInt8.toNat_ofNat', UInt8.toNat_ofNat']; omega
      simp only [strEq, strOfI, List.map_cons] at ih ⊢
      rw [List.cons_beq_cons, ih, e]
      by_cases h1 : x = y <;> by_cases h2 : a = b <;> simp [h1, h2]
theorem mixed : (Try.prog).follows .mixedOrders = true := by kernel_rfl
theorem noTz_okV {V : Tv} (h : V.T = noTz) {P : Program} : TOkZ V P := fun f args hp nx tp out tp' ob e => by rw [h] at e; cases e
theorem noL_okV {V : Tv} (h : V.L = noL) {P : Program} : LOkZ V P := fun fid x ts hp nx tp o tp' ob e => by rw [h] at e; cases e
theorem T_okV {V : Tv} {P : Program} {T : TFun} (h : V.T = T) (hT : TOneZ P T) : TOkZ V P := fun f args hp nx tp out tp' ob e ho => by rw [h] at e; exact hT _ _ _ _ _ _ _ _ e ho
theorem L_okV {V : Tv} {P : Program} {L : LFun} (h : V.L = L) (hL : LOne P L) : LOkZ V P := fun fid x ts hp nx tp o tp' ob e ho => by rw [h] at e; exact hL _ _ _ _ _ _ _ _ _ e ho
theorem run_tri {V : Tv} (hX : XOkZ V Try.prog) (hT : TOkZ V Try.prog) (hL : LOkZ V Try.prog) {k : Nat} {f : FuncId} {args : List Value} {h : Hp} {nx : Nat} {tp tp' : Tape} {out : Out} {ob : List Prop} (e : runZ V Try.prog k f args h nx tp = .ok (out, tp', ob)) (ho : Alls ob) (hf : Nat.blt f yBig = true) : Tri Try.prog f args h nx out :=
  (runZ_ok hX hT hL mixed k).fn _ _ _ _ _ _ _ _ e ho (Nat.le_of_ble_eq_true hf)

theorem Byts.app {a b : List Value} (ha : Byts a) (hb : Byts b) : Byts (a ++ b) := by
  have e : intsOf (a ++ b) = intsOf a ++ intsOf b := by simp [intsOf]
  refine ⟨by rw [e, List.map_append, ← ha.1, ← hb.1], fun n hn => ?_⟩
  rw [e, List.mem_append] at hn
  exact hn.elim (ha.2 n) (hb.2 n)
theorem Byts.nil : Byts [] := ⟨rfl, fun n h => by cases h⟩
end Go.Proofs.Ytmoflcoijmmpjaa
