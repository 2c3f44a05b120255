/-
  The machine that runs in the kernel, part V: how it is used. Externs of math/bits; a closed run.
-/
import Derived.Test.YtmoflcoijmmpjaaVmU
import Derived.Laws.Externs
import Derived.Laws.Bits64
namespace Go.Proofs.Ytmoflcoijmmpjaa
set_option linter.unusedSimpArgs false
set_option linter.unusedVariables false
set_option linter.unusedSectionVars false
open Go Go.RowKit

def noX : FuncId → List Value → Hp → Option Value := fun _ _ _ => none
def noT : FuncId → List Value → Hp → Nat → Option Out := fun _ _ _ _ => none
theorem noX_ok {P : Program} {T : FuncId → List Value → Hp → Nat → Option Out} : XOk ⟨P, noX, T⟩ := fun f args hp v h => by cases h
theorem noT_ok {P : Program} {X : FuncId → List Value → Hp → Option Value} : TOk ⟨P, X, noT⟩ := fun f args h nx out e => by cases e

/-- Only new memory: names stand for what they stood for. -/
theorem Stp.ext {W : World} {σ : Sg} {h : Hp} {w w' : World} (hR : Rl W σ h w) (hx : Ext w w') (lo : Nat) : Stp W lo lo σ h w σ h w' :=
  Stp0.up ⟨Sg.le.refl σ, fun _ _ => ⟨rfl, rfl⟩, ⟨hR.ext.trans hx, fun n r hl => hR.keepA hl (Sg.le.refl _) fun b hb => Below.block hx b hb, hR.inj⟩, hx.size, fun b hb _ => Below.block hx b hb, fun n r p hl ho hb => .inr ⟨n, r, p, hl, ho, hb, rfl⟩⟩ hR.shr (hR.shr.sub fun n r hl => ⟨r, hl, fun h => h⟩)
/-- A call that is known to hand back a value without an address, and to leave older memory as it was. -/
theorem tri_quiet {P : Program} {f : FuncId} {args : List Value} {h : Hp} {nx : Nat} {v : Value} (ha : ∀ σ args', renL σ args = some args' → args' = args) (hv : ∀ σ, renV σ v = some v) (hC : ∀ w, Calls P f args.toArray w fun e w' => e = .returned v ∧ Ext w w') : Tri P f args h nx (v, h, nx, []) := by
  refine ⟨Tidy.refl _ _, fun _ W σ w args' hR _ hr => ?_⟩
  obtain rfl := ha σ args' hr
  exact (hC w).mono fun e w' ⟨he, hx⟩ => ⟨σ, v, Stp.ext hR hx nx, hv σ, he⟩
def add64V (f0 : FuncId) (f : FuncId) (args : List Value) (_ : Hp) : Option Value :=
  bif Nat.beq f f0 then (match args with
  | [.int .u64 x, .int .u64 y, .int .u64 c] => bif decide (0 ≤ x ∧ 0 ≤ y ∧ 0 ≤ c ∧ c ≤ 1) then some (.tuple #[.int .u64 ((x + y + c) % 18446744073709551616), .int .u64 ((x + y + c) / 18446744073709551616)]) else none
  | _ => none) else none
def sub64Entry : Array Value → Sem Value := fun args => do
  let (x, y, b) ← Extern.MathBitsCarry.three "Sub64" args
  pure (Extern.MathBitsCarry.pair ((x + Extern.MathBitsCarry.m64 - y - b) % Extern.MathBitsCarry.m64) (if x < y + b then 1 else 0))
theorem run_sub64 {P : Program} (x y c : Int) (hx : 0 ≤ x) (hy : 0 ≤ y) (hy2 : y < 18446744073709551616) (hc0 : 0 ≤ c) (hc : c ≤ 1) (w : World) :
    (sub64Entry #[.int .u64 x, .int .u64 y, .int .u64 c]).run P w =
      .ok (.tuple #[.int .u64 ((x - y - c) % 18446744073709551616), .int .u64 (if x < y + c then 1 else 0)]) w := by
  have key : ∀ k : Nat, k ≤ 1 → (sub64Entry #[.int .u64 x, .int .u64 y, .int .u64 (k : Int)]).run P w =
      .ok (Extern.MathBitsCarry.pair ((x.toNat + Extern.MathBitsCarry.m64 - y.toNat - k) % Extern.MathBitsCarry.m64) (if x.toNat < y.toNat + k then 1 else 0)) w := by
    intro k hk
    have : k = 0 ∨ k = 1 := by omega
    rcases this with rfl | rfl <;> rfl
  obtain ⟨k, rfl⟩ := Int.eq_ofNat_of_zero_le hc0
  rw [key k (by omega)]
  obtain ⟨X, rfl⟩ := Int.eq_ofNat_of_zero_le hx
  obtain ⟨Y, rfl⟩ := Int.eq_ofNat_of_zero_le hy
  have h1 : (Int.ofNat ((X + 18446744073709551616 - Y - k) % 18446744073709551616)) = ((X : Int) - Y - k) % 18446744073709551616 := by
    rw [Int.ofNat_eq_natCast]; omega
  have h2 : (Int.ofNat (if X < Y + k then 1 else 0)) = if (X : Int) < Y + k then 1 else 0 := by
    by_cases h : X < Y + k
    · rw [if_pos h, if_pos (by omega)]; rfl
    · rw [if_neg h, if_neg (by omega)]; rfl
  simp only [Extern.MathBitsCarry.pair, Extern.MathBitsCarry.m64, Int.toNat_natCast]
  have h3 : (2 ^ 64 : Nat) = 18446744073709551616 := by decide
  rw [h3, h1, h2]
def sub64V (f0 : FuncId) (f : FuncId) (args : List Value) (_ : Hp) : Option Value :=
  bif Nat.beq f f0 then (match args with
  | [.int .u64 x, .int .u64 y, .int .u64 c] => bif decide (0 ≤ x ∧ 0 ≤ y ∧ y < 18446744073709551616 ∧ 0 ≤ c ∧ c ≤ 1) then some (.tuple #[.int .u64 ((x - y - c) % 18446744073709551616), .int .u64 (if x < y + c then 1 else 0)]) else none
  | _ => none) else none
/-- What is said of a function of other make. -/
def XOne (P : Program) (g : FuncId → List Value → Hp → Option Value) : Prop := ∀ f args h v, g f args h = some v → ∀ W σ w args', Rl W σ h w → renL σ args = some args' → renV σ v = some v ∧ (callFunc f args'.toArray).run P w = .ok (.value v) w
theorem add64_one {P : Program} {f0 : FuncId} (hrun : ∀ x y c w, (callFunc f0 #[.int .u64 x, .int .u64 y, .int .u64 c]).run P w = ((add64Entry #[.int .u64 x, .int .u64 y, .int .u64 c]).run P w).andThen fun v w' => .ok (.value v) w') : XOne P (add64V f0) := by
  intro f args hp v h W σ w args' hR ha
  simp only [add64V] at h
  obtain ⟨hf, h1⟩ := bif_of h
  clear h
  obtain rfl := Nat.eq_of_beq_eq_true hf
  split at h1
  · rename_i x y c
    by_cases hb : 0 ≤ x ∧ 0 ≤ y ∧ 0 ≤ c ∧ c ≤ 1
    · simp only [hb, and_self, decide_true, cond_true, Option.some.injEq] at h1
      subst h1
      simp only [renL, renV, Option.some.injEq] at ha
      subst ha
      refine ⟨rfl, ?_⟩
      rw [hrun, run_add64 x y c hb.1 hb.2.1 hb.2.2.1 hb.2.2.2 w]; rfl
    · simp only [hb, decide_false, cond_false] at h1; cases h1
  · cases h1
theorem sub64_one {P : Program} {f0 : FuncId} (hrun : ∀ x y c w, (callFunc f0 #[.int .u64 x, .int .u64 y, .int .u64 c]).run P w = ((sub64Entry #[.int .u64 x, .int .u64 y, .int .u64 c]).run P w).andThen fun v w' => .ok (.value v) w') : XOne P (sub64V f0) := by
  intro f args hp v h W σ w args' hR ha
  simp only [sub64V] at h
  obtain ⟨hf, h1⟩ := bif_of h
  clear h
  obtain rfl := Nat.eq_of_beq_eq_true hf
  split at h1
  · rename_i x y c
    by_cases hb : 0 ≤ x ∧ 0 ≤ y ∧ y < 18446744073709551616 ∧ 0 ≤ c ∧ c ≤ 1
    · simp only [hb, and_self, decide_true, cond_true, Option.some.injEq] at h1
      subst h1
      simp only [renL, renV, Option.some.injEq] at ha
      subst ha
      refine ⟨rfl, ?_⟩
      rw [hrun, run_sub64 x y c hb.1 hb.2.1 hb.2.2.1 hb.2.2.2.1 hb.2.2.2.2 w]; rfl
    · simp only [hb, decide_false, cond_false] at h1; cases h1
  · cases h1
/-- One behind the other. -/
def orX (g k : FuncId → List Value → Hp → Option Value) : FuncId → List Value → Hp → Option Value := fun f args h => match g f args h with | some v => some v | none => k f args h
theorem orX_one {P : Program} {g k : FuncId → List Value → Hp → Option Value} (hg : XOne P g) (hk : XOne P k) : XOne P (orX g k) := by
  intro f args hp v h
  unfold orX at h
  split at h
  · rename_i u hu; cases h; exact hg f args hp v hu
  · exact hk f args hp v h
/-- What no name is in. -/
def sg0 : Sg := ⟨fun _ => none, fun _ => none, fun _ => none, fun _ => none⟩
theorem rl0 (W : World) : Rl W sg0 [] W := ⟨⟨Ext.refl W, fun n r e => by simp [lk] at e, fun n m r s p q e => by simp [lk] at e⟩, fun n r e => by simp [lk] at e, fun n r k e => by simp [lk] at e⟩
/-- The value that a run hands back. -/
def valF (E : Env) (k : Nat) (f : FuncId) (args : List Value) : Option Value := bif Nat.ble yBig f then none else match runF E k f args [] 0 with | some (v, _) => some v | none => none
theorem closed {E : Env} (hX : XOk E) (hT : TOk E) (hm : E.P.follows .mixedOrders = true) (k : Nat) (f : FuncId) (args : List Value) (v : Value) (ha : renL sg0 args = some args) (h : valF E k f args = some v) (hv : ∀ σ, renV σ v = some v) (W : World) :
    Calls E.P f args.toArray W fun e w' => e = .returned v ∧ Ext W w' := by
  unfold valF at h
  rcases bif_or h with ⟨_, h⟩ | ⟨hb, h⟩
  · cases h
  have hlt : f < yBig := by
    rcases Nat.lt_or_ge f yBig with h1 | h1
    · exact h1
    · rw [Nat.ble_eq_true_of_le h1] at hb; cases hb
  split at h
  · rename_i v' r hr
    cases h
    obtain ⟨h', nx', d⟩ := r
    have T := (runF_ok hX hT hm k).fn f args [] 0 _ hr hlt
    refine (T.2 (fun n _ => rfl) W sg0 W args (rl0 W) (fun n _ _ => ⟨rfl, rfl⟩) ha).mono fun e w' ⟨σ', u, S, hu, he⟩ => ?_
    rw [hv σ'] at hu
    cases hu
    exact ⟨he, S.rl.ext⟩
  · cases h
end Go.Proofs.Ytmoflcoijmmpjaa
