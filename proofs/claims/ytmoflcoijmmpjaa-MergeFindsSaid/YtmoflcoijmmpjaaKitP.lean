/-
  Runs whose new rows are forgotten, but for those that may be wanted.
-/
import Derived.Test.YtmoflcoijmmpjaaVmZd
namespace Go.Proofs.Ytmoflcoijmmpjaa
set_option linter.unusedSimpArgs false
set_option linter.unusedVariables false
set_option linter.unusedSectionVars false
open Go Go.RowKit

def drN (nx : Nat) : Hp → List Nat
  | [] => []
  | (n, r) :: h => bif Nat.blt n nx then drN nx h else (match r.kd with
    | .shut => n :: drN nx h
    | .old => n :: drN nx h
    | .of => n :: drN nx h
    | .lent => n :: drN nx h
    | _ => drN nx h)
def delAll : List Nat → Hp → Hp
  | [], h => h
  | n :: ns, h => delAll ns (delH h n)
theorem drN_ge {nx : Nat} : ∀ {h : Hp} {n : Nat}, n ∈ drN nx h → nx ≤ n
  | [], n, hn => by cases hn
  | (m, r) :: h, n, hn => by
      simp only [drN] at hn
      cases hb : Nat.blt m nx with
      | true => rw [hb] at hn; exact drN_ge hn
      | false =>
        rw [hb] at hn
        simp only [cond_false] at hn
        have hm : nx ≤ m := by
          rcases Nat.lt_or_ge m nx with h0 | h0
          · have e : Nat.blt m nx = true := Nat.ble_eq_true_of_le h0
            rw [e] at hb; cases hb
          · exact h0
        split at hn
        all_goals first
          | exact drN_ge hn
          | (rcases List.mem_cons.1 hn with rfl | hn
             · exact hm
             · exact drN_ge hn)
theorem lk_delAll : ∀ {ns : List Nat} {h : Hp} {m : Nat} {r : Rw}, lk (delAll ns h) m = some r → lk h m = some r
  | [], h, m, r, e => e
  | n :: ns, h, m, r, e => by
      have := lk_delAll (ns := ns) e
      rw [lk_delH] at this
      split at this
      · cases this
      · exact this
theorem lk_delAll_out : ∀ {ns : List Nat} {h : Hp} {m : Nat}, (∀ n, n ∈ ns → n ≠ m) → lk (delAll ns h) m = lk h m
  | [], h, m, _ => rfl
  | n :: ns, h, m, hn => by
      simp only [delAll]
      rw [lk_delAll_out fun k hk => hn k (List.mem_cons_of_mem _ hk), lk_delH, if_neg (hn n (List.mem_cons_self ..))]
def prjP (ks : List Nat) (nx0 : Nat) (r : Res (St5 × Tape × List Prop)) : Res (PSt × Tape × List Prop) := match prjZ ks r with
  | .ok ((x, n, l, h, nx, d, ms), tp, ob) => .ok ((x, n, l, delAll (drN nx0 h) h, nx, d, ms), tp, ob)
  | .ask b => .ask b
  | .no => .no
theorem code_runsP {V : Tv} {P : Program} {call : CallZ} (hX : XOkZ V P) (hL : LOkZ V P) (hC : COkZ P call) (hm : P.follows .mixedOrders = true) {fid : FuncId} {inr : Bool} {ks : List Nat} {c : Code} {ts : Tm} {h : Hp} {nx : Nat} {tp tp' : Tape} {o : PSt} {ob : List Prop}
    (hr : prjP ks nx (codeZ V P call fid inr 100000 c ts h nx tp) = .ok (o, tp', ob)) (ho : Alls ob) : RunsL inr (fun F m Q => c.wpIn F m P Q) ts h nx o := by
  unfold prjP at hr
  split at hr
  · rename_i x n l h1 nx1 d ms tp1 ob1 hc
    simp only [Res.ok.injEq, Prod.mk.injEq] at hr
    obtain ⟨rfl, rfl, rfl⟩ := hr
    have A := code_runs hX hL hC hm hc ho
    refine ⟨⟨A.1.1, fun m hm hd => ?_, fun hB m hm => ?_⟩, fun hB W σ w a hR hf ht ds hd F m hF hr Q hQ => A.2 hB W σ w a hR hf ht ds hd F m hF hr Q fun σ' w' a' es b1 b2 b3 b4 => hQ σ' w' a' es (b1.less fun m r e => lk_delAll e) b2 b3 b4⟩
    · exact (lk_delAll_out fun k hk e => by have := drN_ge hk; omega).trans (A.1.2.1 m hm hd)
    · cases e : lk (delAll (drN nx h1) h1) m with
      | none => rfl
      | some r => have := lk_delAll e; rw [A.1.2.2 hB m hm] at this; cases this
  · cases hr
  · cases hr
end Go.Proofs.Ytmoflcoijmmpjaa
