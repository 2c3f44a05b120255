/-
  The machine that runs in the kernel, part Ka: rows that are no cells; maps; further cuts and appends of grown slices; clear.
-/
import Derived.Test.YtojakfnljopjbaaGrAE
import Derived.LoopNIn
import Derived.MapKept
import Derived.Lib.AppendZerosOnto
import Derived.Orders
namespace Go.Proofs.Ytojakfnljopjbaa
set_option linter.unusedSimpArgs false
set_option linter.unusedVariables false
set_option linter.unusedSectionVars false
open Go Go.RowKit

section
variable {W : World} {lo hi : Nat} {σ τ : Sg} {h h1 : Hp} {w w1 : World}
theorem Stp.allocO (hR : Rl W σ h w) {nx : Nat} (hf : Fresh σ nx (nx + 1)) (o : Obj) (kd : Kd) (hk : KdOk W (σ.bind nx (w.heap.size, 0)) (w.alloc o) nx w.heap.size 0 [] kd) :
  Stp W nx (nx + 1) σ h w (σ.bind nx (w.heap.size, 0)) ((nx, ⟨kd, []⟩) :: h) (w.alloc o) := by
 have hle : σ.le (σ.bind nx (w.heap.size, 0)) := Sg.le_bind (hf nx (Nat.le_refl _) (by omega)).1
 have hblk : ∀ b, b < w.heap.size → (w.alloc o).heap[b]? = w.heap[b]? := fun b hb => Below.block ((Ext.refl w).alloc _) b hb
 refine Stp0.up ⟨hle, fun n hn => ?_, ⟨hR.ext.alloc _, fun n r hl => ?_, fun n m r s p q hn hm hr hs hp hq e => ?_⟩, by simp, fun b hb _ _ => hblk b hb, fun n r p hl ho hb => ?_⟩ hR.shr hR.wf (bind_shr hR.shr)
 ·simp only [Sg.bind, and_true]; rw [if_neg (by omega)]
 ·rw [B3] at hl
  split at hl
  ·rename_i e; subst e
   cases hl
   exact ⟨w.heap.size, 0, [], by simp [Sg.bind], rfl, hk⟩
  ·exact hR.keepA hl hle hblk
 ·rw [B3] at hn hm
  simp only [Sg.bind] at hp hq
  split at hn
  ·rename_i e1; subst e1
   split at hm
   ·assumption
   ·rename_i e2
    rw [if_neg (Ne.symm e2)] at hq
    rw [if_pos rfl] at hp
    have := hR.lt hm hs hq
    simp only [oI] at hp
    subst hp
    simp at e; omega
  ·rename_i e1
   rw [if_neg (Ne.symm e1)] at hp
   split at hm
   ·rename_i e2; subst e2
    rw [if_pos rfl] at hq
    have := hR.lt hn hr hp
    simp only [oI] at hq
    subst hq
    simp at e; omega
   ·rename_i e2
    rw [if_neg (Ne.symm e2)] at hq
    exact hR.inj n m r s p q hn hm hr hs hp hq e
 ·rw [B3] at hl
  simp only [Sg.bind] at hb
  split at hl
  ·rename_i e; subst e; rw [if_pos rfl] at hb; simp only [oI] at hb; subst hb; exact .inl (Nat.le_refl _)
  ·rename_i e; rw [if_neg (Ne.symm e)] at hb; exact .inr ⟨n, r, p, hl, ho, hb, rfl⟩
theorem Rl.others (hR : Rl W σ h w) {n : Nat} {r : Rw} (hl : lk h n = some r) (ho : r.own) {p : Nat × Nat} (hb : σ.b n = some p) (o : Obj) {m : Nat} {s : Rw} (hm : lk h m = some s) (hne : m ≠ n) : RowOk W σ (w.putObj p.1 o) m s :=
 hR.keepW hl ho hb hm hne (Sg.le.refl σ) fun b hb' => World.putObj_heap_other hb'
theorem Ext.putObj (hx : Ext W w) {b : Nat} (hb : W.heap.size ≤ b) (o : Obj) : Ext W (w.putObj b o) :=
 Ext.grown hx (grownBy_putObj' w b o) fun r e => by cases e; exact hb
theorem Stp.wipe (hR : Rl W σ h w) {n : Nat} {r : Rw} (hl : lk h n = some r) (ho : r.own) {p : Nat × Nat} (hb : σ.b n = some p) (o : Obj) (lo : Nat) : Stp W lo lo σ h w σ (delH h n) (w.putObj p.1 o) := by
 have hd : ∀ m s, lk (delH h n) m = some s → lk h m = some s ∧ m ≠ n := fun m s e => by
  rw [Bf] at e
  split at e
  ·cases e
  ·rename_i hne; exact ⟨e, Ne.symm hne⟩
 exact Stp0.up ⟨Sg.le.refl σ, fun _ _ => ⟨rfl, rfl⟩, ⟨Ext.putObj hR.ext (hR.ge hl ho hb).1 o, fun m s e => hR.others hl ho hb o (hd m s e).1 (hd m s e).2, fun m k s t p q a b => hR.inj m k s t p q (hd _ _ a).1 (hd _ _ b).1⟩,
  by simp, fun b hb' hno _ => World.putObj_heap_other fun e => hno n r p hl ho hb e.symm, fun m s q e hs hq => .inr ⟨m, s, q, (hd _ _ e).1, hs, hq, rfl⟩⟩ hR.shr hR.wf (hR.shr.sub fun m s e => ⟨s, (hd _ _ e).1, fun h => h⟩)
theorem Stp.turn (hR : Rl W σ h w) {n : Nat} {r : Rw} (hl : lk h n = some r) (ho : r.own) {p : Nat × Nat} (hb : σ.b n = some p) (o : Obj) (kd : Kd) (hkd : ¬ ShKd kd) (hk : KdOk W σ (w.putObj p.1 o) n p.1 p.2 [] kd) (lo : Nat) :
  Stp W lo lo σ h w σ (setH h n ⟨kd, []⟩) (w.putObj p.1 o) := by
 have hd : ∀ m s, lk (setH h n ⟨kd, []⟩) m = some s → (m = n ∧ s = ⟨kd, []⟩) ∨ (lk h m = some s ∧ m ≠ n) := fun m s e => by
  rw [Bo] at e
  split at e
  ·rename_i hm; cases e; exact .inl ⟨hm.symm, rfl⟩
  ·rename_i hne; exact .inr ⟨e, Ne.symm hne⟩
 have conv : ∀ m s, lk (setH h n ⟨kd, []⟩) m = some s → s.own → ∃ s', lk h m = some s' ∧ s'.own := fun m s e hs => by
  rcases hd m s e with ⟨rfl, _⟩ | ⟨e, _⟩
  ·exact ⟨r, hl, ho⟩
  ·exact ⟨s, e, hs⟩
 refine Stp0.up ⟨Sg.le.refl σ, fun _ _ => ⟨rfl, rfl⟩, ⟨Ext.putObj hR.ext (hR.ge hl ho hb).1 o, fun m s e => ?_, fun m k s t p q a b hs ht c d e => ?_⟩,
  by simp, fun b hb' hno _ => World.putObj_heap_other fun e => hno n r p hl ho hb e.symm, fun m s q e hs hq => ?_⟩ hR.shr hR.wf (J0 hR.shr hl ho)
 ·rcases hd m s e with ⟨rfl, rfl⟩ | ⟨e, hne⟩
  ·exact ⟨p.1, p.2, [], hb, rfl, hk⟩
  ·exact hR.others hl ho hb o e hne
 ·obtain ⟨s', a', hs'⟩ := conv m s a hs
  obtain ⟨t', b', ht'⟩ := conv k t b ht
  exact hR.inj m k s' t' p q a' b' hs' ht' c d e
 ·obtain ⟨s', a', hs'⟩ := conv m s e hs
  exact .inr ⟨m, s', q, a', hs', hq, rfl⟩
end

section
variable {P : Program} {w : World}
end
section
variable {P : Program} {W : World} {σ : Sg} {h : Hp} {w : World}
end
def Bd (h : Hp) (nx : Nat) : Prop := ∀ n, nx ≤ n → lk h n = none
abbrev Out := Value × Hp × Nat × List Nat
def appN (P : Program) (h : Hp) (nx : Nat) (t tx : TypeId) (s x : Value) : Option Out :=
 match P.underlying t, P.underlying tx, s, x with
 | some (.slice e), some (.int _), .slice (some ⟨m, o, none⟩) len cap, .int _ k => match P.info? e with
  | some i => match i.zero, Ej h m o (len * i.size) with
   | some z, some olds => bif D5 z.cells.toList && decide (0 < k) && Nat.beq z.cells.toList.length i.size && Nat.ble 1 i.size && Nat.blt cap B0 && Nat.blt cap (len + k.toNat) && Nat.ble ((len + k.toNat) * i.bytes) 140737488355328 && Nat.ble (len + k.toNat) 9223372036854775807 then
     some (.slice (some ⟨nx, 0, none⟩) (len + k.toNat) (B0 + nx), (nx, ⟨.room i.size z.cells.toList, olds ++ zrep z.cells.toList (k.toNat * i.size)⟩) :: h, nx + 1, []) else none
   | _, _ => none
  | none => none
 | _, _, _, _ => none
theorem zeroCells_rep {z : Array Value} (h0 : 0 < z.size) (n : Nat) : (Builtin.zeroCells z n).toList = zrep z.toList (n * z.size) := L7 h0 (n * z.size)
theorem appN_ok {P : Program} {W : World} {σ : Sg} {h : Hp} {w : World} (hR : Rl W σ h w) {nx nx' : Nat} {t tx ty : TypeId} {s x s' x' v : Value} {h' : Hp} {dd : List Nat} (hc : appN P h nx t tx s x = some (v, h', nx', dd)) (hf : Fresh σ nx nx') (hs : renV σ s = some s') (hx : renV σ x = some x') :
  ∃ σ' w' v', Stp W nx nx' σ h w σ' h' w' ∧ renV σ' v = some v' ∧ (Builtin.append_ #[t, tx] ty #[s', x']).run P w = .ok v' w' := by
 unfold appN at hc
 split at hc
 case h_2 => cases hc
 rename_i e kn m o len cap kq k ht htn
 split at hc
 case h_2 => cases hc
 rename_i i hi
 split at hc
 case h_2 => cases hc
 rename_i z olds hz hcells
 cases hg : (D5 z.cells.toList && decide (0 < k) && Nat.beq z.cells.toList.length i.size && Nat.ble 1 i.size && Nat.blt cap B0 && Nat.blt cap (len + k.toNat) && Nat.ble ((len + k.toNat) * i.bytes) 140737488355328 && Nat.ble (len + k.toNat) 9223372036854775807) with
 | false => rw [hg] at hc; cases hc
 | true =>
  rw [hg] at hc
  simp only [cond_true, oI, pI] at hc
  obtain ⟨rfl, rfl, rfl, rfl⟩ := hc
  simp only [Bool.and_eq_true, decide_eq_true_eq, Nat.ble_eq] at hg
  obtain ⟨⟨⟨⟨⟨⟨⟨g0, g1⟩, g2⟩, g3⟩, g4⟩, g5⟩, g6⟩, g7⟩ := hg
  have hzs : z.cells.size = i.size := by have := Nat.eq_of_beq_eq_true g2; simpa using this
  have g4' : cap < B0 := Nat.le_of_ble_eq_true g4
  have g5' : cap < len + k.toNat := Nat.le_of_ble_eq_true g5
  obtain ⟨q, rfl⟩ := Int.eq_ofNat_of_zero_le (Int.le_of_lt g1)
  simp only [Int.toNat_natCast] at g5' g6 g7 ⊢
  simp only [renV, oI] at hx
  subst hx
  have hbase : ∃ base, s' = .slice base len cap ∧ ∃ vo, renL σ olds = some vo ∧ vo.length = len * i.size ∧ (Builtin.firstCells i.size len (.slice base len cap)).run P w.drew = .ok vo.toArray w.drew := by
   obtain ⟨p', vo, hb', hvo, hvl, hol, hcell⟩ := D0 hR hcells
   rcases B7 hs with ⟨p, cap', hb, hcp, rfl, _⟩ | ⟨_, rfl, hcp, rfl⟩
   ·rw [E8 g4' (Nat.le_refl _)] at hcp
    cases hcp
    rw [hb] at hb'
    cases hb'
    exact ⟨_, rfl, vo, hvo, hvl, run_firstCells_some (P := P) w.drew i.size len ⟨p'.1, p'.2 + o, none⟩ len cap vo hvl (fun j u hj => by rw [C3]; exact hcell j u hj)⟩
   ·rw [E8 g4' (Nat.le_refl _)] at hcp
    obtain rfl : cap = 0 := Option.some.inj hcp
    obtain rfl := List.eq_nil_of_length_eq_zero (hvl.trans (Nat.zero_mul _))
    exact ⟨_, rfl, [], hvo, by simp, D9 w.drew i.size _ 0⟩
  obtain ⟨base, rfl, vo, hvo, hvl, hold⟩ := hbase
  have hfit := growslice_fits g5' g6
  have hq : 0 < q := by omega
  have hrun := Go.Lib.run_append_grow_zeros (P := P) w t tx ty e i z kq kn ht htn hi hz base len cap vo hold q hq (by omega) g5' (by omega) (by have := Nat.mul_le_mul_right i.bytes (Nat.le_add_left q len); omega) hfit
  have hge := grownCap_ge w (len + q) cap e
  have hle := grownCap_le_maxLen w (len + q) cap e (by unfold maxLen; omega)
  have hd := Stp.drew hR nx
  have hzl : 0 < z.cells.size := by omega
  have hzq : (Builtin.zeroCells z.cells q).toList = zrep z.cells.toList (q * i.size) := by rw [zeroCells_rep hzl, hzs]
  have hno : D5 z.cells.toList = true := g0
  have hn : renL σ (zrep z.cells.toList (q * i.size)) = some (zrep z.cells.toList (q * i.size)) := zrep_ren σ hno (by simpa using hzl) _
  have hzrl : (zrep z.cells.toList (q * i.size)).length = q * i.size := by rw [← hzq, Array.length_toList, size_zeroCells, hzs]
  have hlen : (vo ++ zrep z.cells.toList (q * i.size) ++ (Builtin.zeroCells z.cells (grownCap w (len + q) cap e - (len + q))).toList).length = grownCap w (len + q) cap e * i.size := by
   rw [List.length_append, List.length_append, hvl, hzrl, Array.length_toList, size_zeroCells, hzs, ← Nat.add_mul, ← Nat.add_mul]
   congr 1
   omega
  have hgw := Stp.grow hd.rl hf (C7 hvo hn) e (rest := (Builtin.zeroCells z.cells (grownCap w (len + q) cap e - (len + q))).toList) hlen hle (z := z.cells.toList) Ht
  refine ⟨_, _, _, hd.trans hgw (Nat.le_refl _) (by omega), Ip (by omega), ?_⟩
  rw [hrun]
  congr 2
  apply congrArg (fun q => Obj.cells q e (0, 0))
  apply Array.toList_inj.1
  simp [hzq]
def appR (P : Program) (h : Hp) (nx : Nat) (t tx : TypeId) (s x : Value) : Option Out :=
 match P.underlying t, s with
 | some (.slice e), .slice (some ⟨m, o, none⟩) len cap => match P.info? e, lk h m with
  | some i, some ⟨.room sz zz, cs⟩ => match srcV P h i.size tx x with
   | some (n, news) => bif Nat.beq cap (B0 + m) && Nat.beq o 0 && Nat.beq sz i.size && Nat.blt 0 sz && Nat.ble ((len + n) * sz) cs.length then
     some (.slice (some ⟨m, 0, none⟩) (len + n) cap, setH h m ⟨.room sz zz, Bg cs (len * sz) news⟩, nx, [m]) else none
   | none => none
  | _, _ => none
 | _, _ => none
def Jg (P : Program) (ev : Operand → Option Value) (h : Hp) (nx : Nat) (b : Builtin) (args : List Operand) (ts : List TypeId) : Option Out :=
 match b, ts, evL ev args with
 | .append, [t, tx], some [s, x] => match appV P h nx t tx s x with
  | some r => some r
  | none => match appN P h nx t tx s x with
   | some r => some r
   | none => appR P h nx t tx s x
 | .copy, [t, tx], some [d, x] => match copyV P h t tx d x with
  | some (v, h', dd) => some (v, h', nx, dd)
  | none => none
 | _, _, _ => none
def markV (P : Program) (h : Hp) (s t : TypeId) (u : Value) : Option (Nat × Hp) :=
 bif Nat.beq s t then (match P.underlying s, u with
  | some (.slice e), .slice (some ⟨n, _, none⟩) _ _ => match P.underlying e, lk h n with
   | some (.int .u8), some ⟨.shut, cs⟩ => some (n, setH h n ⟨.lent, cs⟩)
   | _, _ => none
  | _, _ => none) else none
def slcN (P : Program) (ev : Operand → Option Value) (h : Hp) (nx : Nat) : Op → Option Out
 | .slice t x lo hi mx => match P.underlying t, ev x, evO ev lo, evO ev hi, evO ev mx with
  | some (.slice e), some (.slice (some ⟨n, o, none⟩) len cap), some l0, some u0, some m0 => match P.info? e, lk h (cap - B0) with
   | some i, some ⟨.room sz _, cs⟩ => bif Nat.ble B0 cap && Nat.beq sz i.size && Nat.blt 0 sz && Nat.beq cap (B0 + n) then
     (match bdsV len (cs.length / sz) l0 u0 m0 with
     | some (l, u, m) => (match m0 with
      | some _ => bif Nat.blt m B0 then some (.slice (some ⟨n, bif Nat.beq m l then o else o + l * sz, none⟩) (u - l) (m - l), h, nx, []) else none
      | none => bif Nat.blt l (cs.length / sz) then some (.slice (some ⟨n, o + l * sz, none⟩) (u - l) (B0 + nx), h, nx + 1, []) else some (.slice (some ⟨nx, 0, none⟩) (u - l) (B0 + nx), h, nx + 1, []))
     | none => none) else none
   | _, _ => none
  | _, _, _, _, _ => none
 | _ => none
theorem bdV_up {v : Option Value} {d d' k c r : Nat} (hn : v ≠ none) (h : bdV v d k = some r) (hc : k ≤ c) : bdV v d' c = some r := by
 unfold bdV at *
 split at h
 ·exact (hn rfl).elim
 ·rename_i kk i
  by_cases hi : 0 ≤ i ∧ i ≤ (k : Int)
  ·have h2 : 0 ≤ i ∧ i ≤ (c : Int) := ⟨hi.1, by omega⟩
   simp only [hi, and_self, decide_true, cond_true] at h
   simp only [h2, and_self, decide_true, cond_true]
   exact h
  ·simp only [hi, decide_false, cond_false] at h; cases h
 ·cases h
theorem M8 {len k l u m m1 : Nat} {lo hi mx : Option Value} (hm : bdV mx k k = some m1) (hu : bdV hi len m1 = some u) (hl : bdV lo 0 u = some l) (hno : hi = none → mx = none) : bdsV len k lo hi mx = some (l, u, m1) := by
 unfold bdsV
 rw [hm]
 cases hi with
 | none => cases mx with
  | none => dsimp only; rw [hu]; dsimp only; rw [hl]
  | some z => cases hno rfl
 | some y => dsimp only; rw [hu]; dsimp only; rw [hl]
theorem bdsV_inv {len k l u m : Nat} {lo hi mx : Option Value} (h : bdsV len k lo hi mx = some (l, u, m)) : bdV mx k k = some m ∧ bdV hi len m = some u ∧ bdV lo 0 u = some l ∧ (hi = none → mx = none) := by
 unfold bdsV at h
 split at h
 ·cases h
 ·rename_i m' hm
  split at h
  ·cases h
  ·rename_i hno
   split at h
   ·cases h
   ·rename_i u' hu
    split at h
    ·cases h
    ·rename_i l' hl
     cases h
     refine ⟨hm, hu, hl, fun e => ?_⟩
     cases mx with
     | none => rfl
     | some z => exact (hno z e rfl).elim
theorem bdsV_up {len k c l u m : Nat} {lo hi mx : Option Value} (h : bdsV len k lo hi mx = some (l, u, m)) (hc : k ≤ c) : bdsV len c lo hi mx = some (l, u, if mx.isSome then m else c) := by
 obtain ⟨h1, h2, h3, h4⟩ := bdsV_inv h
 cases mx with
 | none =>
  have e1 : k = m := by simpa [bdV] using h1
  subst e1
  refine M8 (m := 0) rfl ?_ h3 h4
  cases hi with
  | none => exact h2
  | some v => exact bdV_up (by simp) h2 hc
 | some v => exact M8 (m := 0) (bdV_up (by simp) h1 hc) h2 h3 h4
theorem Stp.alias {W : World} {σ : Sg} {h : Hp} {w : World} (hR : Rl W σ h w) {nx : Nat} (hf : Fresh σ nx (nx + 1)) (p : Nat × Nat) (c : Nat) : Stp W nx (nx + 1) σ h w (σ.bindc nx p c) h w := by
 have hle : σ.le (σ.bindc nx p c) := Sg.le_bindc (hf nx (Nat.le_refl _) (by omega))
 have hne : ∀ n r, lk h n = some r → n ≠ nx := fun n r hl e => by
  subst e
  obtain ⟨b, s, vs, hb, _⟩ := hR.row _ _ hl
  rw [(hf _ (Nat.le_refl _) (by omega)).1] at hb
  cases hb
 have hbs : ∀ n, n ≠ nx → (σ.bindc nx p c).b n = σ.b n := fun n hn => by simp only [Sg.bindc]; rw [if_neg hn]
 refine Stp0.up ⟨hle, fun n hn => ?_, ⟨hR.ext, fun n r hl => hR.keepA hl hle fun _ _ => rfl, fun n m r s q q' hn hm hr hs hq hq' e => ?_⟩, Nat.le_refl _, fun _ _ _ _ => rfl, fun n r q hl ho hb => ?_⟩ hR.shr hR.wf ?_
 ·simp only [Sg.bindc]; rw [if_neg (by omega), if_neg (by omega)]; exact ⟨rfl, rfl⟩
 ·rw [hbs n (hne n r hn)] at hq
  rw [hbs m (hne m s hm)] at hq'
  exact hR.inj n m r s q q' hn hm hr hs hq hq' e
 ·rw [hbs n (hne n r hl)] at hb
  exact .inr ⟨n, r, q, hl, ho, hb, rfl⟩
 ·intro n r hl
  have hnn := hne n r hl
  simp only [sh, ex, Sg.bindc, if_neg hnn]
  exact ⟨fun ho => hR.shr.1 n r hl ho, fun k hk => ⟨n, r, hl, hk⟩, fun k hk => ⟨r, hl, hk⟩⟩
def opV (P : Program) (ev : Operand → Option Value) (h : Hp) (nx : Nat) (op : Op) : Option Out :=
 match op with
 | .store t x y => match ev x, ev y with
  | some a, some b => match Jy P h t a b with
   | some (n, h') => frc h' fun h' => some (undef, h', nx, [n])
   | none => none
  | _, _ => none
 | .call ⟨.builtin .append, args, ts⟩ => Jg P ev h nx .append args.toList ts.toList
 | .call ⟨.builtin .copy, args, ts⟩ => Jg P ev h nx .copy args.toList ts.toList
 | .convert s t x => match Df P ev h (.convert s t x) with
  | some v => some (v, h, nx, [])
  | none => match ev x with
   | some u => match lendV P s t u with
    | some (cs, n) => some (.slice (some ⟨nx, 0, none⟩) n (B0 + nx), (nx, ⟨.lent, cs⟩) :: h, nx + 1, [])
    | none => match markV P h s t u with
     | some (n, h') => some (u, h', nx, [n])
     | none => none
   | none => none
 | op => match Df P ev h op with
  | some v => some (v, h, nx, [])
  | none => match newV P ev op with
   | some (cs, m, t) => some (m.val nx, (nx, ⟨.shut, cs⟩) :: h, nx + 1, [])
   | none => slcN P ev h nx op
def Ends (P : Program) (a : Act) (o : Oper) (w : World) (v' : Value) (w' : World) : Prop :=
 (execOp a.eval o).run P w = .ok (.value v') w' ∨ ((execOp a.eval o).run P w = .ok .skip w' ∧ v' = undef)
theorem wp_ends {P : Program} {a : Act} {o : Oper} {w w' : World} {v' : Value} {K : Act → World → Prop} {Q : Exit → Act → World → Prop} (h : Ends P a o w v' w') (hk : K (a.put o.dst v') w') : o.wp P a w K Q := by
 unfold Oper.wp
 rcases h with h | ⟨h, rfl⟩
 ·rw [h]; exact hk
 ·rw [h]; exact hk
def Tidy (h : Hp) (nx : Nat) (h' : Hp) (nx' : Nat) (d : List Nat) : Prop := nx ≤ nx' ∧ (∀ n, n < nx → n ∉ d → lk h' n = lk h n) ∧ (Bd h nx → Bd h' nx')
theorem Tidy.refl (h : Hp) (nx : Nat) : Tidy h nx h nx [] := ⟨Nat.le_refl _, fun _ _ _ => rfl, fun h => h⟩
theorem Tidy.trans {h h1 h2 : Hp} {n n1 n2 : Nat} {d e : List Nat} (a : Tidy h n h1 n1 d) (b : Tidy h1 n1 h2 n2 e) : Tidy h n h2 n2 (e ++ d) :=
 ⟨Nat.le_trans a.1 b.1, fun k hk hn => by
  rw [b.2.1 k (Nat.lt_of_lt_of_le hk a.1) (fun e => hn (List.mem_append_left _ e)), a.2.1 k hk (fun e => hn (List.mem_append_right _ e))], fun h => b.2.2 (a.2.2 h)⟩

theorem Ba {α : Type} {c : Bool} {x : Option α} {y : α} (h : (bif c then x else none) = some y) : c = true ∧ x = some y := by
 cases c with
 | false => cases h
 | true => exact ⟨rfl, by simpa using h⟩
theorem Be {α : Type} {c : Bool} {x y z : α} (h : (bif c then x else y) = z) : (c = true ∧ x = z) ∨ (c = false ∧ y = z) := by
 cases c with
 | false => exact .inr ⟨rfl, h⟩
 | true => exact .inl ⟨rfl, h⟩
section
variable {P : Program} {W : World} {σ : Sg} {h h' : Hp} {w : World} {ev : Operand → Option Value} {a : Act} {nx nx' : Nat} {d : List Nat} {v : Value}
theorem Iy {r : Rw} : Tidy h nx ((nx, r) :: h) (nx + 1) [] := ⟨by omega, fun n hn _ => by rw [B3, if_neg (by omega)], fun hb n hn => by rw [B3, if_neg (by omega)]; exact hb n (by omega)⟩
theorem Ix {n : Nat} {r r' : Rw} (hl : lk h n = some r) : Tidy h nx (setH h n r') nx [n] := ⟨Nat.le_refl _, fun m hm hd => by rw [Bo, if_neg (fun e => hd (by simp [e]))], fun hb m hm => by
  rw [Bo]
  split
  ·rename_i e; subst e; have := hb n hm; rw [hl] at this; cases this
  ·exact hb m hm⟩
theorem tidy_into {n : Nat} {r : Rw} : Tidy h nx ((nx, r) :: delH h n) (nx + 1) [n] := ⟨by omega, fun m hm hd => by rw [B3, if_neg (by omega), Bf, if_neg (fun e => hd (by simp [e]))], fun hb m hm => by
  rw [B3, if_neg (by omega), Bf]
  split
  ·rfl
  ·exact hb m (by omega)⟩
theorem storeV_tidy {t : TypeId} {x y : Value} {n : Nat} (hs : Jy P h t x y = some (n, h')) : Tidy h nx h' nx [n] := by
 unfold Jy at hs
 split at hs
 ·split at hs
  ·rename_i r i hl hi
   obtain ⟨_, e⟩ := Ba hs
   rw [Cz] at e
   cases e
   exact Ix hl
  ·cases hs
 ·cases hs
theorem copyV_tidy {t tx : TypeId} {x y : Value} (hs : copyV P h t tx x y = some (v, h', d)) : Tidy h nx h' nx d := by
 unfold copyV at hs
 split at hs
 ·split at hs
  ·rename_i r hi hl
   split at hs
   ·obtain ⟨_, e⟩ := Ba hs
    cases e
    exact Ix hl
   ·cases hs
  ·cases hs
 ·obtain ⟨_, hs⟩ := Ba hs
  split at hs
  ·split at hs
   ·cases hs; exact Tidy.refl _ _
   ·cases hs
  ·cases hs
 ·cases hs
theorem appV_tidy {t tx : TypeId} {s x : Value} (hc : appV P h nx t tx s x = some (v, h', nx', d)) : Tidy h nx h' nx' d := by
 unfold appV at hc
 split at hc
 case h_2 => cases hc
 split at hc
 case h_2 => cases hc
 split at hc
 case h_2 => cases hc
 split at hc
 case h_2 => cases hc
 obtain ⟨_, hc⟩ := Ba hc
 split at hc
 ·obtain ⟨_, hc⟩ := Ba hc
  rcases Be hc with ⟨_, hc⟩ | ⟨_, hc⟩
  ·cases hc; exact Tidy.refl _ _
  ·obtain ⟨_, hc⟩ := Ba hc
   cases hc; exact Iy
 ·rcases Be hc with ⟨_, hc⟩ | ⟨_, hc⟩
  ·rcases Be hc with ⟨_, hc⟩ | ⟨_, hc⟩
   ·split at hc
    ·rename_i r hl
     obtain ⟨_, hc⟩ := Ba hc
     cases hc; exact Ix hl
    ·cases hc
   ·split at hc
    ·obtain ⟨_, hc⟩ := Ba hc
     cases hc; exact Iy
    ·cases hc
  ·split at hc
   ·split at hc
    ·obtain ⟨_, hc⟩ := Ba hc
     cases hc; exact tidy_into
    ·cases hc
   ·cases hc
 ·cases hc
theorem appN_tidy {t tx : TypeId} {s x : Value} (hc : appN P h nx t tx s x = some (v, h', nx', d)) : Tidy h nx h' nx' d := by
 unfold appN at hc
 split at hc
 case h_2 => cases hc
 split at hc
 case h_2 => cases hc
 split at hc
 case h_2 => cases hc
 obtain ⟨_, hc⟩ := Ba hc
 cases hc; exact Iy
theorem appR_tidy {t tx : TypeId} {s x : Value} (hc : appR P h nx t tx s x = some (v, h', nx', d)) : Tidy h nx h' nx' d := by
 unfold appR at hc
 split at hc
 case h_2 => cases hc
 split at hc
 case h_2 => cases hc
 rename_i hl
 split at hc
 case h_2 => cases hc
 obtain ⟨_, hc⟩ := Ba hc
 cases hc
 exact Ix hl
theorem Lx {b : Builtin} {args : List Operand} {ts : List TypeId} (hv : Jg P ev h nx b args ts = some (v, h', nx', d)) : Tidy h nx h' nx' d := by
 unfold Jg at hv
 split at hv
 ·split at hv
  ·rename_i hc
   cases hv
   exact appV_tidy hc
  ·split at hv
   ·rename_i hc
    cases hv
    exact appN_tidy hc
   ·exact appR_tidy hv
 ·split at hv
  ·rename_i hc
   cases hv
   exact copyV_tidy hc
  ·cases hv
 ·cases hv
theorem slcN_tidy {op : Op} (hv : slcN P ev h nx op = some (v, h', nx', d)) : Tidy h nx h' nx' d := by
 have key : Tidy h nx h (nx + 1) [] := ⟨by omega, fun _ _ _ => rfl, fun hb n hn => hb n (by omega)⟩
 unfold slcN at hv
 split at hv
 case h_2 => cases hv
 split at hv
 case h_2 => cases hv
 split at hv
 case h_2 => cases hv
 obtain ⟨_, hv⟩ := Ba hv
 split at hv
 case h_2 => cases hv
 split at hv
 ·obtain ⟨_, hv⟩ := Ba hv
  cases hv; exact Tidy.refl _ _
 ·rcases Be hv with ⟨_, hv⟩ | ⟨_, hv⟩ <;> (cases hv; exact key)
theorem slcN_ok (hR : Rl W σ h w) (hf : Fresh σ nx nx') (H : Evs σ ev a) {o : Oper} (hv : slcN P ev h nx o.op = some (v, h', nx', d)) :
  ∃ σ' w' v', Stp W nx nx' σ h w σ' h' w' ∧ renV σ' v = some v' ∧ (execOp a.eval o).run P w = .ok (.value v') w' := by
 unfold slcN at hv
 split at hv
 case h_2 => cases hv
 rename_i t x lo hi mx ho
 split at hv
 case h_2 => cases hv
 rename_i e n off len cap l0 u0 m0 hu hx hl0 hu0 hm0
 split at hv
 case h_2 => cases hv
 rename_i i sz zz cs hi0 hl
 obtain ⟨hg, hs1⟩ := Ba hv
 clear hv
 simp only [Bool.and_eq_true, Nat.ble_eq, Nat.blt_eq] at hg
 obtain ⟨⟨⟨g1, g2⟩, g3⟩, g4⟩ := hg
 obtain rfl := Nat.eq_of_beq_eq_true g2
 have hx' := H x _ hx
 have ol := Il H hl0
 have oz := Il H hu0
 have om := Il H hm0
 have hnn : σ.f n ≠ none := by
  have e := Nat.eq_of_beq_eq_true g4
  rw [e, Nat.add_sub_cancel_left] at hl
  exact hR.shr.1 n _ hl (fun e => by cases e)
 rcases B7 hx' with ⟨p, c', hb, hcp, hxe, _⟩ | ⟨h0, _⟩
 case inr => exact (hnn h0).elim
 have hcp0 := hcp
 unfold cpR at hcp0
 rw [if_neg (Nat.not_lt_of_le g1)] at hcp0
 obtain ⟨b, s, vs, hb', hv, hk⟩ := hR.row _ _ hl
 obtain ⟨_, _, tt, rest, c, hc, _, hlen, hcm, _⟩ := hk
 rw [hcp0] at hc
 cases hc
 split at hs1
 case h_2 => cases hs1
 rename_i l u m hbd
 have hle : cs.length / i.size ≤ c' := by
  have e1 := Bn hv
  simp only at e1
  rw [List.length_append] at hlen
  have : cs.length ≤ c' * i.size := by omega
  exact Nat.div_le_of_le_mul (by rw [Nat.mul_comm]; exact this)
 have hb2 := bdsV_up hbd hle
 have hlc : len ≤ c' := by
  have h2 := hx'
  rw [hxe] at h2
  exact Bx hR.wf h2
 have hul := bdsV_hi hb2 hlc
 obtain ⟨q1, q2, q3⟩ := I8 (σ := σ) hbd ol.1 ol.2 oz.1 oz.2 om.1 om.2
 have hel : P.elem t = e := by simp [Program.elem, hu]
 have hrun : (execOp a.eval o).run P w = .ok (.value (.slice (if (if m0.isSome then m else c') = l then some ⟨p.1, p.2 + off, none⟩ else some ((⟨p.1, p.2 + off, none⟩ : Addr).add (l * i.size))) (u - l) ((if m0.isSome then m else c') - l))) w := by
  have h1 : (Instr.sliceAt t (.slice (some ⟨p.1, p.2 + off, none⟩) len c') l0 u0 m0).run P w = .ok (.slice (if (if m0.isSome then m else c') = l then some ⟨p.1, p.2 + off, none⟩ else some ((⟨p.1, p.2 + off, none⟩ : Addr).add (l * i.size))) (u - l) ((if m0.isSome then m else c') - l)) w := by
   rw [run_sliceAt_slice w t _ l0 u0 m0 (by rw [hel]; exact hu)]
   simp [Instr.slice, run_underlying hu, Hb true hb2, sizeOf, typeInfo, hi0]
  unfold execOp
  rw [ho]
  simp only [q1, q2, q3, hxe, h1, Sem.run_bind, Result.andThen_ok, Sem.run_pure]
 split at hs1
 ·rename_i mv
  obtain ⟨hm, hs1⟩ := Ba hs1
  cases hs1
  simp only [Option.isSome_some, if_true] at hrun
  refine ⟨σ, w, _, Stp.refl hR nx, ?_, hrun⟩
  have hml : m < B0 := Nat.le_of_ble_eq_true hm
  have hc1 : cpR σ (m - l) = some (m - l) := by unfold cpR; rw [if_pos (by omega)]
  rw [B5 hb hc1 hnn (.inr (by simp only [Option.isSome_some, if_true] at hul; omega))]
  congr 2
  by_cases e : m = l
  ·rw [if_pos e]; subst e; rw [show Nat.beq m m = true from Nat.beq_refl m]; rfl
  ·rw [if_neg e, Ca e, C3]; simp only [cond_false, Nat.add_assoc]
 ·simp only [Option.isSome_none, Bool.false_eq_true, if_false] at hrun
  rcases Be hs1 with ⟨hlt, hs2⟩ | ⟨hlt, hs2⟩
  ·cases hs2
   have hlt := Nat.le_of_ble_eq_true hlt
   refine ⟨_, w, _, Stp.alias hR hf (0, 0) (c' - l), ?_, hrun⟩
   have hne : n ≠ nx := fun e => by
    subst e
    rw [(hf _ (Nat.le_refl _) (by omega)).1] at hb
    cases hb
   rw [if_neg (by omega), C3]
   have hb1 : (σ.bindc nx (0, 0) (c' - l)).b n = some p := by simp only [Sg.bindc]; rw [if_neg hne]; exact hb
   have hc1 : cpR (σ.bindc nx (0, 0) (c' - l)) (B0 + nx) = some (c' - l) := by unfold cpR; rw [if_neg (by omega), Nat.add_sub_cancel_left]; simp [Sg.bindc]
   have := B5 (o := off + l * i.size) (l := u - l) hb1 hc1 (by simp only [Sg.bindc]; rw [if_neg hne]; exact hnn) (.inr (by simp only [Option.isSome_none, Bool.false_eq_true, if_false] at hul; omega))
   rw [← Nat.add_assoc] at this
   exact this
  ·cases hs2
   refine ⟨_, w, _, Stp.alias hR hf (p.1, if c' = l then p.2 + off else p.2 + off + l * i.size) (c' - l), ?_, hrun⟩
   refine (B5 (p := (p.1, if c' = l then p.2 + off else p.2 + off + l * i.size)) (c' := c' - l) (by simp [Sg.bindc]) (by unfold cpR; rw [if_neg (by omega), Nat.add_sub_cancel_left]; simp [Sg.bindc]) (by simp [Sg.bindc]) (.inr (by simp only [Option.isSome_none, Bool.false_eq_true, if_false] at hul; omega))).trans ?_
   by_cases hcl : c' = l
   ·simp only [hcl, if_true, Nat.add_zero]
   ·simp only [if_neg hcl, Nat.add_zero, C3]
theorem appR_ok (hR : Rl W σ h w) {nx nx' : Nat} {t tx ty : TypeId} {s x s' x' v : Value} {h' : Hp} {dd : List Nat} (hc : appR P h nx t tx s x = some (v, h', nx', dd)) (hs : renV σ s = some s') (hx : renV σ x = some x') :
  ∃ σ' w' v', Stp W nx nx' σ h w σ' h' w' ∧ renV σ' v = some v' ∧ (Builtin.append_ #[t, tx] ty #[s', x']).run P w = .ok v' w' := by
 unfold appR at hc
 split at hc
 case h_2 => cases hc
 rename_i e m o len cap ht
 split at hc
 case h_2 => cases hc
 rename_i i sz zz cs hi hl
 split at hc
 case h_2 => cases hc
 rename_i n news hsrcV
 obtain ⟨hg, hc1⟩ := Ba hc
 clear hc
 simp only [Bool.and_eq_true, Nat.ble_eq, Nat.blt_eq] at hg
 obtain ⟨⟨⟨⟨g1, g2⟩, g3⟩, g4⟩, g5⟩ := hg
 obtain rfl := Nat.eq_of_beq_eq_true g1
 obtain rfl := Nat.eq_of_beq_eq_true g2
 obtain rfl := Nat.eq_of_beq_eq_true g3
 cases hc1
 obtain ⟨vn, hn, hsrc⟩ := Dz hR hsrcV hx
 have hnl := Bn hn
 rcases B7 hs with ⟨p, c', hb, hcp, rfl, hnn⟩ | ⟨h0, _⟩
 case inr => exact (hR.shr.1 m _ hl (fun e => by cases e) h0).elim
 have hcp0 := hcp
 unfold cpR at hcp0
 rw [if_neg (by omega), Nat.add_sub_cancel_left] at hcp0
 obtain ⟨b, s0, vs, hb', hv, hk⟩ := hR.row _ _ hl
 obtain ⟨_, _, tt, rest, c, hc, _, hlen, hcm, _⟩ := hk
 rw [hcp0] at hc
 cases hc
 have e1 := Bn hv
 simp only at e1
 rw [List.length_append] at hlen
 have hroom : len + n ≤ c' := by
  have : (len + n) * i.size ≤ c' * i.size := by omega
  exact Nat.le_of_mul_le_mul_right this g4
 have hvn : vn.length = n * i.size := hsrc.newsLen
 have hmul : (len + n) * i.size = len * i.size + n * i.size := Nat.add_mul _ _ _
 have ho : Rw.wr ⟨.room i.size zz, cs⟩ := rfl
 have hge := hR.ge hl ho.own hb
 obtain ⟨p', vs', hb2, hv2, hcell⟩ := hR.cell hl
 rw [hb] at hb2
 cases hb2
 have e2 := Bn hv2
 simp only at e2
 have hrun := run_append_room_src (P := P) w t tx ty e i ht hi p.1 (p.2 + 0) len c' x' n vn hsrc hroom (fun j hj => by
  have hlt2 : len * i.size + j < vs'.length := by omega
  have := hcell _ _ (List.getElem?_eq_getElem hlt2)
  rw [show p.2 + 0 + len * i.size + j = p.2 + (len * i.size + j) by omega, this]; rfl) (fun j hj => hR.free hl ho hb _)
 refine ⟨σ, _, _, Stp.put hR nx hl ho hb hn (by simp only; omega), B5 hb hcp hnn (.inr hroom), ?_⟩
 rw [hrun]
 have e3 : p.2 + 0 + len * i.size = len * i.size := by rw [hge.2]; omega
 rw [e3]
theorem plainV_tidy {op : Op} (hv : (match Df P ev h op with
  | some v => some (v, h, nx, [])
  | none => match newV P ev op with
   | some (cs, m, t) => some (m.val nx, (nx, ⟨.shut, cs⟩) :: h, nx + 1, [])
   | none => slcN P ev h nx op : Option Out) = some (v, h', nx', d)) : Tidy h nx h' nx' d := by
 split at hv
 ·cases hv; exact Tidy.refl _ _
 ·split at hv
  ·cases hv; exact Iy
  ·exact slcN_tidy hv
theorem markV_tidy {s t : TypeId} {u : Value} {n : Nat} (hm : markV P h s t u = some (n, h')) : Tidy h nx h' nx [n] := by
 unfold markV at hm
 obtain ⟨_, hm⟩ := Ba hm
 split at hm
 ·split at hm
  ·rename_i hl
   cases hm
   exact Ix hl
  ·cases hm
 ·cases hm
theorem opV_tidy {op : Op} (hv : opV P ev h nx op = some (v, h', nx', d)) : Tidy h nx h' nx' d := by
 unfold opV at hv
 split at hv
 ·split at hv
  ·split at hv
   ·rename_i hs
    rw [Cz] at hv
    cases hv
    exact storeV_tidy hs
   ·cases hv
  ·cases hv
 ·exact Lx hv
 ·exact Lx hv
 ·split at hv
  ·cases hv; exact Tidy.refl _ _
  ·split at hv
   ·split at hv
    ·cases hv; exact Iy
    ·split at hv
     ·rename_i hm
      cases hv
      exact markV_tidy hm
     ·cases hv
   ·cases hv
 ·exact plainV_tidy hv
theorem builtV_ok (hR : Rl W σ h w) (hf : Fresh σ nx nx') (H : Evs σ ev a) {b : Builtin} {args : Array Operand} {ts : Array TypeId} {o : Oper} (ho : o.op = .call ⟨.builtin b, args, ts⟩) (hv : Jg P ev h nx b args.toList ts.toList = some (v, h', nx', d)) :
  ∃ σ' w' v', Stp W nx nx' σ h w σ' h' w' ∧ renV σ' v = some v' ∧ Ends P a o w v' w' := by
 have hargs : ∀ {x y : Value}, evL ev args.toList = some [x, y] → ∃ x' y', args.map a.eval = #[x', y'] ∧ renV σ x = some x' ∧ renV σ y = some y' := fun {x y} he => by
  have h1 := Dq H he
  obtain ⟨x', l, h2, h3, e1⟩ := B9 h1
  obtain ⟨y', l', h4, h5, e2⟩ := B9 h3
  simp only [renL, oI] at h5
  refine ⟨x', y', ?_, h2, h4⟩
  apply Array.toList_inj.1
  rw [Array.toList_map, e1, e2, ← h5]
 have hts : ∀ {t tx : TypeId}, ts.toList = [t, tx] → ts = #[t, tx] := fun e => by apply Array.toList_inj.1; simpa using e
 unfold Jg at hv
 split at hv
 ·rename_i t tx s x hte hev
  obtain ⟨s', x', e1, hs, hx⟩ := hargs hev
  obtain ⟨σ', w', v', h1, h2, h3⟩ : ∃ σ' w' v', Stp W nx nx' σ h w σ' h' w' ∧ renV σ' v = some v' ∧ (Builtin.append_ #[t, tx] o.type #[s', x']).run P w = .ok v' w' := by
   split at hv
   ·rename_i hc
    cases hv
    exact Ky (P := P) (ty := o.type) hR hc hf hs hx
   ·split at hv
    ·rename_i hc
     cases hv
     exact appN_ok (P := P) (ty := o.type) hR hc hf hs hx
    ·exact appR_ok (P := P) (ty := o.type) hR hv hs hx
  refine ⟨σ', w', v', h1, h2, .inl ?_⟩
  unfold execOp
  simp only [ho, resolve, Sem.run_bind, Sem.run_pure, Result.andThen_ok, invoke, builtin, e1, hts hte, h3]
 ·rename_i t tx x y hte hev
  split at hv
  ·rename_i v1 h1 dd hc
   cases hv
   obtain ⟨x', y', e1, hx, hy⟩ := hargs hev
   obtain ⟨w', h1, h2, h3, h4⟩ := copyV_ok (P := P) (ty := o.type) hR nx hc hx hy
   refine ⟨σ, w', v, h1, h2, .inl ?_⟩
   unfold execOp
   simp only [ho, resolve, Sem.run_bind, Sem.run_pure, Result.andThen_ok, invoke, builtin, e1, hts hte, h3]
  ·cases hv
 ·cases hv
theorem Stp.one {lo : Nat} (hR : Rl W σ h w) {n : Nat} {r : Rw} (hl : lk h n = some r) (ho : r.own) {p : Nat × Nat} (hb : σ.b n = some p) {w' : World} (hs : w'.heap.size = w.heap.size) (hoth : ∀ b, b ≠ p.1 → w'.heap[b]? = w.heap[b]?) (hx : Ext W w') (r' : Rw) (hr' : RowOk W σ w' n r') :
  Stp W lo lo σ h w σ (setH h n r') w' := by
 have hd : ∀ m s, lk (setH h n r') m = some s → (m = n ∧ s = r') ∨ (lk h m = some s ∧ m ≠ n) := fun m s e => by
  rw [Bo] at e
  split at e
  ·rename_i hm; cases e; exact .inl ⟨hm.symm, rfl⟩
  ·rename_i hne; exact .inr ⟨e, Ne.symm hne⟩
 have conv : ∀ m s, lk (setH h n r') m = some s → s.own → ∃ s', lk h m = some s' ∧ s'.own := fun m s e hs => by
  rcases hd m s e with ⟨rfl, _⟩ | ⟨e, _⟩
  ·exact ⟨r, hl, ho⟩
  ·exact ⟨s, e, hs⟩
 refine Stp0.up ⟨Sg.le.refl σ, fun _ _ => ⟨rfl, rfl⟩, ⟨hx, fun m s e => ?_, fun m k s t p q a b hs ht c d e => ?_⟩,
  by rw [hs]; exact Nat.le_refl _, fun b hb' hno _ => hoth b fun e => hno n r p hl ho hb e.symm, fun m s q e hs hq => ?_⟩ hR.shr hR.wf (J0 hR.shr hl ho)
 ·rcases hd m s e with ⟨rfl, rfl⟩ | ⟨e, hne⟩
  ·exact hr'
  ·exact hR.keepW hl ho hb e hne (Sg.le.refl σ) hoth
 ·obtain ⟨s', a', hs'⟩ := conv m s a hs
  obtain ⟨t', b', ht'⟩ := conv k t b ht
  exact hR.inj m k s' t' p q a' b' hs' ht' c d e
 ·obtain ⟨s', a', hs'⟩ := conv m s e hs
  exact .inr ⟨m, s', q, a', hs', hq, rfl⟩
theorem freeze_heap (w : World) (b k : Nat) : (w.freeze ⟨b, k, none⟩ 1).heap.size = w.heap.size ∧ (∀ c, c ≠ b → (w.freeze ⟨b, k, none⟩ 1).heap[c]? = w.heap[c]?) ∧ w.grownBy (w.freeze ⟨b, k, none⟩ 1) (some b) := by
 unfold World.freeze
 rw [if_neg (by decide)]
 have h2 : ∀ (f : Obj → Obj) c, c ≠ b → (w.heap.modify b f)[c]? = w.heap[c]? := fun f c hc => by rw [Array.getElem?_modify, if_neg (Ne.symm hc)]
 exact ⟨by simp, fun c hc => h2 _ c hc, rfl, rfl, rfl, by simp, fun c _ hc => h2 _ c fun e => hc (by rw [e])⟩
theorem markV_ok (hR : Rl W σ h w) {s t : TypeId} {u u' : Value} {n : Nat} (hm : markV P h s t u = some (n, h')) (hu : renV σ u = some u') (lo : Nat) :
  ∃ u'', renV σ u = some u'' ∧ ∃ w', Stp W lo lo σ h w σ h' w' ∧ (convert s t u'').run P w = .ok u'' w' := by
 unfold markV at hm
 obtain ⟨hst, hm1⟩ := Ba hm
 clear hm
 obtain rfl := Nat.eq_of_beq_eq_true hst
 split at hm1
 ·rename_i e m o len c hs
  split at hm1
  ·rename_i cs he hl
   cases hm1
   rcases B7 hu with ⟨p, c', hb, _, rfl, _⟩ | ⟨h0, _⟩
   case inr => exact (hR.shr.1 _ _ hl (fun e => by cases e) h0).elim
   obtain ⟨b, z, vs, hb', hv, hk⟩ := hR.row _ _ hl
   rw [hb] at hb'
   cases hb'
   obtain ⟨hz, hge, tt, hblk⟩ := hk
   obtain ⟨f1, f2, f3⟩ := freeze_heap w b vs.toArray.size
   refine ⟨_, hu, w.freeze ⟨b, vs.toArray.size, none⟩ 1, Stp.one hR hl (fun e => by cases e) hb f1 f2 (Ext.grown hR.ext f3 fun r e => by cases e; exact hge) _ ⟨b, z, vs, hb, hv, hz, hge, tt, [], (vs.toArray.size, vs.toArray.size + 1), ?_⟩, ?_⟩
   ·unfold World.freeze
    rw [if_neg (by decide)]
    simp only [Array.getElem?_modify, if_true, hblk, Option.map_some, List.append_nil]
    rfl
   ·have hsh : w.shape? b = some (tt, vs.toArray.size) := by unfold World.shape?; rw [hblk]
    simp [convert, run_underlying hs, run_underlying he, markStringish, hsh]
  ·cases hm1
 ·cases hm1
theorem opV_ok (hR : Rl W σ h w) (hf : Fresh σ nx nx') (H : Evs σ ev a) {o : Oper} (hv : opV P ev h nx o.op = some (v, h', nx', d)) :
  ∃ σ' w' v', Stp W nx nx' σ h w σ' h' w' ∧ renV σ' v = some v' ∧ Ends P a o w v' w' := by
 have plain : ∀ op, o.op = op → (match Df P ev h op with
  | some v => some (v, h, nx, [])
  | none => match newV P ev op with
   | some (cs, m, t) => some (m.val nx, (nx, ⟨.shut, cs⟩) :: h, nx + 1, [])
   | none => slcN P ev h nx op : Option Out) = some (v, h', nx', d) → ∃ σ' w' v', Stp W nx nx' σ h w σ' h' w' ∧ renV σ' v = some v' ∧ Ends P a o w v' w' := by
  intro op ho hv
  split at hv
  ·rename_i u hu
   cases hv
   obtain ⟨v', h1, h2⟩ := pureV_ok (P := P) (o := o) hR H (by rw [ho]; exact hu)
   exact ⟨σ, w, v', Stp.refl hR nx, h1, .inl h2⟩
  ·split at hv
   ·rename_i cs m t hn
    cases hv
    obtain ⟨⟨vs, h1, h2⟩, h3⟩ := newV_ok (P := P) (w := w) (o := o) H (by rw [ho]; exact hn)
    refine ⟨_, _, m.val w.heap.size, Stp.alloc hR hf h1 t, Mk.val_ren h3 (by simp [Sg.bind]) (by simp [Sg.bind]), .inl h2⟩
   ·obtain ⟨σ', w', v', h1, h2, h3⟩ := slcN_ok (P := P) (o := o) hR hf H (by rw [ho]; exact hv)
    exact ⟨σ', w', v', h1, h2, .inl h3⟩
 unfold opV at hv
 split at hv
 ·rename_i t x y ho
  split at hv
  ·rename_i u1 u2 hx hy
   split at hv
   ·rename_i n h1 hs
    rw [Cz] at hv
    cases hv
    obtain ⟨w', h2, h3⟩ := storeV_ok (P := P) hR nx hs (H x _ hx) (H y _ hy)
    refine ⟨σ, w', undef, h2, rfl, .inr ⟨?_, rfl⟩⟩
    unfold execOp
    simp only [ho, Sem.run_bind, h3, Result.andThen_ok, Sem.run_pure]
   ·cases hv
  ·cases hv
 ·rename_i args ts ho
  exact builtV_ok hR hf H ho hv
 ·rename_i args ts ho
  exact builtV_ok hR hf H ho hv
 ·rename_i s t x ho
  split at hv
  ·rename_i u hu
   cases hv
   obtain ⟨v', h1, h2⟩ := pureV_ok (P := P) (o := o) hR H (by rw [ho]; exact hu)
   exact ⟨σ, w, v', Stp.refl hR nx, h1, .inl h2⟩
  ·split at hv
   ·rename_i u hx
    split at hv
    ·rename_i cs n hl
     cases hv
     obtain ⟨σ', w', v', h1, h2, h3⟩ := lendV_ok (P := P) hR hf hl (H x _ hx)
     refine ⟨σ', w', v', h1, h2, .inl ?_⟩
     unfold execOp
     simp only [ho, Sem.run_bind, h3, Result.andThen_ok, Sem.run_pure]
    ·split at hv
     ·rename_i m h1 hm
      cases hv
      obtain ⟨u', h2, w', h3, h4⟩ := markV_ok (P := P) hR hm (H x _ hx) nx
      refine ⟨σ, w', u', h3, h2, .inl ?_⟩
      unfold execOp
      rw [ho]
      have e1 : a.eval x = u' := by
       have := H x _ hx
       rw [h2] at this
       exact (Option.some.inj this).symm
      simp only [Sem.run_bind, e1, h4, Result.andThen_ok, Sem.run_pure]
     ·cases hv
   ·cases hv
 ·exact plain _ rfl hv
end
structure Env where
 P : Program
 X : FuncId → List Value → Hp → Option Value
 T : FuncId → List Value → Hp → Nat → Option Out
def Tri (P : Program) (f : FuncId) (args : List Value) (h : Hp) (nx : Nat) (out : Out) : Prop :=
 Tidy h nx out.2.1 out.2.2.1 out.2.2.2 ∧ (Bd h nx → ∀ W σ w args', Rl W σ h w → Fresh σ nx out.2.2.1 → renL σ args = some args' →
  Calls P f args'.toArray w fun e w' => ∃ σ' v', Stp W nx out.2.2.1 σ h w σ' out.2.1 w' ∧ renV σ' out.1 = some v' ∧ e = .returned v')
def TriR (P : Program) (n : Nat) (args : List Value) (h : Hp) (nx : Nat) (out : Out) : Prop :=
 Tidy h nx out.2.1 out.2.2.1 out.2.2.2 ∧ (Bd h nx → ∀ W σ w args', Rl W σ h w → Fresh σ nx out.2.2.1 → renL σ args = some args' →
  ∀ p, σ.b n = some p → ∃ fn tmps as bd, (Instr.yield p.1 args'.toArray).run P w = .ok (.round p.1 fn tmps as bd) w ∧
   ∀ (F : Fence) (m : Nat), Wide F → RoundIn F m P p.1 fn tmps as bd w fun e w' => ∃ σ' v', Stp W nx out.2.2.1 σ h w σ' out.2.1 w' ∧ renV σ' out.1 = some v' ∧ e = .returned v')
def yBig : Nat := 1099511627776
def yieldV (ev : Operand → Option Value) : Op → Option (Nat × List Value)
 | .call ⟨.value x, args, _⟩ => match ev x, evL ev args.toList with
  | some (.func (.yield n) f c), some vs => some (n, f.toList ++ vs)
  | _, _ => none
 | _ => none
def ndV : Op → Bool
 | .defer _ => false
 | _ => true

def Kw (ev : Operand → Option Value) : Op → Option (FuncId × List Value)
 | .call ⟨.value x, args, _⟩ => match ev x, evL ev args.toList with
  | some (.func (.func g) f c), some vs => some (g, f.toList ++ vs ++ c.toList)
  | _, _ => none
 | _ => none
def Does (P : Program) (o : Oper) (ev : Operand → Option Value) (h : Hp) (nx : Nat) (out : Out) : Prop :=
 Tidy h nx out.2.1 out.2.2.1 out.2.2.2 ∧ (Bd h nx → ∀ W σ w a, Rl W σ h w → Fresh σ nx out.2.2.1 → Evs σ ev a → ∀ (F : Fence) (m : Nat), Wide F → ∀ (K : Act → World → Prop) (Q : Exit → Act → World → Prop),
  (∀ σ' w' v', Stp W nx out.2.2.1 σ h w σ' out.2.1 w' → renV σ' out.1 = some v' → K (a.put o.dst v') w') → o.wpIn F m P a w K Q)
section
variable {E : Env} {call : FuncId → List Value → Hp → Nat → Option Out}
theorem calleeV_ok {P : Program} {σ : Sg} {ev : Operand → Option Value} {a : Act} (H : Evs σ ev a) {o : Oper} {g : FuncId} {vs : List Value} (h : Kw ev o.op = some (g, vs)) (w : World) :
  ∃ vs', renL σ vs = some vs' ∧ (execOp a.eval o).run P w = (callFunc g vs'.toArray).run P w := by
 obtain ⟨dst, op, type, pos, after, guard⟩ := o
 unfold Kw at h
 split at h
 ·rename_i x args ts ho
  split at h
  ·rename_i g' f c us hx hu
   cases h
   simp only at ho
   subst ho
   obtain ⟨fn', f', c', e1, hf, hc, hfn⟩ := Du (H x _ hx)
   cases hfn
   have hargs := Dq H hu
   refine ⟨f'.toList ++ args.toList.map a.eval ++ c'.toList, C7 (C7 hf hargs) hc, ?_⟩
   have e2 : (f'.toList ++ args.toList.map a.eval ++ c'.toList).toArray = (f' ++ args.map a.eval) ++ c' := by
    apply Array.toList_inj.1; simp
   simp only [execOp, resolve, e1, Deferred.ofValue, Sem.run_bind, Sem.run_pure, Result.andThen_ok, invoke, e2]
  ·cases h
 ·cases h
theorem calleeV_nd {ev : Operand → Option Value} {o : Oper} {r : FuncId × List Value} (h : Kw ev o.op = some r) : Em o = true := by
 unfold Kw at h
 split at h
 ·rename_i ho; unfold Em; rw [ho]
 ·cases h
theorem yieldV_ok {P : Program} {σ : Sg} {ev : Operand → Option Value} {a : Act} (H : Evs σ ev a) {o : Oper} {n : Nat} {vs : List Value} (h : yieldV ev o.op = some (n, vs)) (w : World) :
  Em o = true ∧ ∃ p vs', σ.b n = some p ∧ renL σ vs = some vs' ∧ (execOp a.eval o).run P w = (Instr.yield p.1 vs'.toArray).run P w := by
 obtain ⟨dst, op, type, pos, after, guard⟩ := o
 unfold yieldV at h
 split at h
 ·rename_i x args ts ho
  split at h
  ·rename_i g' f c us hx hu
   cases h
   simp only at ho
   subst ho
   obtain ⟨fn', f', c', e1, hf, hc, hfn⟩ := Du (H x _ hx)
   simp only [fnR] at hfn
   split at hfn
   ·rename_i p hp
    cases hfn
    have hargs := Dq H hu
    refine ⟨rfl, p, f'.toList ++ args.toList.map a.eval, hp, C7 hf hargs, ?_⟩
    have e2 : (f'.toList ++ args.toList.map a.eval).toArray = f' ++ args.map a.eval := by
     apply Array.toList_inj.1; simp
    simp only [execOp, resolve, e1, Deferred.ofValue, Sem.run_bind, Sem.run_pure, Result.andThen_ok, invoke, e2]
   ·cases hfn
  ·cases h
 ·cases h
end

def putV (ts : Tm) (dst : Option Tmp) (v : Value) : Tm :=
 match dst with
 | some d => tput ts d v
 | none => ts
theorem putV_ok {σ : Sg} {ts : Tm} {a : Act} {dst : Option Tmp} {v v' : Value} (h : RT σ ts a.tmps) (hv : renV σ v = some v') : RT σ (putV ts dst v) (a.put dst v').tmps := by
 cases dst with
 | none => exact h
 | some d => exact h.put d hv
def boolV (o : Option Value) : Option (Option Bool) :=
 match o with
 | some (.bool b) => some (some b)
 | some (.tuple _) => some none
 | some (.int _ _) => some none
 | _ => none
def wantV (ops : Array Oper) (ts : Tm) (o : Oper) : Option Bool :=
 match o.guard with
 | none => some true
 | some (j, want) => match ops[j]? with
  | some oj => match oj.dst with
   | some d => match boolV (tg ts d) with
    | some (some b) => some (b == want)
    | some none => some false
    | none => none
   | none => some false
  | none => some false
def yv : Option Value → Option Bool
 | some (.bool b) => some b
 | _ => none
theorem yv_getD (tmps : Array Value) (d : Nat) : yv tmps[d]? = yv (some (tmps.getD d undef)) := by
 rw [Array.getD_eq_getD_getElem?]
 cases tmps[d]? with
 | none => rfl
 | some x => rfl
theorem boolV_ok {σ : Sg} {o : Option Value} {x : Value} {r : Option Bool} (h : boolV o = some r) (ho : ∀ v, o = some v → renV σ v = some x) : yv (some x) = r := by
 unfold boolV at h
 split at h
 ·rename_i b; cases h; have hr := ho _ rfl; simp only [renV, oI] at hr; subst hr; rfl
 ·rename_i c; cases h; obtain ⟨c', rfl, _⟩ := Ic (ho _ rfl); rfl
 ·rename_i c; cases h; have hr := ho _ rfl; simp only [renV, oI] at hr; subst hr; rfl
 ·cases h
theorem K9 {σ : Sg} {ops : Array Oper} {ts : Tm} {o : Oper} {tmps : Array Value} {r : Bool} (h : wantV ops ts o = some r)
  (ht : ∀ j want oj d, o.guard = some (j, want) → ops[j]? = some oj → oj.dst = some d → ∀ v, tg ts d = some v → renV σ v = some (tmps.getD d undef)) : Region.wanted o (yielded ops tmps) = r := by
 unfold wantV at h
 unfold Region.wanted
 split at h
 ·rename_i hg; cases h; rw [hg]
 ·rename_i j want hg
  rw [hg]
  simp only
  unfold yielded
  split at h
  ·rename_i oj hj
   split at h
   ·rename_i d hd
    have t1 := ht j want oj d hg hj hd
    split at h
    ·rename_i b hb
     cases h
     have := boolV_ok (σ := σ) hb t1
     rw [← yv_getD] at this
     simp only [hj, Option.bind_some, hd]
     change (yv (tmps[d]?) == some want) = _
     rw [this]; cases b <;> cases want <;> rfl
    ·rename_i hb
     cases h
     have := boolV_ok (σ := σ) hb t1
     rw [← yv_getD] at this
     simp only [hj, Option.bind_some, hd]
     change (yv (tmps[d]?) == some want) = _
     rw [this]; rfl
    ·cases h
   ·rename_i hd; cases h; simp [hj, hd]
  ·rename_i hj; cases h; simp [hj]
abbrev St4 := Tm × Hp × Nat × List Nat
section
variable {E : Env} {call : FuncId → List Value → Hp → Nat → Option Out}
end
def memN (x : Nat) : List Nat → Bool
 | [] => false
 | y :: l => bif Nat.beq x y then true else memN x l
theorem Ki {x : Nat} : ∀ {l : List Nat}, memN x l = true ↔ x ∈ l
 | [] => by simp [memN]
 | y :: l => by
   simp only [memN]
   by_cases h : x = y
   ·subst h; simp
   ·rw [Ca h]; simp [Ki, h]
theorem En {x : Nat} {l : List Nat} (h : memN x l = false) : x ∉ l := fun hx => by rw [Ki.2 hx] at h; cases h
def uniN : List Nat → List Nat → List Nat
 | [], l => l
 | x :: k, l => bif memN x l then uniN k l else uniN k (x :: l)
def Lq : List Nat → List Nat → Bool
 | [], _ => true
 | x :: k, l => bif memN x l then false else Lq k l
theorem Jt {x : Nat} : ∀ {k l : List Nat}, Lq k l = true → x ∈ k → x ∉ l
 | [], l, _, hx => by cases hx
 | y :: k, l, h, hx => by
   simp only [Lq] at h
   cases hm : memN y l with
   | true => rw [hm] at h; cases h
   | false =>
    rw [hm] at h
    rcases List.mem_cons.1 hx with rfl | hx
    ·exact En hm
    ·exact Jt h hx

structure Msk where
 m : Nat
instance : Membership Nat Msk := ⟨fun s j => Nat.testBit s.m j = true⟩
def tB (s : Msk) (j : Nat) : Bool := Nat.testBit s.m j
theorem tB_iff {s : Msk} {j : Nat} : tB s j = true ↔ j ∈ s := Iff.rfl
structure Rec where
 lo : List Nat
 dst : Option Tmp
 val : Value
 nx : Nat
 nx' : Nat
 rd : List Nat
 ef : List (Nat × Option Rw)
 an : Msk
def Co : List (Nat × Option Rw) → Nat → Option (Option Rw)
 | [], _ => none
 | (m, r) :: t, n => bif Nat.beq m n then some r else Co t n
theorem Eb (m : Nat) (r : Option Rw) (t : List (Nat × Option Rw)) (n : Nat) : Co ((m, r) :: t) n = if m = n then some r else Co t n := by
 simp only [Co]
 by_cases h : m = n
 ·subst h; simp
 ·rw [Ca h]; simp [h]
theorem Dy {n : Nat} : ∀ {l : List (Nat × Option Rw)}, Co l n ≠ none → n ∈ l.map (·.1)
 | [], h => by simp [Co] at h
 | (m, r) :: t, h => by
   rw [Eb] at h
   split at h
   ·rename_i e; subst e; simp
   ·simp only [List.map_cons, List.mem_cons]; exact .inr (Dy h)
def appE : Hp → List (Nat × Option Rw) → Hp
 | h, [] => h
 | h, (n, some r) :: t => setH (appE h t) n r
 | h, (n, none) :: t => delH (appE h t) n
theorem M4 (h : Hp) (n : Nat) : ∀ l : List (Nat × Option Rw), lk (appE h l) n = match Co l n with | some o => o | none => lk h n
 | [] => rfl
 | (m, some r) :: t => by
   simp only [appE, Bo, Eb]
   split
   ·rfl
   ·exact M4 h n t
 | (m, none) :: t => by
   simp only [appE, Bf, Eb]
   split
   ·rfl
   ·exact M4 h n t
def efNew (nx : Nat) : Hp → List (Nat × Option Rw)
 | [] => []
 | (n, r) :: t => bif Nat.ble nx n then (n, some r) :: efNew nx t else efNew nx t
def efOld (h : Hp) : List Nat → List (Nat × Option Rw)
 | [] => []
 | n :: d => (n, lk h n) :: efOld h d
theorem Jr (nx n : Nat) : ∀ h : Hp, Co (efNew nx h) n = if nx ≤ n then (lk h n).map some else none
 | [] => by simp [efNew, Co, lk]
 | (m, r) :: t => by
   simp only [efNew]
   by_cases hm : nx ≤ m
   ·rw [Nat.ble_eq_true_of_le hm]
    simp only [cond_true, Eb, B3, Jr nx n t]
    split
    ·rename_i e; subst e; simp [hm]
    ·rfl
   ·have : Nat.ble nx m = false := by
     cases hb : Nat.ble nx m with
     | false => rfl
     | true => exact absurd (Nat.le_of_ble_eq_true hb) hm
    rw [this]
    simp only [cond_false, B3, Jr nx n t]
    split
    ·rename_i h1
     rw [if_neg (by omega)]
    ·rfl
theorem Lo (h : Hp) (n : Nat) : ∀ d : List Nat, Co (efOld h d) n = if n ∈ d then some (lk h n) else none
 | [] => by simp [efOld, Co]
 | m :: d => by
   simp only [efOld, Eb, Lo h n d, List.mem_cons]
   by_cases e : m = n
   ·subst e; simp
   ·simp [e, Ne.symm e]
theorem assoc_app (a b : List (Nat × Option Rw)) (n : Nat) : Co (a ++ b) n = match Co a n with | some o => some o | none => Co b n := by
 induction a with
 | nil => rfl
 | cons x a ih =>
  obtain ⟨m, r⟩ := x
  simp only [List.cons_append, Eb, ih]
  split <;> rfl

def loN (ops : Array Oper) (o : Oper) : List Nat :=
 (o.op.operands.toList.filterMap fun | .tmp t => some t | _ => none) ++
 (match o.guard with
  | some (g, _) => match ops[g]? with | some og => (match og.dst with | some d => [d] | none => []) | none => []
  | none => [])
def evR (lo : List Nat) (ts : Tm) : Operand → Option Value
 | .tmp t => bif memN t lo then tg ts t else none
 | x => evA ts x
def ancV (past : List Rec) : List Edge → Option Msk
 | [] => some ⟨0⟩
 | e :: es => match ancV past es with
  | none => none
  | some l => bif Region.binds .any e then (match past[e.on]? with
   | some p => some ⟨Nat.lor (Nat.lor (2 ^ e.on) p.an.m) l.m⟩
   | none => none) else some l
def bigOp : Op → Bool
 | .call ⟨.value _, _, _⟩ => true
 | .call ⟨.builtin .append, _, _⟩ => true
 | .call ⟨.builtin .copy, _, _⟩ => true
 | _ => false
def blkN : Option Value → List Nat
 | some (.pointer (some a)) => [a.block]
 | some (.slice (some a) _ _) => [a.block]
 | some (.map (some n)) => [n]
 | _ => []
def blkS : Option Value → List Nat
 | some (.slice (some a) _ _) => [a.block]
 | _ => []
def rdsV (ev : Operand → Option Value) : Op → List Nat
 | .load _ x => blkN (ev x)
 | .convert _ _ x => blkN (ev x)
 | .store _ x _ => blkN (ev x)
 | .slice _ x _ _ none => blkS (ev x)
 | .lookup _ x _ _ => blkN (ev x)
 | _ => []
def pickH (h : Hp) : List Nat → Hp
 | [] => []
 | n :: l => match lk h n with | some r => (n, r) :: pickH h l | none => pickH h l
def Lv (l : List Nat) : Hp → Hp
 | [] => []
 | (n, r) :: t => bif memN n l then Lv l t else (n, r) :: Lv l t
theorem lk_pickH {h : Hp} {n : Nat} {r : Rw} : ∀ {l : List Nat}, lk (pickH h l) n = some r → lk h n = some r
 | [], e => by simp [pickH, lk] at e
 | m :: l, e => by
   simp only [pickH] at e
   split at e
   ·rename_i s hs
    rw [B3] at e
    split at e
    ·rename_i e1; subst e1; rw [hs]; exact e
    ·exact lk_pickH e
   ·exact lk_pickH e
theorem lk_dropH {n : Nat} {r : Rw} (l : List Nat) : ∀ {h : Hp}, lk (Lv l h) n = some r → lk h n = some r
 | [], e => by simp [Lv, lk] at e
 | (m, s) :: t, e => by
   simp only [Lv] at e
   rw [B3]
   cases hm : memN m l with
   | true =>
    rw [hm] at e
    simp only [cond_true] at e
    split
    ·rename_i e1
     subst e1
     exfalso
     have key : ∀ t : Hp, lk (Lv l t) m = none := by
      intro t
      induction t with
      | nil => rfl
      | cons x t ih =>
       obtain ⟨k, u⟩ := x
       simp only [Lv]
       cases hk : memN k l with
       | true => simpa using ih
       | false =>
        simp only [cond_false, B3]
        split
        ·rename_i e2; subst e2; rw [hm] at hk; cases hk
        ·exact ih
     rw [key] at e
     cases e
    ·exact lk_dropH l e
   | false =>
    rw [hm] at e
    simp only [cond_false, B3] at e
    split at e
    ·rename_i e1; rw [if_pos e1]; exact e
    ·rename_i e1; rw [if_neg e1]; exact lk_dropH l e
theorem Hz {h : Hp} {n : Nat} {r : Rw} (e : lk h n = some r) : n ∈ h.map (·.1) := by
 induction h with
 | nil => simp [lk] at e
 | cons x h ih =>
  obtain ⟨m, s⟩ := x
  rw [B3] at e
  split at e
  ·rename_i e1; subst e1; simp
  ·simp only [List.map_cons, List.mem_cons]; exact .inr (ih e)

def tchUn (an : Msk) : Nat → List Rec → List Nat
 | _, [] => []
 | i, p :: ps => match p.ef with
  | [] => tchUn an (i + 1) ps
  | _ => bif tB an i then tchUn an (i + 1) ps else uniN (p.ef.map (·.1)) (tchUn an (i + 1) ps)
def dstIn (d : Option Tmp) (l : List Nat) : Bool := match d with | some t => memN t l | none => false
def dstEq (a b : Option Tmp) : Bool := match a, b with | some x, some y => Nat.beq x y | _, _ => false
def K8 (p r : Rec) : Bool :=
 bif dstIn p.dst r.lo then false else bif dstIn r.dst p.lo then false else bif dstEq p.dst r.dst then false else
 bif (match p.ef with | [] => true | _ => bif Lq (p.ef.map (·.1)) r.rd then Lq (p.ef.map (·.1)) (r.ef.map (·.1)) else false) then (match r.ef with | [] => true | _ => Lq p.rd (r.ef.map (·.1))) else false
def chkV (an : Msk) (r : Rec) : Nat → List Rec → Bool
 | _, [] => true
 | i, p :: ps => bif K8 p r then chkV an r (i + 1) ps else bif tB an i then chkV an r (i + 1) ps else false
def oldN (nx : Nat) : List (Nat × Option Rw) → List Nat
 | [] => []
 | (n, _) :: t => bif Nat.blt n nx then n :: oldN nx t else oldN nx t
def dirtyV (nx : Nat) : List Rec → List Nat
 | [] => []
 | r :: rs => oldN nx r.ef ++ dirtyV nx rs
end Go.Proofs.Ytojakfnljopjbaa
