/-
  The machine that runs in the kernel, part Ka: rows that are no cells; maps; further cuts and appends of grown slices; clear.
-/
import Derived.Test.YtmoflcoijmmpjaaGrAE
import Derived.LoopNIn
import Derived.MapKept
import Derived.Lib.AppendZerosOnto
namespace Go.Proofs.Ytmoflcoijmmpjaa
set_option linter.unusedSimpArgs false
set_option linter.unusedVariables false
set_option linter.unusedSectionVars false
open Go Go.RowKit

section
variable {W : World} {lo hi : Nat} {σ τ : Sg} {h h1 : Hp} {w w1 : World}
theorem Stp.allocO (hR : Rl W σ h w) {nx : Nat} (hf : Fresh σ nx (nx + 1)) (o : Obj) (kd : Kd) (hk : KdOk W (σ.bind nx (w.heap.size, 0)) (w.alloc o) nx w.heap.size 0 [] kd) :
  Stp W nx (nx + 1) σ h w (σ.bind nx (w.heap.size, 0)) ((nx, ⟨kd, []⟩) :: h) (w.alloc o) := by
 have hle : σ.le (σ.bind nx (w.heap.size, 0)) := Sg.le_bind (hf nx (Nat.le_refl _) (by omega)).1
 have hblk : ∀ b, b < w.heap.size → (w.alloc o).heap[b]? = w.heap[b]? := fun b hb => Below.block ((Ext.refl w).alloc _) b hb
 refine Stp0.up ⟨hle, fun n hn => ?_, ⟨hR.ext.alloc _, fun n r hl => ?_, fun n m r s p q hn hm hr hs hp hq e => ?_⟩, by simp, fun b hb _ _ => hblk b hb, fun n r p hl ho hb => ?_⟩ hR.shr hR.wf (bind_shr hR.shr)
 ·simp only [Sg.bind, and_true]; rw [if_neg (by omega)]
 ·rw [lk_cons] at hl
  split at hl
  ·rename_i e; subst e
   cases hl
   exact ⟨w.heap.size, 0, [], by simp [Sg.bind], rfl, hk⟩
  ·exact hR.keepA hl hle hblk
 ·rw [lk_cons] at hn hm
  simp only [Sg.bind] at hp hq
  split at hn
  ·rename_i e1; subst e1
   split at hm
   ·assumption
   ·rename_i e2
    rw [if_neg (Ne.symm e2)] at hq
    rw [if_pos rfl] at hp
    have := hR.lt hm hs hq
    simp only [oI] at hp
    subst hp
    simp at e; omega
  ·rename_i e1
   rw [if_neg (Ne.symm e1)] at hp
   split at hm
   ·rename_i e2; subst e2
    rw [if_pos rfl] at hq
    have := hR.lt hn hr hp
    simp only [oI] at hq
    subst hq
    simp at e; omega
   ·rename_i e2
    rw [if_neg (Ne.symm e2)] at hq
    exact hR.inj n m r s p q hn hm hr hs hp hq e
 ·rw [lk_cons] at hl
  simp only [Sg.bind] at hb
  split at hl
  ·rename_i e; subst e; rw [if_pos rfl] at hb; simp only [oI] at hb; subst hb; exact .inl (Nat.le_refl _)
  ·rename_i e; rw [if_neg (Ne.symm e)] at hb; exact .inr ⟨n, r, p, hl, ho, hb, rfl⟩
theorem Rl.others (hR : Rl W σ h w) {n : Nat} {r : Rw} (hl : lk h n = some r) (ho : r.own) {p : Nat × Nat} (hb : σ.b n = some p) (o : Obj) {m : Nat} {s : Rw} (hm : lk h m = some s) (hne : m ≠ n) : RowOk W σ (w.putObj p.1 o) m s :=
 hR.keepW hl ho hb hm hne (Sg.le.refl σ) fun b hb' => World.putObj_heap_other hb'
theorem Ext.putObj (hx : Ext W w) {b : Nat} (hb : W.heap.size ≤ b) (o : Obj) : Ext W (w.putObj b o) :=
 Ext.grown hx (grownBy_putObj' w b o) fun r e => by cases e; exact hb
theorem Stp.wipe (hR : Rl W σ h w) {n : Nat} {r : Rw} (hl : lk h n = some r) (ho : r.own) {p : Nat × Nat} (hb : σ.b n = some p) (o : Obj) (lo : Nat) : Stp W lo lo σ h w σ (delH h n) (w.putObj p.1 o) := by
 have hd : ∀ m s, lk (delH h n) m = some s → lk h m = some s ∧ m ≠ n := fun m s e => by
  rw [lk_delH] at e
  split at e
  ·cases e
  ·rename_i hne; exact ⟨e, Ne.symm hne⟩
 exact Stp0.up ⟨Sg.le.refl σ, fun _ _ => ⟨rfl, rfl⟩, ⟨Ext.putObj hR.ext (hR.ge hl ho hb).1 o, fun m s e => hR.others hl ho hb o (hd m s e).1 (hd m s e).2, fun m k s t p q a b => hR.inj m k s t p q (hd _ _ a).1 (hd _ _ b).1⟩,
  by simp, fun b hb' hno _ => World.putObj_heap_other fun e => hno n r p hl ho hb e.symm, fun m s q e hs hq => .inr ⟨m, s, q, (hd _ _ e).1, hs, hq, rfl⟩⟩ hR.shr hR.wf (hR.shr.sub fun m s e => ⟨s, (hd _ _ e).1, fun h => h⟩)
theorem Stp.turn (hR : Rl W σ h w) {n : Nat} {r : Rw} (hl : lk h n = some r) (ho : r.own) {p : Nat × Nat} (hb : σ.b n = some p) (o : Obj) (kd : Kd) (hkd : ¬ ShKd kd) (hk : KdOk W σ (w.putObj p.1 o) n p.1 p.2 [] kd) (lo : Nat) :
  Stp W lo lo σ h w σ (setH h n ⟨kd, []⟩) (w.putObj p.1 o) := by
 have hd : ∀ m s, lk (setH h n ⟨kd, []⟩) m = some s → (m = n ∧ s = ⟨kd, []⟩) ∨ (lk h m = some s ∧ m ≠ n) := fun m s e => by
  rw [lk_setH] at e
  split at e
  ·rename_i hm; cases e; exact .inl ⟨hm.symm, rfl⟩
  ·rename_i hne; exact .inr ⟨e, Ne.symm hne⟩
 have conv : ∀ m s, lk (setH h n ⟨kd, []⟩) m = some s → s.own → ∃ s', lk h m = some s' ∧ s'.own := fun m s e hs => by
  rcases hd m s e with ⟨rfl, _⟩ | ⟨e, _⟩
  ·exact ⟨r, hl, ho⟩
  ·exact ⟨s, e, hs⟩
 refine Stp0.up ⟨Sg.le.refl σ, fun _ _ => ⟨rfl, rfl⟩, ⟨Ext.putObj hR.ext (hR.ge hl ho hb).1 o, fun m s e => ?_, fun m k s t p q a b hs ht c d e => ?_⟩,
  by simp, fun b hb' hno _ => World.putObj_heap_other fun e => hno n r p hl ho hb e.symm, fun m s q e hs hq => ?_⟩ hR.shr hR.wf (setH_shr hR.shr hl ho)
 ·rcases hd m s e with ⟨rfl, rfl⟩ | ⟨e, hne⟩
  ·exact ⟨p.1, p.2, [], hb, rfl, hk⟩
  ·exact hR.others hl ho hb o e hne
 ·obtain ⟨s', a', hs'⟩ := conv m s a hs
  obtain ⟨t', b', ht'⟩ := conv k t b ht
  exact hR.inj m k s' t' p q a' b' hs' ht' c d e
 ·obtain ⟨s', a', hs'⟩ := conv m s e hs
  exact .inr ⟨m, s', q, a', hs', hq, rfl⟩
end

def fixK : Value → Bool
 | .agg ⟨[.int _ _, .int _ _]⟩ => true
 | _ => false
theorem fixK_ren (σ : Sg) {k : Value} (h : fixK k = true) : renV σ k = some k := by
 unfold fixK at h
 split at h
 ·exact renV_agg_mk rfl
 ·cases h
def keyT (P : Program) (t : TypeId) : Bool := match P.underlying t with
 | some (.array 2 e) => match P.underlying e, P.info? e with
  | some (.int _), some i => Nat.beq i.size 1
  | _, _ => false
 | _ => false
def findV (P : Program) (t : TypeId) (k : Value) : List (Value × Value) → Option (Option Value)
 | [] => some none
 | (k', v) :: es => bif fixK k' then (match eqV P 10000 t k k' with
  | some true => some (some v)
  | some false => findV P t k es
  | none => none) else none
section
variable {P : Program} {w : World}
theorem keyT_ok {t : TypeId} (h : keyT P t = true) : ∃ e k i, P.underlying t = some (.array 2 e) ∧ P.underlying e = some (.int k) ∧ P.info? e = some i ∧ i.size = 1 := by
 unfold keyT at h
 split at h
 ·rename_i e hu
  split at h
  ·rename_i k i hu2 hi
   exact ⟨e, k, i, hu, hu2, hi, Nat.eq_of_beq_eq_true h⟩
  ·cases h
 ·cases h
theorem check_ok {t : TypeId} (h : keyT P t = true) {k : Value} (hk : fixK k = true) (b : Bool) : (Instr.checkKey b 10000 t k).run P w = .ok () w := by
 obtain ⟨e, kk, i, h1, h2, h3, h4⟩ := keyT_ok h
 unfold fixK at hk
 split at hk
 case h_2 => cases hk
 rename_i k1 a k2 c
 have hc : ∀ v : Value, (∃ k n, v = .int k n) → (Instr.checkKey b 9999 e v).run P w = .ok () w := by
  rintro v ⟨k, n, rfl⟩
  unfold Instr.checkKey
  simp [run_underlying h2]
 have h5 := hc (.int k1 a) ⟨_, _, rfl⟩
 have h6 := hc (.int k2 c) ⟨_, _, rfl⟩
 unfold Instr.checkKey
 simp [run_underlying h1, run_underlying h2, sizeOf, typeInfo, h3, h4, part, isAgg, Std.Legacy.Range.forIn_eq_forIn_range', List.range'_succ, h5, h6]
theorem ask_ok {t : TypeId} {k : Value} (hk : fixK k = true) : ∀ (A : List MapEntry) (j : Nat) (r : Option Value), findV P t k (A.map fun e => (e.key, e.val)) = some r → (match r with
  | none => (Instr.findAsking t k A j).run P w = .ok none w
  | some v => ∃ i, (Instr.findAsking t k A j).run P w = .ok (some (i, v)) w)
 | [], j, r, h => by
   simp only [List.map_nil, findV, oI] at h
   subst h
   rfl
 | a :: A, j, r, h => by
   simp only [List.map_cons, findV] at h
   cases hf : fixK a.key with
   | false => rw [hf] at h; cases h
   | true =>
    rw [hf] at h
    simp only [cond_true] at h
    split at h
    ·rename_i he
     cases h
     have := eqV_ok (P := P) (σ := ⟨fun _ => none, fun _ => none, fun _ => none, fun _ => none, true⟩) (w := w) 10000 t k a.key k a.key true he (fixK_ren _ hk) (fixK_ren _ hf)
     have e2 : (Op.equal t k a.key).run P w = .ok true w := this
     exact ⟨j, by simp [Instr.findAsking, e2]⟩
    ·rename_i he
     have := eqV_ok (P := P) (σ := ⟨fun _ => none, fun _ => none, fun _ => none, fun _ => none, true⟩) (w := w) 10000 t k a.key k a.key false he (fixK_ren _ hk) (fixK_ren _ hf)
     have e2 : (Op.equal t k a.key).run P w = .ok false w := this
     have ih := ask_ok hk A (j + 1) r h
     cases r with
     | none => simpa [Instr.findAsking, e2] using ih
     | some v => simpa [Instr.findAsking, e2] using ih
    ·cases h
theorem find_ok {t : TypeId} (ht : keyT P t = true) {k : Value} (hk : fixK k = true) {A : List MapEntry} {r : Option Value} (h : findV P t k (A.map fun e => (e.key, e.val)) = some r) : (match r with
  | none => (Instr.findKey t k A).run P w = .ok none w
  | some v => ∃ i, (Instr.findKey t k A).run P w = .ok (some (i, v)) w) := by
 obtain ⟨e, kk, i, h1, h2, h3, h4⟩ := keyT_ok ht
 have key : (Instr.findKey t k A).run P w = (Instr.findAsking t k A 0).run P w := by
  cases A with
  | nil => simp [Instr.findKey, run_underlying h1, Instr.findNow, Instr.findAsking]
  | cons a A => simp [Instr.findKey, run_underlying h1, Instr.findNow, Instr.sameNow]
 have := ask_ok (P := P) (w := w) hk A 0 r h
 cases r with
 | none => rw [key]; exact this
 | some v => obtain ⟨i, hi⟩ := this; exact ⟨i, by rw [key]; exact hi⟩
end
def mapEs (h : Hp) : Value → Option (List (Value × Value))
 | .map none => some []
 | .map (some n) => match lk h n with
  | some ⟨.mp es, _⟩ => some es
  | _ => none
 | _ => none
def lookV (P : Program) (h : Hp) (t : TypeId) (x i : Value) (ok : Bool) : Option Value :=
 match P.underlying t with
 | some (.map kt et) => match mapEs h x, P.info? et with
  | some es, some inf => bif keyT P kt && fixK i then (match findV P kt i es, inf.zero with
   | some (some v), _ => bif noAd v then some (bif ok then .tuple ⟨[v, .bool true]⟩ else v) else none
   | some none, some z => bif noAd z then some (bif ok then .tuple ⟨[z, .bool false]⟩ else z) else none
   | _, _ => none) else none
  | _, _ => none
 | _ => none
section
variable {P : Program} {W : World} {σ : Sg} {h : Hp} {w : World}
theorem mapEs_ok (hR : Rl W σ h w) {x x' : Value} {es : List (Value × Value)} (hm : mapEs h x = some es) (hx : renV σ x = some x') :
  (x' = .map none ∧ es = []) ∨ ∃ n r p A k, x = .map (some n) ∧ lk h n = some ⟨.mp es, r⟩ ∧ σ.b n = some p ∧ p.2 = 0 ∧ x' = .map (some p.1) ∧ w.heap[p.1]? = some (.map A k) ∧ A.toList.map (fun e => (e.key, e.val)) = es := by
 unfold mapEs at hm
 split at hm
 ·cases hm
  simp only [renV, oI] at hx
  exact .inl ⟨hx.symm, rfl⟩
 ·rename_i n
  split at hm
  ·rename_i es' cs hl
   cases hm
   obtain ⟨b, s, vs, hb, hv, h1, h2, h3, A, k, e, h4⟩ := hR.row _ _ hl
   simp only [renV, hb, oI] at hx
   exact .inr ⟨n, cs, (b, s), A, k, rfl, hl, hb, h1, hx.symm, e, h4⟩
  ·cases hm
 ·cases hm
theorem lookV_ok (hR : Rl W σ h w) {t : TypeId} {x i x' i' v : Value} {ok : Bool} (hv : lookV P h t x i ok = some v) (hx : renV σ x = some x') (hi : renV σ i = some i') :
  renV σ v = some v ∧ (Instr.lookup t x' i' ok).run P w = .ok v w := by
 unfold lookV at hv
 split at hv
 case h_2 => cases hv
 rename_i kt et hu
 split at hv
 case h_2 => cases hv
 rename_i es inf hes hinf
 cases hg : (keyT P kt && fixK i) with
 | false => rw [hg] at hv; cases hv
 | true =>
  rw [hg] at hv
  simp only [cond_true] at hv
  simp only [Bool.and_eq_true] at hg
  have hkf := hg.2
  rw [fixK_ren σ hkf] at hi
  cases hi
  have hsrc : ∃ A : Array MapEntry, A.toList.map (fun e => (e.key, e.val)) = es ∧ ((x' = .map none ∧ A = #[]) ∨ ∃ r k, x' = .map (some r) ∧ w.heap[r]? = some (.map A k)) := by
   rcases mapEs_ok hR hes hx with ⟨rfl, rfl⟩ | ⟨n, r, p, A, k, _, _, _, _, rfl, hA, he⟩
   ·exact ⟨#[], rfl, .inl ⟨rfl, rfl⟩⟩
   ·exact ⟨A, he, .inr ⟨p.1, k, rfl, hA⟩⟩
  obtain ⟨A, hAe, hA⟩ := hsrc
  have hck := check_ok (P := P) (w := w) hg.1 hkf
  have hrun1 : ∀ v, findV P kt i es = some (some v) → (Instr.lookup t x' i ok).run P w = .ok (if ok then Value.tuple #[v, .bool true] else v) w := by
   intro v hr
   rw [← hAe] at hr
   obtain ⟨j, hj⟩ := find_ok (P := P) (w := w) hg.1 hkf hr
   rcases hA with ⟨rfl, rfl⟩ | ⟨r', k', rfl, hA⟩
   ·simp [findV] at hr
   ·simp [Instr.lookup, run_underlying hu, MapKept.run_getObj_map hA, hck, hj]
  have hrun2 : ∀ z, findV P kt i es = some none → inf.zero = some z → (Instr.lookup t x' i ok).run P w = .ok (if ok then Value.tuple #[z, .bool false] else z) w := by
   intro z hr hz
   rw [← hAe] at hr
   have hf := find_ok (P := P) (w := w) hg.1 hkf hr
   simp only at hf
   rcases hA with ⟨rfl, rfl⟩ | ⟨r', k', rfl, hA⟩
   ·simp only [Array.toList_empty] at hf
    simp [Instr.lookup, run_underlying hu, hck, hf, zeroValue, typeInfo, hinf, hz]
   ·simp [Instr.lookup, run_underlying hu, MapKept.run_getObj_map hA, hck, hf, zeroValue, typeInfo, hinf, hz]
  split at hv
  ·rename_i u hf
   cases hn : noAd u with
   | false => rw [hn] at hv; cases hv
   | true =>
    rw [hn] at hv
    simp only [cond_true, oI] at hv
    subst hv
    have hu' := noAd_ren σ hn
    refine ⟨?_, ?_⟩
    ·cases ok with
     | true => exact renV_tuple_mk (by simp only [renL, hu', renV, cond_true])
     | false => exact hu'
    ·rw [hrun1 _ hf]
     cases ok <;> rfl
  ·rename_i z hf hz
   cases hn : noAd z with
   | false => rw [hn] at hv; cases hv
   | true =>
    rw [hn] at hv
    simp only [cond_true, oI] at hv
    subst hv
    have hu' := noAd_ren σ hn
    refine ⟨?_, ?_⟩
    ·cases ok with
     | true => exact renV_tuple_mk (by simp only [renL, hu', renV, cond_true])
     | false => exact hu'
    ·rw [hrun2 _ hf hz]
     cases ok <;> rfl
  ·cases hv
end
def Bd (h : Hp) (nx : Nat) : Prop := ∀ n, nx ≤ n → lk h n = none
abbrev Out := Value × Hp × Nat × List Nat
def appN (P : Program) (h : Hp) (nx : Nat) (t tx : TypeId) (s x : Value) : Option Out :=
 match P.underlying t, P.underlying tx, s, x with
 | some (.slice e), some (.int _), .slice (some ⟨m, o, none⟩) len cap, .int _ k => match P.info? e with
  | some i => match i.zero, cellsAt h m o (len * i.size) with
   | some z, some olds => bif noAdL z.cells.toList && decide (0 < k) && Nat.beq z.cells.toList.length i.size && Nat.ble 1 i.size && Nat.blt cap capBig && Nat.blt cap (len + k.toNat) && Nat.ble ((len + k.toNat) * i.bytes) 140737488355328 && Nat.ble (len + k.toNat) 9223372036854775807 then
     some (.slice (some ⟨nx, 0, none⟩) (len + k.toNat) (capBig + nx), (nx, ⟨.room i.size z.cells.toList, olds ++ zrep z.cells.toList (k.toNat * i.size)⟩) :: h, nx + 1, []) else none
   | _, _ => none
  | none => none
 | _, _, _, _ => none
theorem zeroCells_rep {z : Array Value} (h0 : 0 < z.size) (n : Nat) : (Builtin.zeroCells z n).toList = zrep z.toList (n * z.size) := zrep_made h0 (n * z.size)
theorem appN_ok {P : Program} {W : World} {σ : Sg} {h : Hp} {w : World} (hR : Rl W σ h w) {nx nx' : Nat} {t tx ty : TypeId} {s x s' x' v : Value} {h' : Hp} {dd : List Nat} (hc : appN P h nx t tx s x = some (v, h', nx', dd)) (hf : Fresh σ nx nx') (hs : renV σ s = some s') (hx : renV σ x = some x') :
  ∃ σ' w' v', Stp W nx nx' σ h w σ' h' w' ∧ renV σ' v = some v' ∧ (Builtin.append_ #[t, tx] ty #[s', x']).run P w = .ok v' w' := by
 unfold appN at hc
 split at hc
 case h_2 => cases hc
 rename_i e kn m o len cap kq k ht htn
 split at hc
 case h_2 => cases hc
 rename_i i hi
 split at hc
 case h_2 => cases hc
 rename_i z olds hz hcells
 cases hg : (noAdL z.cells.toList && decide (0 < k) && Nat.beq z.cells.toList.length i.size && Nat.ble 1 i.size && Nat.blt cap capBig && Nat.blt cap (len + k.toNat) && Nat.ble ((len + k.toNat) * i.bytes) 140737488355328 && Nat.ble (len + k.toNat) 9223372036854775807) with
 | false => rw [hg] at hc; cases hc
 | true =>
  rw [hg] at hc
  simp only [cond_true, oI, pI] at hc
  obtain ⟨rfl, rfl, rfl, rfl⟩ := hc
  simp only [Bool.and_eq_true, decide_eq_true_eq, Nat.ble_eq] at hg
  obtain ⟨⟨⟨⟨⟨⟨⟨g0, g1⟩, g2⟩, g3⟩, g4⟩, g5⟩, g6⟩, g7⟩ := hg
  have hzs : z.cells.size = i.size := by have := Nat.eq_of_beq_eq_true g2; simpa using this
  have g4' : cap < capBig := Nat.le_of_ble_eq_true g4
  have g5' : cap < len + k.toNat := Nat.le_of_ble_eq_true g5
  obtain ⟨q, rfl⟩ := Int.eq_ofNat_of_zero_le (Int.le_of_lt g1)
  simp only [Int.toNat_natCast] at g5' g6 g7 ⊢
  simp only [renV, oI] at hx
  subst hx
  have hbase : ∃ base, s' = .slice base len cap ∧ ∃ vo, renL σ olds = some vo ∧ vo.length = len * i.size ∧ (Builtin.firstCells i.size len (.slice base len cap)).run P w.drew = .ok vo.toArray w.drew := by
   obtain ⟨p', vo, hb', hvo, hvl, hol, hcell⟩ := cellsAt_ok hR hcells
   rcases renV_slice hs with ⟨p, cap', hb, hcp, rfl, _⟩ | ⟨_, rfl, hcp, rfl⟩
   ·rw [cpR_of g4' (Nat.le_refl _)] at hcp
    cases hcp
    rw [hb] at hb'
    cases hb'
    exact ⟨_, rfl, vo, hvo, hvl, run_firstCells_some (P := P) w.drew i.size len ⟨p'.1, p'.2 + o, none⟩ len cap vo hvl (fun j u hj => by rw [addr_add]; exact hcell j u hj)⟩
   ·rw [cpR_of g4' (Nat.le_refl _)] at hcp
    obtain rfl : cap = 0 := Option.some.inj hcp
    obtain rfl := List.eq_nil_of_length_eq_zero (hvl.trans (Nat.zero_mul _))
    exact ⟨_, rfl, [], hvo, by simp, run_firstCells_empty w.drew i.size _ 0⟩
  obtain ⟨base, rfl, vo, hvo, hvl, hold⟩ := hbase
  have hfit := growslice_fits g5' g6
  have hq : 0 < q := by omega
  have hrun := Go.Lib.run_append_grow_zeros (P := P) w t tx ty e i z kq kn ht htn hi hz base len cap vo hold q hq (by omega) g5' (by omega) (by have := Nat.mul_le_mul_right i.bytes (Nat.le_add_left q len); omega) hfit
  have hge := grownCap_ge w (len + q) cap e
  have hle := grownCap_le_maxLen w (len + q) cap e (by unfold maxLen; omega)
  have hd := Stp.drew hR nx
  have hzl : 0 < z.cells.size := by omega
  have hzq : (Builtin.zeroCells z.cells q).toList = zrep z.cells.toList (q * i.size) := by rw [zeroCells_rep hzl, hzs]
  have hno : noAdL z.cells.toList = true := g0
  have hn : renL σ (zrep z.cells.toList (q * i.size)) = some (zrep z.cells.toList (q * i.size)) := zrep_ren σ hno (by simpa using hzl) _
  have hzrl : (zrep z.cells.toList (q * i.size)).length = q * i.size := by rw [← hzq, Array.length_toList, size_zeroCells, hzs]
  have hlen : (vo ++ zrep z.cells.toList (q * i.size) ++ (Builtin.zeroCells z.cells (grownCap w (len + q) cap e - (len + q))).toList).length = grownCap w (len + q) cap e * i.size := by
   rw [List.length_append, List.length_append, hvl, hzrl, Array.length_toList, size_zeroCells, hzs, ← Nat.add_mul, ← Nat.add_mul]
   congr 1
   omega
  have hgw := Stp.grow hd.rl hf (renL_app hvo hn) e (rest := (Builtin.zeroCells z.cells (grownCap w (len + q) cap e - (len + q))).toList) hlen hle (z := z.cells.toList) zero_mem
  refine ⟨_, _, _, hd.trans hgw (Nat.le_refl _) (by omega), bindc_self (by omega), ?_⟩
  rw [hrun]
  congr 2
  apply congrArg (fun q => Obj.cells q e (0, 0))
  apply Array.toList_inj.1
  simp [hzq]
def appR (P : Program) (h : Hp) (nx : Nat) (t tx : TypeId) (s x : Value) : Option Out :=
 match P.underlying t, s with
 | some (.slice e), .slice (some ⟨m, o, none⟩) len cap => match P.info? e, lk h m with
  | some i, some ⟨.room sz zz, cs⟩ => match srcV P h i.size tx x with
   | some (n, news) => bif Nat.beq cap (capBig + m) && Nat.beq o 0 && Nat.beq sz i.size && Nat.blt 0 sz && Nat.ble ((len + n) * sz) cs.length then
     some (.slice (some ⟨m, 0, none⟩) (len + n) cap, setH h m ⟨.room sz zz, splice cs (len * sz) news⟩, nx, [m]) else none
   | none => none
  | _, _ => none
 | _, _ => none
def builtV (P : Program) (ev : Operand → Option Value) (h : Hp) (nx : Nat) (b : Builtin) (args : List Operand) (ts : List TypeId) : Option Out :=
 match b, ts, evL ev args with
 | .append, [t, tx], some [s, x] => match appV P h nx t tx s x with
  | some r => some r
  | none => match appN P h nx t tx s x with
   | some r => some r
   | none => appR P h nx t tx s x
 | .copy, [t, tx], some [d, x] => match copyV P h t tx d x with
  | some (v, h', dd) => some (v, h', nx, dd)
  | none => none
 | _, _, _ => none
def markV (P : Program) (h : Hp) (s t : TypeId) (u : Value) : Option (Nat × Hp) :=
 bif Nat.beq s t then (match P.underlying s, u with
  | some (.slice e), .slice (some ⟨n, _, none⟩) _ _ => match P.underlying e, lk h n with
   | some (.int .u8), some ⟨.shut, cs⟩ => some (n, setH h n ⟨.lent, cs⟩)
   | _, _ => none
  | _, _ => none) else none
def slcN (P : Program) (ev : Operand → Option Value) (h : Hp) (nx : Nat) : Op → Option Out
 | .slice t x lo hi mx => match P.underlying t, ev x, evO ev lo, evO ev hi, evO ev mx with
  | some (.slice e), some (.slice (some ⟨n, o, none⟩) len cap), some l0, some u0, some m0 => match P.info? e, lk h (cap - capBig) with
   | some i, some ⟨.room sz _, cs⟩ => bif Nat.ble capBig cap && Nat.beq sz i.size && Nat.blt 0 sz && Nat.beq cap (capBig + n) then
     (match bdsV len (cs.length / sz) l0 u0 m0 with
     | some (l, u, m) => (match m0 with
      | some _ => bif Nat.blt m capBig then some (.slice (some ⟨n, bif Nat.beq m l then o else o + l * sz, none⟩) (u - l) (m - l), h, nx, []) else none
      | none => bif Nat.blt l (cs.length / sz) then some (.slice (some ⟨n, o + l * sz, none⟩) (u - l) (capBig + nx), h, nx + 1, []) else some (.slice (some ⟨nx, 0, none⟩) (u - l) (capBig + nx), h, nx + 1, []))
     | none => none) else none
   | _, _ => none
  | _, _, _, _, _ => none
 | _ => none
theorem bdV_up {v : Option Value} {d d' k c r : Nat} (hn : v ≠ none) (h : bdV v d k = some r) (hc : k ≤ c) : bdV v d' c = some r := by
 unfold bdV at *
 split at h
 ·exact (hn rfl).elim
 ·rename_i kk i
  by_cases hi : 0 ≤ i ∧ i ≤ (k : Int)
  ·have h2 : 0 ≤ i ∧ i ≤ (c : Int) := ⟨hi.1, by omega⟩
   simp only [hi, and_self, decide_true, cond_true] at h
   simp only [h2, and_self, decide_true, cond_true]
   exact h
  ·simp only [hi, decide_false, cond_false] at h; cases h
 ·cases h
theorem bdsV_eq {len k l u m m1 : Nat} {lo hi mx : Option Value} (hm : bdV mx k k = some m1) (hu : bdV hi len m1 = some u) (hl : bdV lo 0 u = some l) (hno : hi = none → mx = none) : bdsV len k lo hi mx = some (l, u, m1) := by
 unfold bdsV
 rw [hm]
 cases hi with
 | none => cases mx with
  | none => dsimp only; rw [hu]; dsimp only; rw [hl]
  | some z => cases hno rfl
 | some y => dsimp only; rw [hu]; dsimp only; rw [hl]
theorem bdsV_inv {len k l u m : Nat} {lo hi mx : Option Value} (h : bdsV len k lo hi mx = some (l, u, m)) : bdV mx k k = some m ∧ bdV hi len m = some u ∧ bdV lo 0 u = some l ∧ (hi = none → mx = none) := by
 unfold bdsV at h
 split at h
 ·cases h
 ·rename_i m' hm
  split at h
  ·cases h
  ·rename_i hno
   split at h
   ·cases h
   ·rename_i u' hu
    split at h
    ·cases h
    ·rename_i l' hl
     cases h
     refine ⟨hm, hu, hl, fun e => ?_⟩
     cases mx with
     | none => rfl
     | some z => exact (hno z e rfl).elim
theorem bdsV_up {len k c l u m : Nat} {lo hi mx : Option Value} (h : bdsV len k lo hi mx = some (l, u, m)) (hc : k ≤ c) : bdsV len c lo hi mx = some (l, u, if mx.isSome then m else c) := by
 obtain ⟨h1, h2, h3, h4⟩ := bdsV_inv h
 cases mx with
 | none =>
  have e1 : k = m := by simpa [bdV] using h1
  subst e1
  refine bdsV_eq (m := 0) rfl ?_ h3 h4
  cases hi with
  | none => exact h2
  | some v => exact bdV_up (by simp) h2 hc
 | some v => exact bdsV_eq (m := 0) (bdV_up (by simp) h1 hc) h2 h3 h4
theorem Stp.alias {W : World} {σ : Sg} {h : Hp} {w : World} (hR : Rl W σ h w) {nx : Nat} (hf : Fresh σ nx (nx + 1)) (p : Nat × Nat) (c : Nat) : Stp W nx (nx + 1) σ h w (σ.bindc nx p c) h w := by
 have hle : σ.le (σ.bindc nx p c) := Sg.le_bindc (hf nx (Nat.le_refl _) (by omega))
 have hne : ∀ n r, lk h n = some r → n ≠ nx := fun n r hl e => by
  subst e
  obtain ⟨b, s, vs, hb, _⟩ := hR.row _ _ hl
  rw [(hf _ (Nat.le_refl _) (by omega)).1] at hb
  cases hb
 have hbs : ∀ n, n ≠ nx → (σ.bindc nx p c).b n = σ.b n := fun n hn => by simp only [Sg.bindc]; rw [if_neg hn]
 refine Stp0.up ⟨hle, fun n hn => ?_, ⟨hR.ext, fun n r hl => hR.keepA hl hle fun _ _ => rfl, fun n m r s q q' hn hm hr hs hq hq' e => ?_⟩, Nat.le_refl _, fun _ _ _ _ => rfl, fun n r q hl ho hb => ?_⟩ hR.shr hR.wf ?_
 ·simp only [Sg.bindc]; rw [if_neg (by omega), if_neg (by omega)]; exact ⟨rfl, rfl⟩
 ·rw [hbs n (hne n r hn)] at hq
  rw [hbs m (hne m s hm)] at hq'
  exact hR.inj n m r s q q' hn hm hr hs hq hq' e
 ·rw [hbs n (hne n r hl)] at hb
  exact .inr ⟨n, r, q, hl, ho, hb, rfl⟩
 ·intro n r hl
  have hnn := hne n r hl
  simp only [sh, ex, Sg.bindc, if_neg hnn]
  exact ⟨fun ho => hR.shr.1 n r hl ho, fun k hk => ⟨n, r, hl, hk⟩, fun k hk => ⟨r, hl, hk⟩⟩
def extV (P : Program) (ev : Operand → Option Value) (h : Hp) (nx : Nat) : Op → Option Out
 | .makeMap _ none => some (.map (some nx), (nx, ⟨.mp [], []⟩) :: h, nx + 1, [])
 | .lookup t x i ok => match ev x, ev i with
  | some x', some i' => match lookV P h t x' i' ok with
   | some v => some (v, h, nx, [])
   | none => none
  | _, _ => none
 | .mapUpdate t m k v => match P.underlying t, ev m, ev k, ev v with
  | some (.map kt _), some (.map (some n)), some k', some v' => match lk h n with
   | some ⟨.mp es, _⟩ => bif keyT P kt && fixK k' && noAd v' then (match findV P kt k' es with
    | some none => some (undef, setH h n ⟨.mp (es ++ [(k', v')]), []⟩, nx, [n])
    | _ => none) else none
   | _ => none
  | _, _, _, _ => none
 | .call ⟨.builtin .clear, args, ts⟩ => match ts.toList, evL ev args.toList with
  | [t], some [.slice A n _] => match P.underlying t with
   | some (.slice e) => bif Nat.beq n 0 then some (.tuple ⟨[]⟩, h, nx, []) else (match A with
    | some ⟨m, o, none⟩ => match P.info? e, lk h m with
     | some i, some r => match i.zero with
      | some z => bif isOwn r.kd && noAdL z.cells.toList && Nat.blt 0 z.cells.toList.length && all1 z.cells.toList && Nat.ble (o + n * z.cells.toList.length) r.cs.length then some (.tuple ⟨[]⟩, setH h m ⟨r.kd, splice r.cs o (zrep z.cells.toList (n * z.cells.toList.length))⟩, nx, [m]) else none
      | none => none
     | _, _ => none
    | _ => none)
   | _ => none
  | _, _ => none
 | op => slcN P ev h nx op
def opV (P : Program) (ev : Operand → Option Value) (h : Hp) (nx : Nat) (op : Op) : Option Out :=
 match op with
 | .store t x y => match ev x, ev y with
  | some a, some b => match storeV P h t a b with
   | some (n, h') => frc h' fun h' => some (undef, h', nx, [n])
   | none => none
  | _, _ => none
 | .call ⟨.builtin .append, args, ts⟩ => builtV P ev h nx .append args.toList ts.toList
 | .call ⟨.builtin .copy, args, ts⟩ => builtV P ev h nx .copy args.toList ts.toList
 | .convert s t x => match pureV P ev h (.convert s t x) with
  | some v => some (v, h, nx, [])
  | none => match ev x with
   | some u => match lendV P s t u with
    | some (cs, n) => some (.slice (some ⟨nx, 0, none⟩) n (capBig + nx), (nx, ⟨.lent, cs⟩) :: h, nx + 1, [])
    | none => match markV P h s t u with
     | some (n, h') => some (u, h', nx, [n])
     | none => none
   | none => none
 | op => match pureV P ev h op with
  | some v => some (v, h, nx, [])
  | none => match newV P ev op with
   | some (cs, m, t) => some (m.val nx, (nx, ⟨.shut, cs⟩) :: h, nx + 1, [])
   | none => extV P ev h nx op
def Ends (P : Program) (a : Act) (o : Oper) (w : World) (v' : Value) (w' : World) : Prop :=
 (execOp a.eval o).run P w = .ok (.value v') w' ∨ ((execOp a.eval o).run P w = .ok .skip w' ∧ v' = undef)
theorem wp_ends {P : Program} {a : Act} {o : Oper} {w w' : World} {v' : Value} {K : Act → World → Prop} {Q : Exit → Act → World → Prop} (h : Ends P a o w v' w') (hk : K (a.put o.dst v') w') : o.wp P a w K Q := by
 unfold Oper.wp
 rcases h with h | ⟨h, rfl⟩
 ·rw [h]; exact hk
 ·rw [h]; exact hk
def Tidy (h : Hp) (nx : Nat) (h' : Hp) (nx' : Nat) (d : List Nat) : Prop := nx ≤ nx' ∧ (∀ n, n < nx → n ∉ d → lk h' n = lk h n) ∧ (Bd h nx → Bd h' nx')
theorem Tidy.refl (h : Hp) (nx : Nat) : Tidy h nx h nx [] := ⟨Nat.le_refl _, fun _ _ _ => rfl, fun h => h⟩
theorem Tidy.trans {h h1 h2 : Hp} {n n1 n2 : Nat} {d e : List Nat} (a : Tidy h n h1 n1 d) (b : Tidy h1 n1 h2 n2 e) : Tidy h n h2 n2 (e ++ d) :=
 ⟨Nat.le_trans a.1 b.1, fun k hk hn => by
  rw [b.2.1 k (Nat.lt_of_lt_of_le hk a.1) (fun e => hn (List.mem_append_left _ e)), a.2.1 k hk (fun e => hn (List.mem_append_right _ e))], fun h => b.2.2 (a.2.2 h)⟩

theorem bif_of {α : Type} {c : Bool} {x : Option α} {y : α} (h : (bif c then x else none) = some y) : c = true ∧ x = some y := by
 cases c with
 | false => cases h
 | true => exact ⟨rfl, by simpa using h⟩
theorem bif_or {α : Type} {c : Bool} {x y z : α} (h : (bif c then x else y) = z) : (c = true ∧ x = z) ∨ (c = false ∧ y = z) := by
 cases c with
 | false => exact .inr ⟨rfl, h⟩
 | true => exact .inl ⟨rfl, h⟩
section
variable {P : Program} {W : World} {σ : Sg} {h h' : Hp} {w : World} {ev : Operand → Option Value} {a : Act} {nx nx' : Nat} {d : List Nat} {v : Value}
theorem tidy_new {r : Rw} : Tidy h nx ((nx, r) :: h) (nx + 1) [] := ⟨by omega, fun n hn _ => by rw [lk_cons, if_neg (by omega)], fun hb n hn => by rw [lk_cons, if_neg (by omega)]; exact hb n (by omega)⟩
theorem tidy_set {n : Nat} {r r' : Rw} (hl : lk h n = some r) : Tidy h nx (setH h n r') nx [n] := ⟨Nat.le_refl _, fun m hm hd => by rw [lk_setH, if_neg (fun e => hd (by simp [e]))], fun hb m hm => by
  rw [lk_setH]
  split
  ·rename_i e; subst e; have := hb n hm; rw [hl] at this; cases this
  ·exact hb m hm⟩
theorem tidy_into {n : Nat} {r : Rw} : Tidy h nx ((nx, r) :: delH h n) (nx + 1) [n] := ⟨by omega, fun m hm hd => by rw [lk_cons, if_neg (by omega), lk_delH, if_neg (fun e => hd (by simp [e]))], fun hb m hm => by
  rw [lk_cons, if_neg (by omega), lk_delH]
  split
  ·rfl
  ·exact hb m (by omega)⟩
theorem storeV_tidy {t : TypeId} {x y : Value} {n : Nat} (hs : storeV P h t x y = some (n, h')) : Tidy h nx h' nx [n] := by
 unfold storeV at hs
 split at hs
 ·split at hs
  ·rename_i r i hl hi
   obtain ⟨_, e⟩ := bif_of hs
   rw [frc_eq] at e
   cases e
   exact tidy_set hl
  ·cases hs
 ·cases hs
theorem copyV_tidy {t tx : TypeId} {x y : Value} (hs : copyV P h t tx x y = some (v, h', d)) : Tidy h nx h' nx d := by
 unfold copyV at hs
 split at hs
 ·split at hs
  ·rename_i r hi hl
   split at hs
   ·obtain ⟨_, e⟩ := bif_of hs
    cases e
    exact tidy_set hl
   ·cases hs
  ·cases hs
 ·obtain ⟨_, hs⟩ := bif_of hs
  split at hs
  ·split at hs
   ·cases hs; exact Tidy.refl _ _
   ·cases hs
  ·cases hs
 ·cases hs
theorem appV_tidy {t tx : TypeId} {s x : Value} (hc : appV P h nx t tx s x = some (v, h', nx', d)) : Tidy h nx h' nx' d := by
 unfold appV at hc
 split at hc
 case h_2 => cases hc
 split at hc
 case h_2 => cases hc
 split at hc
 case h_2 => cases hc
 split at hc
 case h_2 => cases hc
 obtain ⟨_, hc⟩ := bif_of hc
 split at hc
 ·obtain ⟨_, hc⟩ := bif_of hc
  rcases bif_or hc with ⟨_, hc⟩ | ⟨_, hc⟩
  ·cases hc; exact Tidy.refl _ _
  ·obtain ⟨_, hc⟩ := bif_of hc
   cases hc; exact tidy_new
 ·rcases bif_or hc with ⟨_, hc⟩ | ⟨_, hc⟩
  ·rcases bif_or hc with ⟨_, hc⟩ | ⟨_, hc⟩
   ·split at hc
    ·rename_i r hl
     obtain ⟨_, hc⟩ := bif_of hc
     cases hc; exact tidy_set hl
    ·cases hc
   ·split at hc
    ·obtain ⟨_, hc⟩ := bif_of hc
     cases hc; exact tidy_new
    ·cases hc
  ·split at hc
   ·split at hc
    ·obtain ⟨_, hc⟩ := bif_of hc
     cases hc; exact tidy_into
    ·cases hc
   ·cases hc
 ·cases hc
theorem appN_tidy {t tx : TypeId} {s x : Value} (hc : appN P h nx t tx s x = some (v, h', nx', d)) : Tidy h nx h' nx' d := by
 unfold appN at hc
 split at hc
 case h_2 => cases hc
 split at hc
 case h_2 => cases hc
 split at hc
 case h_2 => cases hc
 obtain ⟨_, hc⟩ := bif_of hc
 cases hc; exact tidy_new
theorem appR_tidy {t tx : TypeId} {s x : Value} (hc : appR P h nx t tx s x = some (v, h', nx', d)) : Tidy h nx h' nx' d := by
 unfold appR at hc
 split at hc
 case h_2 => cases hc
 split at hc
 case h_2 => cases hc
 rename_i hl
 split at hc
 case h_2 => cases hc
 obtain ⟨_, hc⟩ := bif_of hc
 cases hc
 exact tidy_set hl
theorem builtV_tidy {b : Builtin} {args : List Operand} {ts : List TypeId} (hv : builtV P ev h nx b args ts = some (v, h', nx', d)) : Tidy h nx h' nx' d := by
 unfold builtV at hv
 split at hv
 ·split at hv
  ·rename_i hc
   cases hv
   exact appV_tidy hc
  ·split at hv
   ·rename_i hc
    cases hv
    exact appN_tidy hc
   ·exact appR_tidy hv
 ·split at hv
  ·rename_i hc
   cases hv
   exact copyV_tidy hc
  ·cases hv
 ·cases hv
theorem slcN_tidy {op : Op} (hv : slcN P ev h nx op = some (v, h', nx', d)) : Tidy h nx h' nx' d := by
 have key : Tidy h nx h (nx + 1) [] := ⟨by omega, fun _ _ _ => rfl, fun hb n hn => hb n (by omega)⟩
 unfold slcN at hv
 split at hv
 case h_2 => cases hv
 split at hv
 case h_2 => cases hv
 split at hv
 case h_2 => cases hv
 obtain ⟨_, hv⟩ := bif_of hv
 split at hv
 case h_2 => cases hv
 split at hv
 ·obtain ⟨_, hv⟩ := bif_of hv
  cases hv; exact Tidy.refl _ _
 ·rcases bif_or hv with ⟨_, hv⟩ | ⟨_, hv⟩ <;> (cases hv; exact key)
theorem extV_tidy {op : Op} (hv : extV P ev h nx op = some (v, h', nx', d)) : Tidy h nx h' nx' d := by
 unfold extV at hv
 split at hv
 ·cases hv; exact tidy_new
 ·split at hv
  ·split at hv
   ·cases hv; exact Tidy.refl _ _
   ·cases hv
  ·cases hv
 ·split at hv
  ·split at hv
   ·rename_i hl
    obtain ⟨_, hv⟩ := bif_of hv
    split at hv
    ·cases hv; exact tidy_set hl
    ·cases hv
   ·cases hv
  ·cases hv
 ·split at hv
  ·split at hv
   ·rcases bif_or hv with ⟨_, hv⟩ | ⟨_, hv⟩
    ·cases hv; exact Tidy.refl _ _
    ·split at hv
     ·split at hv
      ·rename_i hl
       split at hv
       ·obtain ⟨_, hv⟩ := bif_of hv
        cases hv; exact tidy_set hl
       ·cases hv
      ·cases hv
     ·cases hv
   ·cases hv
  ·cases hv
 ·exact slcN_tidy hv
theorem slcN_ok (hR : Rl W σ h w) (hf : Fresh σ nx nx') (H : Evs σ ev a) {o : Oper} (hv : slcN P ev h nx o.op = some (v, h', nx', d)) :
  ∃ σ' w' v', Stp W nx nx' σ h w σ' h' w' ∧ renV σ' v = some v' ∧ (execOp a.eval o).run P w = .ok (.value v') w' := by
 unfold slcN at hv
 split at hv
 case h_2 => cases hv
 rename_i t x lo hi mx ho
 split at hv
 case h_2 => cases hv
 rename_i e n off len cap l0 u0 m0 hu hx hl0 hu0 hm0
 split at hv
 case h_2 => cases hv
 rename_i i sz zz cs hi0 hl
 obtain ⟨hg, hs1⟩ := bif_of hv
 clear hv
 simp only [Bool.and_eq_true, Nat.ble_eq, Nat.blt_eq] at hg
 obtain ⟨⟨⟨g1, g2⟩, g3⟩, g4⟩ := hg
 obtain rfl := Nat.eq_of_beq_eq_true g2
 have hx' := H x _ hx
 have ol := evO_ok H hl0
 have oz := evO_ok H hu0
 have om := evO_ok H hm0
 have hnn : σ.f n ≠ none := by
  have e := Nat.eq_of_beq_eq_true g4
  rw [e, Nat.add_sub_cancel_left] at hl
  exact hR.shr.1 n _ hl (fun e => by cases e)
 rcases renV_slice hx' with ⟨p, c', hb, hcp, hxe, _⟩ | ⟨h0, _⟩
 case inr => exact (hnn h0).elim
 have hcp0 := hcp
 unfold cpR at hcp0
 rw [if_neg (Nat.not_lt_of_le g1)] at hcp0
 obtain ⟨b, s, vs, hb', hv, hk⟩ := hR.row _ _ hl
 obtain ⟨_, _, tt, rest, c, hc, _, hlen, hcm, _⟩ := hk
 rw [hcp0] at hc
 cases hc
 split at hs1
 case h_2 => cases hs1
 rename_i l u m hbd
 have hle : cs.length / i.size ≤ c' := by
  have e1 := renL_len hv
  simp only at e1
  rw [List.length_append] at hlen
  have : cs.length ≤ c' * i.size := by omega
  exact Nat.div_le_of_le_mul (by rw [Nat.mul_comm]; exact this)
 have hb2 := bdsV_up hbd hle
 have hlc : len ≤ c' := by
  have h2 := hx'
  rw [hxe] at h2
  exact renV_len hR.wf h2
 have hul := bdsV_hi hb2 hlc
 obtain ⟨q1, q2, q3⟩ := bdsV_same (σ := σ) hbd ol.1 ol.2 oz.1 oz.2 om.1 om.2
 have hel : P.elem t = e := by simp [Program.elem, hu]
 have hrun : (execOp a.eval o).run P w = .ok (.value (.slice (if (if m0.isSome then m else c') = l then some ⟨p.1, p.2 + off, none⟩ else some ((⟨p.1, p.2 + off, none⟩ : Addr).add (l * i.size))) (u - l) ((if m0.isSome then m else c') - l))) w := by
  have h1 : (Instr.sliceAt t (.slice (some ⟨p.1, p.2 + off, none⟩) len c') l0 u0 m0).run P w = .ok (.slice (if (if m0.isSome then m else c') = l then some ⟨p.1, p.2 + off, none⟩ else some ((⟨p.1, p.2 + off, none⟩ : Addr).add (l * i.size))) (u - l) ((if m0.isSome then m else c') - l)) w := by
   rw [run_sliceAt_slice w t _ l0 u0 m0 (by rw [hel]; exact hu)]
   simp [Instr.slice, run_underlying hu, bdsV_run true hb2, sizeOf, typeInfo, hi0]
  unfold execOp
  rw [ho]
  simp only [q1, q2, q3, hxe, h1, Sem.run_bind, Result.andThen_ok, Sem.run_pure]
 split at hs1
 ·rename_i mv
  obtain ⟨hm, hs1⟩ := bif_of hs1
  cases hs1
  simp only [Option.isSome_some, if_true] at hrun
  refine ⟨σ, w, _, Stp.refl hR nx, ?_, hrun⟩
  have hml : m < capBig := Nat.le_of_ble_eq_true hm
  have hc1 : cpR σ (m - l) = some (m - l) := by unfold cpR; rw [if_pos (by omega)]
  rw [renV_slice_mk hb hc1 hnn (.inr (by simp only [Option.isSome_some, if_true] at hul; omega))]
  congr 2
  by_cases e : m = l
  ·rw [if_pos e]; subst e; rw [show Nat.beq m m = true from Nat.beq_refl m]; rfl
  ·rw [if_neg e, nbeq_ne e, addr_add]; simp only [cond_false, Nat.add_assoc]
 ·simp only [Option.isSome_none, Bool.false_eq_true, if_false] at hrun
  rcases bif_or hs1 with ⟨hlt, hs2⟩ | ⟨hlt, hs2⟩
  ·cases hs2
   have hlt := Nat.le_of_ble_eq_true hlt
   refine ⟨_, w, _, Stp.alias hR hf (0, 0) (c' - l), ?_, hrun⟩
   have hne : n ≠ nx := fun e => by
    subst e
    rw [(hf _ (Nat.le_refl _) (by omega)).1] at hb
    cases hb
   rw [if_neg (by omega), addr_add]
   have hb1 : (σ.bindc nx (0, 0) (c' - l)).b n = some p := by simp only [Sg.bindc]; rw [if_neg hne]; exact hb
   have hc1 : cpR (σ.bindc nx (0, 0) (c' - l)) (capBig + nx) = some (c' - l) := by unfold cpR; rw [if_neg (by omega), Nat.add_sub_cancel_left]; simp [Sg.bindc]
   have := renV_slice_mk (o := off + l * i.size) (l := u - l) hb1 hc1 (by simp only [Sg.bindc]; rw [if_neg hne]; exact hnn) (.inr (by simp only [Option.isSome_none, Bool.false_eq_true, if_false] at hul; omega))
   rw [← Nat.add_assoc] at this
   exact this
  ·cases hs2
   refine ⟨_, w, _, Stp.alias hR hf (p.1, if c' = l then p.2 + off else p.2 + off + l * i.size) (c' - l), ?_, hrun⟩
   refine (renV_slice_mk (p := (p.1, if c' = l then p.2 + off else p.2 + off + l * i.size)) (c' := c' - l) (by simp [Sg.bindc]) (by unfold cpR; rw [if_neg (by omega), Nat.add_sub_cancel_left]; simp [Sg.bindc]) (by simp [Sg.bindc]) (.inr (by simp only [Option.isSome_none, Bool.false_eq_true, if_false] at hul; omega))).trans ?_
   by_cases hcl : c' = l
   ·simp only [hcl, if_true, Nat.add_zero]
   ·simp only [if_neg hcl, Nat.add_zero, addr_add]
theorem appR_ok (hR : Rl W σ h w) {nx nx' : Nat} {t tx ty : TypeId} {s x s' x' v : Value} {h' : Hp} {dd : List Nat} (hc : appR P h nx t tx s x = some (v, h', nx', dd)) (hs : renV σ s = some s') (hx : renV σ x = some x') :
  ∃ σ' w' v', Stp W nx nx' σ h w σ' h' w' ∧ renV σ' v = some v' ∧ (Builtin.append_ #[t, tx] ty #[s', x']).run P w = .ok v' w' := by
 unfold appR at hc
 split at hc
 case h_2 => cases hc
 rename_i e m o len cap ht
 split at hc
 case h_2 => cases hc
 rename_i i sz zz cs hi hl
 split at hc
 case h_2 => cases hc
 rename_i n news hsrcV
 obtain ⟨hg, hc1⟩ := bif_of hc
 clear hc
 simp only [Bool.and_eq_true, Nat.ble_eq, Nat.blt_eq] at hg
 obtain ⟨⟨⟨⟨g1, g2⟩, g3⟩, g4⟩, g5⟩ := hg
 obtain rfl := Nat.eq_of_beq_eq_true g1
 obtain rfl := Nat.eq_of_beq_eq_true g2
 obtain rfl := Nat.eq_of_beq_eq_true g3
 cases hc1
 obtain ⟨vn, hn, hsrc⟩ := srcV_ok hR hsrcV hx
 have hnl := renL_len hn
 rcases renV_slice hs with ⟨p, c', hb, hcp, rfl, hnn⟩ | ⟨h0, _⟩
 case inr => exact (hR.shr.1 m _ hl (fun e => by cases e) h0).elim
 have hcp0 := hcp
 unfold cpR at hcp0
 rw [if_neg (by omega), Nat.add_sub_cancel_left] at hcp0
 obtain ⟨b, s0, vs, hb', hv, hk⟩ := hR.row _ _ hl
 obtain ⟨_, _, tt, rest, c, hc, _, hlen, hcm, _⟩ := hk
 rw [hcp0] at hc
 cases hc
 have e1 := renL_len hv
 simp only at e1
 rw [List.length_append] at hlen
 have hroom : len + n ≤ c' := by
  have : (len + n) * i.size ≤ c' * i.size := by omega
  exact Nat.le_of_mul_le_mul_right this g4
 have hvn : vn.length = n * i.size := hsrc.newsLen
 have hmul : (len + n) * i.size = len * i.size + n * i.size := Nat.add_mul _ _ _
 have ho : Rw.wr ⟨.room i.size zz, cs⟩ := rfl
 have hge := hR.ge hl ho.own hb
 obtain ⟨p', vs', hb2, hv2, hcell⟩ := hR.cell hl
 rw [hb] at hb2
 cases hb2
 have e2 := renL_len hv2
 simp only at e2
 have hrun := run_append_room_src (P := P) w t tx ty e i ht hi p.1 (p.2 + 0) len c' x' n vn hsrc hroom (fun j hj => by
  have hlt2 : len * i.size + j < vs'.length := by omega
  have := hcell _ _ (List.getElem?_eq_getElem hlt2)
  rw [show p.2 + 0 + len * i.size + j = p.2 + (len * i.size + j) by omega, this]; rfl) (fun j hj => hR.free hl ho hb _)
 refine ⟨σ, _, _, Stp.put hR nx hl ho hb hn (by simp only; omega), renV_slice_mk hb hcp hnn (.inr hroom), ?_⟩
 rw [hrun]
 have e3 : p.2 + 0 + len * i.size = len * i.size := by rw [hge.2]; omega
 rw [e3]
theorem extV_ok (hR : Rl W σ h w) (hf : Fresh σ nx nx') (H : Evs σ ev a) {o : Oper} (hv : extV P ev h nx o.op = some (v, h', nx', d)) :
  ∃ σ' w' v', Stp W nx nx' σ h w σ' h' w' ∧ renV σ' v = some v' ∧ Ends P a o w v' w' := by
 unfold extV at hv
 split at hv
 ·rename_i t ho
  cases hv
  refine ⟨_, _, .map (some w.heap.size), Stp.allocO hR hf (.map #[] 0) (.mp []) ⟨rfl, hR.ext.size, rfl, #[], 0, heap_alloc_new w _, rfl⟩, by simp [renV, Sg.bind], .inl ?_⟩
  unfold execOp
  rw [ho]
  simp [Instr.makeMap, newObj]
  rfl
 ·rename_i t x i ok ho
  split at hv
  case h_2 => cases hv
  rename_i x0 i0 hx hi
  split at hv
  case h_2 => cases hv
  rename_i r hr
  cases hv
  obtain ⟨h1, h2⟩ := lookV_ok (P := P) hR hr (H x _ hx) (H i _ hi)
  refine ⟨σ, w, _, Stp.refl hR nx, h1, .inl ?_⟩
  unfold execOp
  rw [ho]
  simp only [h2, Sem.run_bind, Result.andThen_ok, Sem.run_pure]
 ·rename_i t m k v0 ho
  split at hv
  case h_2 => cases hv
  rename_i kt et n k' v' hu hm hk hv0
  split at hv
  case h_2 => cases hv
  rename_i es cs hl
  obtain ⟨hg, hv1⟩ := bif_of hv
  clear hv
  simp only [Bool.and_eq_true] at hg
  obtain ⟨⟨g1, g2⟩, g3⟩ := hg
  split at hv1
  case h_2 => cases hv1
  rename_i hfd
  cases hv1
  have hm' := H m _ hm
  have hk' := H k _ hk
  have hv' := H v0 _ hv0
  rw [fixK_ren σ g2] at hk'
  rw [noAd_ren σ g3] at hv'
  obtain ⟨b, s, vs, hb, hvs, h1, h2, h3, A, kk, hA, hAe⟩ := hR.row _ _ hl
  simp only [renV, hb, oI] at hm'
  rw [← hAe] at hfd
  have hck := check_ok (P := P) (w := w) g1 g2
  have hfn := find_ok (P := P) (w := w) g1 g2 hfd
  simp only at hfn
  have hlt := hR.lt hl (fun e => by cases e) hb
  have hS := Stp.turn hR hl (fun e => by cases e) hb (.map (A.push { key := k', val := v', born := kk }) (kk + 1)) (.mp (es ++ [(k', v')])) (fun e => by cases e) ⟨h1, h2, rfl, _, _, World.putObj_heap_same hlt, by simp [← hAe]⟩ nx
  refine ⟨σ, _, undef, hS, rfl, .inr ⟨?_, rfl⟩⟩
  unfold execOp
  rw [ho]
  have hset := MapKept.run_setObj_map (P := P) (.map (A.push { key := k', val := v', born := kk }) (kk + 1)) hA
  simp only [← hm', ← Option.some.inj hk', ← Option.some.inj hv', Instr.mapUpdate, Sem.run_bind, run_underlying hu, Result.andThen_ok, MapKept.run_getObj_map hA, hck, hfn, hset, Sem.run_pure]
  rfl
 ·rename_i args ts ho
  split at hv
  case h_2 => cases hv
  rename_i t A n c hts hev
  have h1 := evL_ok H hev
  obtain ⟨x', l, h2, h3, e1⟩ := renL_cons h1
  simp only [renL, oI] at h3
  subst h3
  have hargs : args.map a.eval = #[x'] := by apply Array.toList_inj.1; rw [Array.toList_map, e1]
  have hts' : ts = #[t] := by apply Array.toList_inj.1; simpa using hts
  have fin : ∀ w', (Builtin.clear_ #[t] o.type #[x']).run P w = .ok (.tuple #[]) w' → (execOp a.eval o).run P w = .ok (.value (.tuple #[])) w' := by
   intro w' hw
   unfold execOp
   simp only [ho, resolve, Sem.run_bind, Sem.run_pure, Result.andThen_ok, invoke, builtin, hargs, hts', hw]
  split at hv
  case h_2 => cases hv
  rename_i e hu
  rcases bif_or hv with ⟨hn0, hv⟩ | ⟨hn0, hv⟩
  ·cases hv
   obtain rfl := Nat.eq_of_beq_eq_true hn0
   refine ⟨σ, w, .tuple #[], Stp.refl hR nx, rfl, .inl (fin w ?_)⟩
   have hx0 : ∃ A' c', x' = .slice A' 0 c' := by
    obtain ⟨x, z, e⟩ := renV_sll h2
    exact ⟨x, z, e⟩
   obtain ⟨A', c', rfl⟩ := hx0
   cases A' <;> simp [Builtin.clear_, run_underlying hu]
  ·split at hv
   case h_2 => cases hv
   rename_i m off _
   split at hv
   case h_2 => cases hv
   rename_i i r hi hl
   split at hv
   case h_2 => cases hv
   rename_i z hz
   obtain ⟨hg, hv1⟩ := bif_of hv
   clear hv
   cases hv1
   simp only [Bool.and_eq_true, Nat.ble_eq, Nat.blt_eq] at hg
   obtain ⟨⟨⟨⟨g1, g2⟩, g3⟩, g4⟩, g5⟩ := hg
   have hwr := isOwn_ok g1
   rcases renV_slice h2 with ⟨p, c', hb, hcp, rfl, _⟩ | ⟨h0, _⟩
   case inr => exact (hR.shr.1 m r hl hwr.own h0).elim
   have hge := hR.ge hl hwr.own hb
   have hzr := zrep_ren σ g2 g3 (n * z.cells.toList.length)
   have hz0 : ∀ n, zrep z.cells.toList (n * z.cells.toList.length) = (Builtin.zeroCells z.cells n).toList := fun n => by rw [zeroCells_rep (by simpa using g3), Array.length_toList]
   have hzl : (zrep z.cells.toList (n * z.cells.toList.length)).length = n * z.cells.toList.length := by
    rw [hz0, Array.length_toList, size_zeroCells, Array.length_toList]
   have h1z : ∀ u ∈ zrep z.cells.toList (n * z.cells.toList.length), u.oneCell' = true := by
    intro u hu2
    rw [hz0] at hu2
    have := zero_mem u hu2
    exact all1_ok (σ := σ) g4 (noAdL_ren σ g2) u this
   have hst := hR.put_cells (P := P) hl hwr hb (o := off) h1z (by rw [hzl]; exact g5)
   refine ⟨σ, _, .tuple #[], Stp.put hR nx hl hwr hb hzr (by rw [hzl]; exact g5), rfl, .inl (fin _ ?_)⟩
   have hn1 : n ≠ 0 := fun e => by subst e; cases hn0
   obtain ⟨n, rfl⟩ : ∃ k, n = k + 1 := ⟨n - 1, by omega⟩
   rw [hz0 (n + 1)] at hst ⊢
   simp [Builtin.clear_, run_underlying hu, zeroValue, typeInfo, hi, hz, hst]
 ·obtain ⟨σ', w', v', h1, h2, h3⟩ := slcN_ok (P := P) (o := o) hR hf H hv
  exact ⟨σ', w', v', h1, h2, .inl h3⟩
theorem plainV_tidy {op : Op} (hv : (match pureV P ev h op with
  | some v => some (v, h, nx, [])
  | none => match newV P ev op with
   | some (cs, m, t) => some (m.val nx, (nx, ⟨.shut, cs⟩) :: h, nx + 1, [])
   | none => extV P ev h nx op : Option Out) = some (v, h', nx', d)) : Tidy h nx h' nx' d := by
 split at hv
 ·cases hv; exact Tidy.refl _ _
 ·split at hv
  ·cases hv; exact tidy_new
  ·exact extV_tidy hv
theorem markV_tidy {s t : TypeId} {u : Value} {n : Nat} (hm : markV P h s t u = some (n, h')) : Tidy h nx h' nx [n] := by
 unfold markV at hm
 obtain ⟨_, hm⟩ := bif_of hm
 split at hm
 ·split at hm
  ·rename_i hl
   cases hm
   exact tidy_set hl
  ·cases hm
 ·cases hm
theorem opV_tidy {op : Op} (hv : opV P ev h nx op = some (v, h', nx', d)) : Tidy h nx h' nx' d := by
 unfold opV at hv
 split at hv
 ·split at hv
  ·split at hv
   ·rename_i hs
    rw [frc_eq] at hv
    cases hv
    exact storeV_tidy hs
   ·cases hv
  ·cases hv
 ·exact builtV_tidy hv
 ·exact builtV_tidy hv
 ·split at hv
  ·cases hv; exact Tidy.refl _ _
  ·split at hv
   ·split at hv
    ·cases hv; exact tidy_new
    ·split at hv
     ·rename_i hm
      cases hv
      exact markV_tidy hm
     ·cases hv
   ·cases hv
 ·exact plainV_tidy hv
theorem builtV_ok (hR : Rl W σ h w) (hf : Fresh σ nx nx') (H : Evs σ ev a) {b : Builtin} {args : Array Operand} {ts : Array TypeId} {o : Oper} (ho : o.op = .call ⟨.builtin b, args, ts⟩) (hv : builtV P ev h nx b args.toList ts.toList = some (v, h', nx', d)) :
  ∃ σ' w' v', Stp W nx nx' σ h w σ' h' w' ∧ renV σ' v = some v' ∧ Ends P a o w v' w' := by
 have hargs : ∀ {x y : Value}, evL ev args.toList = some [x, y] → ∃ x' y', args.map a.eval = #[x', y'] ∧ renV σ x = some x' ∧ renV σ y = some y' := fun {x y} he => by
  have h1 := evL_ok H he
  obtain ⟨x', l, h2, h3, e1⟩ := renL_cons h1
  obtain ⟨y', l', h4, h5, e2⟩ := renL_cons h3
  simp only [renL, oI] at h5
  refine ⟨x', y', ?_, h2, h4⟩
  apply Array.toList_inj.1
  rw [Array.toList_map, e1, e2, ← h5]
 have hts : ∀ {t tx : TypeId}, ts.toList = [t, tx] → ts = #[t, tx] := fun e => by apply Array.toList_inj.1; simpa using e
 unfold builtV at hv
 split at hv
 ·rename_i t tx s x hte hev
  obtain ⟨s', x', e1, hs, hx⟩ := hargs hev
  obtain ⟨σ', w', v', h1, h2, h3⟩ : ∃ σ' w' v', Stp W nx nx' σ h w σ' h' w' ∧ renV σ' v = some v' ∧ (Builtin.append_ #[t, tx] o.type #[s', x']).run P w = .ok v' w' := by
   split at hv
   ·rename_i hc
    cases hv
    exact appV_ok (P := P) (ty := o.type) hR hc hf hs hx
   ·split at hv
    ·rename_i hc
     cases hv
     exact appN_ok (P := P) (ty := o.type) hR hc hf hs hx
    ·exact appR_ok (P := P) (ty := o.type) hR hv hs hx
  refine ⟨σ', w', v', h1, h2, .inl ?_⟩
  unfold execOp
  simp only [ho, resolve, Sem.run_bind, Sem.run_pure, Result.andThen_ok, invoke, builtin, e1, hts hte, h3]
 ·rename_i t tx x y hte hev
  split at hv
  ·rename_i v1 h1 dd hc
   cases hv
   obtain ⟨x', y', e1, hx, hy⟩ := hargs hev
   obtain ⟨w', h1, h2, h3, h4⟩ := copyV_ok (P := P) (ty := o.type) hR nx hc hx hy
   refine ⟨σ, w', v, h1, h2, .inl ?_⟩
   unfold execOp
   simp only [ho, resolve, Sem.run_bind, Sem.run_pure, Result.andThen_ok, invoke, builtin, e1, hts hte, h3]
  ·cases hv
 ·cases hv
theorem Stp.one {lo : Nat} (hR : Rl W σ h w) {n : Nat} {r : Rw} (hl : lk h n = some r) (ho : r.own) {p : Nat × Nat} (hb : σ.b n = some p) {w' : World} (hs : w'.heap.size = w.heap.size) (hoth : ∀ b, b ≠ p.1 → w'.heap[b]? = w.heap[b]?) (hx : Ext W w') (r' : Rw) (hr' : RowOk W σ w' n r') :
  Stp W lo lo σ h w σ (setH h n r') w' := by
 have hd : ∀ m s, lk (setH h n r') m = some s → (m = n ∧ s = r') ∨ (lk h m = some s ∧ m ≠ n) := fun m s e => by
  rw [lk_setH] at e
  split at e
  ·rename_i hm; cases e; exact .inl ⟨hm.symm, rfl⟩
  ·rename_i hne; exact .inr ⟨e, Ne.symm hne⟩
 have conv : ∀ m s, lk (setH h n r') m = some s → s.own → ∃ s', lk h m = some s' ∧ s'.own := fun m s e hs => by
  rcases hd m s e with ⟨rfl, _⟩ | ⟨e, _⟩
  ·exact ⟨r, hl, ho⟩
  ·exact ⟨s, e, hs⟩
 refine Stp0.up ⟨Sg.le.refl σ, fun _ _ => ⟨rfl, rfl⟩, ⟨hx, fun m s e => ?_, fun m k s t p q a b hs ht c d e => ?_⟩,
  by rw [hs]; exact Nat.le_refl _, fun b hb' hno _ => hoth b fun e => hno n r p hl ho hb e.symm, fun m s q e hs hq => ?_⟩ hR.shr hR.wf (setH_shr hR.shr hl ho)
 ·rcases hd m s e with ⟨rfl, rfl⟩ | ⟨e, hne⟩
  ·exact hr'
  ·exact hR.keepW hl ho hb e hne (Sg.le.refl σ) hoth
 ·obtain ⟨s', a', hs'⟩ := conv m s a hs
  obtain ⟨t', b', ht'⟩ := conv k t b ht
  exact hR.inj m k s' t' p q a' b' hs' ht' c d e
 ·obtain ⟨s', a', hs'⟩ := conv m s e hs
  exact .inr ⟨m, s', q, a', hs', hq, rfl⟩
theorem freeze_heap (w : World) (b k : Nat) : (w.freeze ⟨b, k, none⟩ 1).heap.size = w.heap.size ∧ (∀ c, c ≠ b → (w.freeze ⟨b, k, none⟩ 1).heap[c]? = w.heap[c]?) ∧ w.grownBy (w.freeze ⟨b, k, none⟩ 1) (some b) := by
 unfold World.freeze
 rw [if_neg (by decide)]
 have h2 : ∀ (f : Obj → Obj) c, c ≠ b → (w.heap.modify b f)[c]? = w.heap[c]? := fun f c hc => by rw [Array.getElem?_modify, if_neg (Ne.symm hc)]
 exact ⟨by simp, fun c hc => h2 _ c hc, rfl, rfl, rfl, by simp, fun c _ hc => h2 _ c fun e => hc (by rw [e])⟩
theorem markV_ok (hR : Rl W σ h w) {s t : TypeId} {u u' : Value} {n : Nat} (hm : markV P h s t u = some (n, h')) (hu : renV σ u = some u') (lo : Nat) :
  ∃ u'', renV σ u = some u'' ∧ ∃ w', Stp W lo lo σ h w σ h' w' ∧ (convert s t u'').run P w = .ok u'' w' := by
 unfold markV at hm
 obtain ⟨hst, hm1⟩ := bif_of hm
 clear hm
 obtain rfl := Nat.eq_of_beq_eq_true hst
 split at hm1
 ·rename_i e m o len c hs
  split at hm1
  ·rename_i cs he hl
   cases hm1
   rcases renV_slice hu with ⟨p, c', hb, _, rfl, _⟩ | ⟨h0, _⟩
   case inr => exact (hR.shr.1 _ _ hl (fun e => by cases e) h0).elim
   obtain ⟨b, z, vs, hb', hv, hk⟩ := hR.row _ _ hl
   rw [hb] at hb'
   cases hb'
   obtain ⟨hz, hge, tt, hblk⟩ := hk
   obtain ⟨f1, f2, f3⟩ := freeze_heap w b vs.toArray.size
   refine ⟨_, hu, w.freeze ⟨b, vs.toArray.size, none⟩ 1, Stp.one hR hl (fun e => by cases e) hb f1 f2 (Ext.grown hR.ext f3 fun r e => by cases e; exact hge) _ ⟨b, z, vs, hb, hv, hz, hge, tt, [], (vs.toArray.size, vs.toArray.size + 1), ?_⟩, ?_⟩
   ·unfold World.freeze
    rw [if_neg (by decide)]
    simp only [Array.getElem?_modify, if_true, hblk, Option.map_some, List.append_nil]
    rfl
   ·have hsh : w.shape? b = some (tt, vs.toArray.size) := by unfold World.shape?; rw [hblk]
    simp [convert, run_underlying hs, run_underlying he, markStringish, hsh]
  ·cases hm1
 ·cases hm1
theorem opV_ok (hR : Rl W σ h w) (hf : Fresh σ nx nx') (H : Evs σ ev a) {o : Oper} (hv : opV P ev h nx o.op = some (v, h', nx', d)) :
  ∃ σ' w' v', Stp W nx nx' σ h w σ' h' w' ∧ renV σ' v = some v' ∧ Ends P a o w v' w' := by
 have plain : ∀ op, o.op = op → (match pureV P ev h op with
  | some v => some (v, h, nx, [])
  | none => match newV P ev op with
   | some (cs, m, t) => some (m.val nx, (nx, ⟨.shut, cs⟩) :: h, nx + 1, [])
   | none => extV P ev h nx op : Option Out) = some (v, h', nx', d) → ∃ σ' w' v', Stp W nx nx' σ h w σ' h' w' ∧ renV σ' v = some v' ∧ Ends P a o w v' w' := by
  intro op ho hv
  split at hv
  ·rename_i u hu
   cases hv
   obtain ⟨v', h1, h2⟩ := pureV_ok (P := P) (o := o) hR H (by rw [ho]; exact hu)
   exact ⟨σ, w, v', Stp.refl hR nx, h1, .inl h2⟩
  ·split at hv
   ·rename_i cs m t hn
    cases hv
    obtain ⟨⟨vs, h1, h2⟩, h3⟩ := newV_ok (P := P) (w := w) (o := o) H (by rw [ho]; exact hn)
    refine ⟨_, _, m.val w.heap.size, Stp.alloc hR hf h1 t, Mk.val_ren h3 (by simp [Sg.bind]) (by simp [Sg.bind]), .inl h2⟩
   ·exact extV_ok (P := P) (o := o) hR hf H (by rw [ho]; exact hv)
 unfold opV at hv
 split at hv
 ·rename_i t x y ho
  split at hv
  ·rename_i u1 u2 hx hy
   split at hv
   ·rename_i n h1 hs
    rw [frc_eq] at hv
    cases hv
    obtain ⟨w', h2, h3⟩ := storeV_ok (P := P) hR nx hs (H x _ hx) (H y _ hy)
    refine ⟨σ, w', undef, h2, rfl, .inr ⟨?_, rfl⟩⟩
    unfold execOp
    simp only [ho, Sem.run_bind, h3, Result.andThen_ok, Sem.run_pure]
   ·cases hv
  ·cases hv
 ·rename_i args ts ho
  exact builtV_ok hR hf H ho hv
 ·rename_i args ts ho
  exact builtV_ok hR hf H ho hv
 ·rename_i s t x ho
  split at hv
  ·rename_i u hu
   cases hv
   obtain ⟨v', h1, h2⟩ := pureV_ok (P := P) (o := o) hR H (by rw [ho]; exact hu)
   exact ⟨σ, w, v', Stp.refl hR nx, h1, .inl h2⟩
  ·split at hv
   ·rename_i u hx
    split at hv
    ·rename_i cs n hl
     cases hv
     obtain ⟨σ', w', v', h1, h2, h3⟩ := lendV_ok (P := P) hR hf hl (H x _ hx)
     refine ⟨σ', w', v', h1, h2, .inl ?_⟩
     unfold execOp
     simp only [ho, Sem.run_bind, h3, Result.andThen_ok, Sem.run_pure]
    ·split at hv
     ·rename_i m h1 hm
      cases hv
      obtain ⟨u', h2, w', h3, h4⟩ := markV_ok (P := P) hR hm (H x _ hx) nx
      refine ⟨σ, w', u', h3, h2, .inl ?_⟩
      unfold execOp
      rw [ho]
      have e1 : a.eval x = u' := by
       have := H x _ hx
       rw [h2] at this
       exact (Option.some.inj this).symm
      simp only [Sem.run_bind, e1, h4, Result.andThen_ok, Sem.run_pure]
     ·cases hv
   ·cases hv
 ·exact plain _ rfl hv
end
end Go.Proofs.Ytmoflcoijmmpjaa
