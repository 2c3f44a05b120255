/-
  Chapter 02: a cursor that writes a record behind what it has written: contracts that write into a row.
-/
import Derived.Test.YtgpgdkpfeoaidaaRecRr
namespace Go.Proofs.Ytgpgdkpfeoaidaa
set_option linter.unusedSimpArgs false
set_option linter.unusedVariables false
set_option linter.unusedSectionVars false
open Go Go.RowKit

def cuV : Tv := ⟨u8T, noXz, noL, fun _ => [], orSy (lsSy 45 [(17, 0), (18, 0), (20, 1)]) (lsSy 44 [(11, 1)]), fun _ => [], fun _ => 0⟩
def cuA (k L C : Nat) : Value := .agg ⟨[.slice (some ⟨k, 0, none⟩) L C, .slice none 0 0]⟩
theorem cu_w (cs : List Value) (L C : Nat) (a b : Int) : prjR 0 (runZ cuV Try.prog 9 44 [cuA 0 L C, .agg ⟨[.int .u64 a, .int .u64 b]⟩] [(0, ⟨.shut, cs⟩)] 3 []) =
  Res.ok ((Value.agg (Array.mk [Value.slice (some (Addr.mk 0 0 none)) (L + 16) C, Value.slice none 0 0]), Rw.mk Kd.shut (splice cs L [Value.int IntKind.u8 (b % (256 : Int)), Value.int IntKind.u8 (b / (256 : Int) % (256 :
 Int)), Value.int IntKind.u8 (b / (65536 : Int) % (256 : Int)), Value.int IntKind.u8 (b / (16777216 : Int) % (256 : Int)), Value.int IntKind.u8 (b / (4294967296 : Int) % (256 : Int)), Value.int IntKind.u8 (b /
 (1099511627776 : Int) % (256 : Int)), Value.int IntKind.u8 (b / (281474976710656 : Int) % (256 : Int)), Value.int IntKind.u8 (b / (72057594037927936 : Int) % (256 : Int)), Value.int IntKind.u8 (a % (256 : Int)), Value.int
 IntKind.u8 (a / (256 : Int) % (256 : Int)), Value.int IntKind.u8 (a / (65536 : Int) % (256 : Int)), Value.int IntKind.u8 (a / (16777216 : Int) % (256 : Int)), Value.int IntKind.u8 (a / (4294967296 : Int) % (256 : Int)),
 Value.int IntKind.u8 (a / (1099511627776 : Int) % (256 : Int)), Value.int IntKind.u8 (a / (281474976710656 : Int) % (256 : Int)), Value.int IntKind.u8 (a / (72057594037927936 : Int) % (256 : Int))])), [], [C <
 18446744073709551616, L + 16 ≤ C, true = true, L + 16 ≤ List.length cs, 16 ≤ 16, true = true]) := by kernel_rfl
theorem cu_8 (cs : List Value) (L C : Nat) (a : Int) : prjR 0 (runZ cuV Try.prog 9 45 [cuA 0 L C, .int .u64 a, .int .i64 8] [(0, ⟨.shut, cs⟩)] 3 []) =
  Res.ok ((Value.agg (Array.mk [Value.slice (some (Addr.mk 0 0 none)) (L + 1 + 1 + 1 + 1 + 1 + 1 + 1 + 1) C, Value.slice none 0 0]), Rw.mk Kd.shut (splice (splice (splice (splice (splice (splice (splice (splice cs L
 [Value.int IntKind.u8 (lowI IntKind.u8 (srI a (0 : Int)))]) (L + 1) [Value.int IntKind.u8 (lowI IntKind.u8 (srI a (8 : Int)))]) (L + 1 + 1) [Value.int IntKind.u8 (lowI IntKind.u8 (srI a (16 : Int)))]) (L + 1 + 1 + 1)
 [Value.int IntKind.u8 (lowI IntKind.u8 (srI a (24 : Int)))]) (L + 1 + 1 + 1 + 1) [Value.int IntKind.u8 (lowI IntKind.u8 (srI a (32 : Int)))]) (L + 1 + 1 + 1 + 1 + 1) [Value.int IntKind.u8 (lowI IntKind.u8 (srI a (40 :
 Int)))]) (L + 1 + 1 + 1 + 1 + 1 + 1) [Value.int IntKind.u8 (lowI IntKind.u8 (srI a (48 : Int)))]) (L + 1 + 1 + 1 + 1 + 1 + 1 + 1) [Value.int IntKind.u8 (lowI IntKind.u8 (srI a (56 : Int)))])), [], [(0 : Int) ≤ (0 : Int) ∧
 (0 : Int) ≤ (64 : Int), C < 18446744073709551616, L + 1 ≤ C, true = true, L + 1 ≤ List.length cs, 1 ≤ 1, true = true, (0 : Int) ≤ (8 : Int) ∧ (8 : Int) ≤ (64 : Int), C < 18446744073709551616, L + 1 + 1 ≤ C, true = true, L
 + 1 + 1 ≤ List.length (splice cs L [Value.int IntKind.u8 (lowI IntKind.u8 (srI a (0 : Int)))]), 1 ≤ 1, true = true, (0 : Int) ≤ (16 : Int) ∧ (16 : Int) ≤ (64 : Int), C < 18446744073709551616, L + 1 + 1 + 1 ≤ C, true =
 true, L + 1 + 1 + 1 ≤ List.length (splice (splice cs L [Value.int IntKind.u8 (lowI IntKind.u8 (srI a (0 : Int)))]) (L + 1) [Value.int IntKind.u8 (lowI IntKind.u8 (srI a (8 : Int)))]), 1 ≤ 1, true = true, (0 : Int) ≤ (24 :
 Int) ∧ (24 : Int) ≤ (64 : Int), C < 18446744073709551616, L + 1 + 1 + 1 + 1 ≤ C, true = true, L + 1 + 1 + 1 + 1 ≤ List.length (splice (splice (splice cs L [Value.int IntKind.u8 (lowI IntKind.u8 (srI a (0 : Int)))]) (L +
 1) [Value.int IntKind.u8 (lowI IntKind.u8 (srI a (8 : Int)))]) (L + 1 + 1) [Value.int IntKind.u8 (lowI IntKind.u8 (srI a (16 : Int)))]), 1 ≤ 1, true = true, (0 : Int) ≤ (32 : Int) ∧ (32 : Int) ≤ (64 : Int), C <
 18446744073709551616, L + 1 + 1 + 1 + 1 + 1 ≤ C, true = true, L + 1 + 1 + 1 + 1 + 1 ≤ List.length (splice (splice (splice (splice cs L [Value.int IntKind.u8 (lowI IntKind.u8 (srI a (0 : Int)))]) (L + 1) [Value.int
 IntKind.u8 (lowI IntKind.u8 (srI a (8 : Int)))]) (L + 1 + 1) [Value.int IntKind.u8 (lowI IntKind.u8 (srI a (16 : Int)))]) (L + 1 + 1 + 1) [Value.int IntKind.u8 (lowI IntKind.u8 (srI a (24 : Int)))]), 1 ≤ 1, true = true,
 (0 : Int) ≤ (40 : Int) ∧ (40 : Int) ≤ (64 : Int), C < 18446744073709551616, L + 1 + 1 + 1 + 1 + 1 + 1 ≤ C, true = true, L + 1 + 1 + 1 + 1 + 1 + 1 ≤ List.length (splice (splice (splice (splice (splice cs L [Value.int
 IntKind.u8 (lowI IntKind.u8 (srI a (0 : Int)))]) (L + 1) [Value.int IntKind.u8 (lowI IntKind.u8 (srI a (8 : Int)))]) (L + 1 + 1) [Value.int IntKind.u8 (lowI IntKind.u8 (srI a (16 : Int)))]) (L + 1 + 1 + 1) [Value.int
 IntKind.u8 (lowI IntKind.u8 (srI a (24 : Int)))]) (L + 1 + 1 + 1 + 1) [Value.int IntKind.u8 (lowI IntKind.u8 (srI a (32 : Int)))]), 1 ≤ 1, true = true, (0 : Int) ≤ (48 : Int) ∧ (48 : Int) ≤ (64 : Int), C <
 18446744073709551616, L + 1 + 1 + 1 + 1 + 1 + 1 + 1 ≤ C, true = true, L + 1 + 1 + 1 + 1 + 1 + 1 + 1 ≤ List.length (splice (splice (splice (splice (splice (splice cs L [Value.int IntKind.u8 (lowI IntKind.u8 (srI a (0 :
 Int)))]) (L + 1) [Value.int IntKind.u8 (lowI IntKind.u8 (srI a (8 : Int)))]) (L + 1 + 1) [Value.int IntKind.u8 (lowI IntKind.u8 (srI a (16 : Int)))]) (L + 1 + 1 + 1) [Value.int IntKind.u8 (lowI IntKind.u8 (srI a (24 :
 Int)))]) (L + 1 + 1 + 1 + 1) [Value.int IntKind.u8 (lowI IntKind.u8 (srI a (32 : Int)))]) (L + 1 + 1 + 1 + 1 + 1) [Value.int IntKind.u8 (lowI IntKind.u8 (srI a (40 : Int)))]), 1 ≤ 1, true = true, (0 : Int) ≤ (56 : Int) ∧
 (56 : Int) ≤ (64 : Int), C < 18446744073709551616, L + 1 + 1 + 1 + 1 + 1 + 1 + 1 + 1 ≤ C, true = true, L + 1 + 1 + 1 + 1 + 1 + 1 + 1 + 1 ≤ List.length (splice (splice (splice (splice (splice (splice (splice cs L
 [Value.int IntKind.u8 (lowI IntKind.u8 (srI a (0 : Int)))]) (L + 1) [Value.int IntKind.u8 (lowI IntKind.u8 (srI a (8 : Int)))]) (L + 1 + 1) [Value.int IntKind.u8 (lowI IntKind.u8 (srI a (16 : Int)))]) (L + 1 + 1 + 1)
 [Value.int IntKind.u8 (lowI IntKind.u8 (srI a (24 : Int)))]) (L + 1 + 1 + 1 + 1) [Value.int IntKind.u8 (lowI IntKind.u8 (srI a (32 : Int)))]) (L + 1 + 1 + 1 + 1 + 1) [Value.int IntKind.u8 (lowI IntKind.u8 (srI a (40 :
 Int)))]) (L + 1 + 1 + 1 + 1 + 1 + 1) [Value.int IntKind.u8 (lowI IntKind.u8 (srI a (48 : Int)))]), 1 ≤ 1, true = true]) := by kernel_rfl
theorem cu_4 (cs : List Value) (L C : Nat) (a : Int) : prjR 0 (runZ cuV Try.prog 9 45 [cuA 0 L C, .int .u64 a, .int .i64 4] [(0, ⟨.shut, cs⟩)] 3 []) =
  Res.ok ((Value.agg (Array.mk [Value.slice (some (Addr.mk 0 0 none)) (L + 1 + 1 + 1 + 1) C, Value.slice none 0 0]), Rw.mk Kd.shut (splice (splice (splice (splice cs L [Value.int IntKind.u8 (lowI IntKind.u8 (srI a (0 :
 Int)))]) (L + 1) [Value.int IntKind.u8 (lowI IntKind.u8 (srI a (8 : Int)))]) (L + 1 + 1) [Value.int IntKind.u8 (lowI IntKind.u8 (srI a (16 : Int)))]) (L + 1 + 1 + 1) [Value.int IntKind.u8 (lowI IntKind.u8 (srI a (24 :
 Int)))])), [], [(0 : Int) ≤ (0 : Int) ∧ (0 : Int) ≤ (64 : Int), C < 18446744073709551616, L + 1 ≤ C, true = true, L + 1 ≤ List.length cs, 1 ≤ 1, true = true, (0 : Int) ≤ (8 : Int) ∧ (8 : Int) ≤ (64 : Int), C <
 18446744073709551616, L + 1 + 1 ≤ C, true = true, L + 1 + 1 ≤ List.length (splice cs L [Value.int IntKind.u8 (lowI IntKind.u8 (srI a (0 : Int)))]), 1 ≤ 1, true = true, (0 : Int) ≤ (16 : Int) ∧ (16 : Int) ≤ (64 : Int), C <
 18446744073709551616, L + 1 + 1 + 1 ≤ C, true = true, L + 1 + 1 + 1 ≤ List.length (splice (splice cs L [Value.int IntKind.u8 (lowI IntKind.u8 (srI a (0 : Int)))]) (L + 1) [Value.int IntKind.u8 (lowI IntKind.u8 (srI a (8 :
 Int)))]), 1 ≤ 1, true = true, (0 : Int) ≤ (24 : Int) ∧ (24 : Int) ≤ (64 : Int), C < 18446744073709551616, L + 1 + 1 + 1 + 1 ≤ C, true = true, L + 1 + 1 + 1 + 1 ≤ List.length (splice (splice (splice cs L [Value.int
 IntKind.u8 (lowI IntKind.u8 (srI a (0 : Int)))]) (L + 1) [Value.int IntKind.u8 (lowI IntKind.u8 (srI a (8 : Int)))]) (L + 1 + 1) [Value.int IntKind.u8 (lowI IntKind.u8 (srI a (16 : Int)))]), 1 ≤ 1, true = true]) := by kernel_rfl
theorem cu_2 (cs : List Value) (L C : Nat) (a : Int) : prjR 0 (runZ cuV Try.prog 9 45 [cuA 0 L C, .int .u64 a, .int .i64 2] [(0, ⟨.shut, cs⟩)] 3 []) =
  Res.ok ((Value.agg (Array.mk [Value.slice (some (Addr.mk 0 0 none)) (L + 1 + 1) C, Value.slice none 0 0]), Rw.mk Kd.shut (splice (splice cs L [Value.int IntKind.u8 (lowI IntKind.u8 (srI a (0 : Int)))]) (L + 1) [Value.int
 IntKind.u8 (lowI IntKind.u8 (srI a (8 : Int)))])), [], [(0 : Int) ≤ (0 : Int) ∧ (0 : Int) ≤ (64 : Int), C < 18446744073709551616, L + 1 ≤ C, true = true, L + 1 ≤ List.length cs, 1 ≤ 1, true = true, (0 : Int) ≤ (8 : Int) ∧
 (8 : Int) ≤ (64 : Int), C < 18446744073709551616, L + 1 + 1 ≤ C, true = true, L + 1 + 1 ≤ List.length (splice cs L [Value.int IntKind.u8 (lowI IntKind.u8 (srI a (0 : Int)))]), 1 ≤ 1, true = true]) := by kernel_rfl
/-! ### what writes behind a row's contents -/
theorem splice_two {cs a b : List Value} {L m : Nat} (ha : a.length = m) (h : L + m + b.length ≤ cs.length) : splice (splice cs L a) (L + m) b = splice cs L (a ++ b) := by
  have e : cs = cs.take L ++ cs.drop L := (List.take_append_drop L cs).symm
  have hl : (cs.take L).length = L := by rw [List.length_take]; omega
  have hd : (cs.drop L).length = cs.length - L := List.length_drop
  rw [e, splice_at hl (by omega), splice_at hl (by rw [List.length_append]; omega), splice_at (by rw [List.length_append, hl, ha]) (by rw [List.length_drop]; omega)]
  rw [List.drop_drop, ha, List.length_append, ha]
  simp only [List.append_assoc]
theorem spl2 {cs : List Value} {L : Nat} (v0 v1 : Value) (h : L + 2 ≤ cs.length) : splice (splice cs L [v0]) (L + 1) [v1] = splice cs L [v0, v1] := by
  have e1 := splice_two (cs := cs) (a := [v0]) (b := [v1]) (L := L) (m := 1) rfl (by simp; omega)
  simp only [List.cons_append, List.nil_append] at e1
  (try simp only [Nat.add_assoc, Nat.reduceAdd])
  rw [e1]
theorem spl4 {cs : List Value} {L : Nat} (v0 v1 v2 v3 : Value) (h : L + 4 ≤ cs.length) : splice (splice (splice (splice cs L [v0]) (L + 1) [v1]) (L + 1 + 1) [v2]) (L + 1 + 1 + 1) [v3] = splice cs L [v0, v1, v2, v3] := by
  have e1 := splice_two (cs := cs) (a := [v0]) (b := [v1]) (L := L) (m := 1) rfl (by simp; omega)
  have e2 := splice_two (cs := cs) (a := [v0, v1]) (b := [v2]) (L := L) (m := 2) rfl (by simp; omega)
  have e3 := splice_two (cs := cs) (a := [v0, v1, v2]) (b := [v3]) (L := L) (m := 3) rfl (by simp; omega)
  simp only [List.cons_append, List.nil_append] at e1 e2 e3
  (try simp only [Nat.add_assoc, Nat.reduceAdd])
  rw [e1, e2, e3]
theorem spl8 {cs : List Value} {L : Nat} (v0 v1 v2 v3 v4 v5 v6 v7 : Value) (h : L + 8 ≤ cs.length) : splice (splice (splice (splice (splice (splice (splice (splice cs L [v0]) (L + 1) [v1]) (L + 1 + 1) [v2]) (L + 1 + 1 + 1) [v3]) (L + 1 + 1 + 1 + 1) [v4]) (L + 1 + 1 + 1 + 1 + 1) [v5]) (L + 1 + 1 + 1 + 1 + 1 + 1) [v6]) (L + 1 + 1 + 1 + 1 + 1 + 1 + 1) [v7] = splice cs L [v0, v1, v2, v3, v4, v5, v6, v7] := by
  have e1 := splice_two (cs := cs) (a := [v0]) (b := [v1]) (L := L) (m := 1) rfl (by simp; omega)
  have e2 := splice_two (cs := cs) (a := [v0, v1]) (b := [v2]) (L := L) (m := 2) rfl (by simp; omega)
  have e3 := splice_two (cs := cs) (a := [v0, v1, v2]) (b := [v3]) (L := L) (m := 3) rfl (by simp; omega)
  have e4 := splice_two (cs := cs) (a := [v0, v1, v2, v3]) (b := [v4]) (L := L) (m := 4) rfl (by simp; omega)
  have e5 := splice_two (cs := cs) (a := [v0, v1, v2, v3, v4]) (b := [v5]) (L := L) (m := 5) rfl (by simp; omega)
  have e6 := splice_two (cs := cs) (a := [v0, v1, v2, v3, v4, v5]) (b := [v6]) (L := L) (m := 6) rfl (by simp; omega)
  have e7 := splice_two (cs := cs) (a := [v0, v1, v2, v3, v4, v5, v6]) (b := [v7]) (L := L) (m := 7) rfl (by simp; omega)
  simp only [List.cons_append, List.nil_append] at e1 e2 e3 e4 e5 e6 e7
  (try simp only [Nat.add_assoc, Nat.reduceAdd])
  rw [e1, e2, e3, e4, e5, e6, e7]
/-- A run that writes into the row behind a cursor, at any name. -/
theorem tri_put {P : Program} {f : FuncId} {rest : List Value} (hrest : ∀ σ, renL σ rest = some rest) {bs : List Value} {k : Nat}
    (H : ∀ (cs : List Value) (L : Nat), Byts cs → cs.length ≤ 9223372036854775807 → L + k ≤ cs.length → ∃ h' nx' d, Tri P f (cuA 0 L cs.length :: rest) [(0, ⟨.shut, cs⟩)] 3 (cuA 0 (L + k) cs.length, h', nx', d) ∧ lk h' 0 = some ⟨.shut, splice cs L bs⟩) (hbs : Byts bs)
    {h : Hp} {nx n L : Nat} {r : Rw} (hl : lk h n = some r) (hb : Byts r.cs) (hk : r.kd = .shut) (hm : r.cs.length ≤ 9223372036854775807) (hle : L + k ≤ r.cs.length) :
    Tri P f (cuA n L r.cs.length :: rest) h nx (cuA n (L + k) r.cs.length, (n, ⟨.shut, splice r.cs L bs⟩) :: delH h n, nx, [n]) := by
  have ho : r.own := by intro e2; rw [hk] at e2; cases e2
  have hren : ∀ {σ : Sg} {n b L c c' : Nat}, σ.b n = some (b, 0) → cpR σ c = some c' → renV σ (cuA n L c) = some (cuA b L c') := fun {σ n b L c c'} h1 h2 => by
    have := renV_slice_mk (l := L) (o := 0) h1 h2
    exact renV_agg_mk (renL_mk (by simpa using this) (renL_mk rfl rfl))
  have hsB : Byts (splice r.cs L bs) ∨ True := .inr trivial
  have fsp : Fl (splice r.cs L bs) := fun σ => renL_splice L (fl_byts hbs σ) (fl_byts hb σ)
  refine ⟨⟨Nat.le_refl _, fun m _ hd => ?_, fun hB m hm => ?_⟩, fun hB W σ w args' hR hf ha => ?_⟩
  · simp only [List.mem_singleton] at hd
    simp only
    rw [lk_cons, if_neg (Ne.symm hd), lk_delH, if_neg (Ne.symm hd)]
  · simp only at hm ⊢
    have hn : n < nx := Nat.lt_of_not_le fun e => by have := hB n e; rw [hl] at this; cases this
    rw [lk_cons, if_neg (by omega), lk_delH, if_neg (by omega)]
    exact hB m hm
  obtain ⟨v', vs', hv, hn, rfl⟩ := renL_cons ha
  rw [hrest σ] at hn
  cases hn
  obtain ⟨b, s, vs, hp, hvs, hkd⟩ := hR.row _ _ hl
  have hvv : vs = r.cs := by
    have := fl_byts hb σ
    rw [this] at hvs
    exact (Option.some.inj hvs).symm
  subst hvv
  rw [hk] at hkd
  obtain ⟨e0, hge, t, hrow⟩ := hkd
  subst e0
  have hv2 : renV σ (cuA n L r.cs.length) = some (cuA b L r.cs.length) := hren hp (by unfold cpR; rw [if_pos (by unfold capBig; omega)])
  rw [hv2] at hv
  cases hv
  obtain ⟨full, hfull⟩ : ∃ full, full = r.cs := ⟨_, rfl⟩
  rw [← hfull] at hrow hb hm hle fsp ⊢
  have hR0 : Rl W ⟨fun k => if k = 0 then some (b, 0) else none, fun _ => none⟩ [(0, ⟨.shut, full⟩)] w := by
    refine ⟨hR.ext, fun k r' hk' => ?_, fun k m r1 s1 p1 q1 h1 h2 _ _ _ _ _ => ?_⟩
    · rw [lk_cons] at hk'
      split at hk'
      · rename_i e; cases hk'; subst e
        exact ⟨b, 0, full, rfl, fl_byts hb _, rfl, hge, t, hrow⟩
      · simp [lk] at hk'
    · rw [lk_cons] at h1 h2
      split at h1
      · rename_i e1
        split at h2
        · rename_i e2; omega
        · simp [lk] at h2
      · simp [lk] at h1
  obtain ⟨h', nx', d, T, hl'⟩ := H full L hb hm hle
  have hv0 : renV (⟨fun k => if k = 0 then some (b, 0) else none, fun _ => none⟩ : Sg) (cuA 0 L full.length) = some (cuA b L full.length) := hren rfl (by unfold cpR; rw [if_pos (by unfold capBig; omega)])
  refine (T.2 (bdB_ok rfl) W _ w _ hR0 (fun k h1 _ => ⟨if_neg (by omega), rfl⟩) (renL_mk hv0 (hrest _))).mono ?_
  rintro e w' ⟨σ', u, S, hu, rfl⟩
  have keep : ∀ b', b' < w.heap.size → b' ≠ b → w'.heap[b']? = w.heap[b']? := fun b' h1 h2 => S.fr b' h1 fun k r1 p1 hk1 _ hp1 => by
    rw [lk_cons] at hk1
    split at hk1
    · rename_i e; subst e
      simp only [if_true, Option.some.injEq] at hp1
      rw [← hp1]; exact Ne.symm h2
    · simp [lk] at hk1
  have e4 : σ'.b 0 = some (b, 0) := S.le.1 0 (b, 0) rfl
  have hdel : ∀ m r', lk (delH h n) m = some r' → lk h m = some r' ∧ m ≠ n := fun m r' hm => by
    rw [lk_delH] at hm
    split at hm
    · cases hm
    · rename_i e; exact ⟨hm, Ne.symm e⟩
  have cls : ∀ m r', lk ((n, ⟨.shut, splice full L bs⟩) :: delH h n) m = some r' → (m = n ∧ r' = ⟨.shut, splice full L bs⟩) ∨ (lk h m = some r' ∧ m ≠ n) := fun m r' hm => by
    rw [lk_cons] at hm
    split at hm
    · rename_i e; cases hm; exact .inl ⟨e.symm, rfl⟩
    · exact .inr (hdel m r' hm)
  have own : ∀ m r', lk ((n, ⟨.shut, splice full L bs⟩) :: delH h n) m = some r' → r'.own → ∃ s, lk h m = some s ∧ s.own := fun m r' hm hw => by
    rcases cls m r' hm with ⟨rfl, _⟩ | ⟨h1, _⟩
    · exact ⟨r, hl, ho⟩
    · exact ⟨r', h1, hw⟩
  have hnew : ∃ t2, w'.heap[b]? = some (.cells (splice full L bs).toArray t2 (0, 0)) := by
    obtain ⟨b2, s2, vs2, e1, e2, e3⟩ := S.rl.row 0 _ hl'
    rw [e4] at e1
    cases e1
    have e5 := fsp σ'
    rw [e5] at e2
    cases e2
    obtain ⟨_, _, t2, e6⟩ := e3
    exact ⟨t2, e6⟩
  obtain ⟨t2, hnew⟩ := hnew
  refine ⟨σ, u, ⟨Sg.le.refl σ, fun _ _ => ⟨rfl, rfl⟩, ⟨S.rl.ext, fun m r' hm => ?_, fun m k r1 s1 p1 q1 h1 h2 o1 o2 hp1 hq1 e => ?_⟩, S.size, fun b' h1 h2 => keep b' h1 fun e => h2 n r (b, 0) hl ho hp e.symm, fun m r1 p1 h1 h2 h3 => ?_⟩, ?_, rfl⟩
  · rcases cls m r' hm with ⟨rfl, rfl⟩ | ⟨h1, h2⟩
    · exact ⟨b, 0, splice full L bs, hp, fsp _, rfl, hge, t2, hnew⟩
    · exact (hR.row m r' h1).keep (Sg.le.refl σ) fun ho' q hq => keep _ (hR.lt h1 hq) fun e => h2 (hR.inj m n r' r q (b, 0) h1 hl ho' ho hq hp e)
  · obtain ⟨s1', g1, g2⟩ := own _ _ h1 o1
    obtain ⟨s2', g3, g4⟩ := own _ _ h2 o2
    exact hR.inj m k s1' s2' p1 q1 g1 g3 g2 g4 hp1 hq1 e
  · obtain ⟨s1', g1, g2⟩ := own _ _ h1 h2
    exact .inr ⟨m, s1', p1, g1, g2, h3, rfl⟩
  · have h5 : renV σ' (cuA 0 (L + k) full.length) = some (cuA b (L + k) full.length) := hren e4 (by unfold cpR; rw [if_pos (by unfold capBig; omega)])
    rw [h5] at hu
    cases hu
    exact hren hp (by unfold cpR; rw [if_pos (by unfold capBig; omega)])
/-- Such a function's contract: how many bytes, and which, by what it is given beside the cursor. -/
def mkPut (f0 : FuncId) (g : List Value → Option (Nat × List Value × List Prop)) : TFun := fun f args h nx tp => bif Nat.beq f f0 then some (match args with
  | .agg ⟨[.slice (some ⟨n, o, none⟩) L C, .slice none l c]⟩ :: rest => (match lk h n, g rest with
    | some r, some (k, bs, ob) => (match r.kd with
      | .shut => bif Nat.beq l 0 && Nat.beq c 0 then .ok ((cuA n (L + k) C, (n, ⟨.shut, splice r.cs L bs⟩) :: delH h n, nx, [n]), tp, (o = 0) :: (C = r.cs.length) :: (C ≤ 9223372036854775807) :: (L + k ≤ C) :: (Byts r.cs) :: ob) else .no
      | _ => .no)
    | _, _ => .no)
  | _ => .no) else none
def PutOk (P : Program) (f : FuncId) (g : List Value → Option (Nat × List Value × List Prop)) : Prop := ∀ rest k bs ob, g rest = some (k, bs, ob) → Alls ob → (∀ σ, renL σ rest = some rest) ∧ Byts bs ∧
  ∀ (cs : List Value) (L : Nat), Byts cs → cs.length ≤ 9223372036854775807 → L + k ≤ cs.length → ∃ h' nx' d, Tri P f (cuA 0 L cs.length :: rest) [(0, ⟨.shut, cs⟩)] 3 (cuA 0 (L + k) cs.length, h', nx', d) ∧ lk h' 0 = some ⟨.shut, splice cs L bs⟩
theorem mkPut_one {P : Program} {f0 : FuncId} {g : List Value → Option (Nat × List Value × List Prop)} (H : PutOk P f0 g) : TOneZ P (mkPut f0 g) := by
  intro f args h nx tp out tp' ob e ho
  unfold mkPut at e
  rcases bif_or e with ⟨hf, e1⟩ | ⟨_, e1⟩
  case inr => cases e1
  clear e
  obtain rfl := Nat.eq_of_beq_eq_true hf
  have e := Option.some.inj e1
  clear e1
  split at e
  case h_2 => cases e
  rename_i n o L C l c rest
  split at e
  case h_2 => cases e
  rename_i r k bs ob' hl hg
  split at e
  case h_2 => cases e
  rename_i hk
  obtain ⟨hb, e2⟩ := bif_ok e
  clear e
  simp only [Bool.and_eq_true] at hb
  obtain rfl := Nat.eq_of_beq_eq_true hb.1
  obtain rfl := Nat.eq_of_beq_eq_true hb.2
  simp only [Res.ok.injEq, Prod.mk.injEq] at e2
  obtain ⟨rfl, rfl, rfl⟩ := e2
  obtain ⟨rfl, rfl, h3, h4, h5, ho⟩ := ho
  obtain ⟨hr, hbs, HT⟩ := H rest k bs ob' hg ho
  exact tri_put hr HT hbs hl h5 hk h3 h4
/-! ### wide and write -/
def p16 (a b : Int) : List Value := d8 b ++ d8 a
def gWide : List Value → Option (Nat × List Value × List Prop) := fun l => match l with
  | [.agg ⟨[.int .u64 a, .int .u64 b]⟩] => some (16, p16 a b, [])
  | _ => none
def pEn (a : Int) (s : Nat) : List Value := bif Nat.beq s 8 then e8 a else bif Nat.beq s 4 then e4 a else e2 a
def gWrite : List Value → Option (Nat × List Value × List Prop) := fun l => match l with
  | [.int .u64 a, .int .i64 s] => some (s.toNat, pEn a s.toNat, [s = 8 ∨ s = 4 ∨ s = 2])
  | _ => none
theorem wide_put : PutOk Try.prog 44 gWide := by
  have hX : XOkZ cuV Try.prog := noXz_ok rfl
  have hT : TOkZ cuV Try.prog := T_okV rfl u8T_one
  have hL : LOkZ cuV Try.prog := noL_okV rfl
  intro rest k bs ob hg ho
  unfold gWide at hg
  split at hg
  case h_2 => cases hg
  rename_i a b
  simp only [Option.some.injEq, Prod.mk.injEq] at hg
  obtain ⟨rfl, rfl, rfl⟩ := hg
  refine ⟨fun σ => rfl, (d8_Byts _).app (d8_Byts _), fun cs L hb hm hle => ?_⟩
  refine run_row hX hT hL (cu_w cs L cs.length a b) ?_ rfl
  simp only [Alls]
  repeat' (first | with_reducible exact trivial | with_reducible apply And.intro)
  all_goals first | with_reducible assumption | omega | with_reducible rfl | (skip)
theorem write_put : PutOk Try.prog 45 gWrite := by
  have hX : XOkZ cuV Try.prog := noXz_ok rfl
  have hT : TOkZ cuV Try.prog := T_okV rfl u8T_one
  have hL : LOkZ cuV Try.prog := noL_okV rfl
  intro rest k bs ob hg ho
  unfold gWrite at hg
  split at hg
  case h_2 => cases hg
  rename_i a s
  simp only [Option.some.injEq, Prod.mk.injEq] at hg
  obtain ⟨rfl, rfl, rfl⟩ := hg
  have flat : ∀ x y : Int, ∀ σ : Sg, renL σ [Value.int .u64 x, Value.int .i64 y] = some [Value.int .u64 x, Value.int .i64 y] := fun x y σ => by simp [renL, renV]
  rcases ho.1 with rfl | rfl | rfl
  · refine ⟨flat _ _, e8_Byts a, fun cs L hb hm hle => ?_⟩
    have hle' : L + 8 ≤ cs.length := hle
    obtain ⟨h', nx', d, T, hl⟩ := run_row hX hT hL (cu_8 cs L cs.length a) (by
      simp only [Alls, splice_length]
      repeat' (first | with_reducible exact trivial | with_reducible apply And.intro)
      all_goals first | with_reducible assumption | omega | with_reducible rfl | (skip)) rfl
    refine ⟨h', nx', d, T, ?_⟩
    rw [hl, spl8 _ _ _ _ _ _ _ _ hle']
    rfl
  · refine ⟨flat _ _, e4_Byts a, fun cs L hb hm hle => ?_⟩
    have hle' : L + 4 ≤ cs.length := hle
    obtain ⟨h', nx', d, T, hl⟩ := run_row hX hT hL (cu_4 cs L cs.length a) (by
      simp only [Alls, splice_length]
      repeat' (first | with_reducible exact trivial | with_reducible apply And.intro)
      all_goals first | with_reducible assumption | omega | with_reducible rfl | (skip)) rfl
    refine ⟨h', nx', d, T, ?_⟩
    rw [hl, spl4 _ _ _ _ hle']
    rfl
  · refine ⟨flat _ _, e2_Byts a, fun cs L hb hm hle => ?_⟩
    have hle' : L + 2 ≤ cs.length := hle
    obtain ⟨h', nx', d, T, hl⟩ := run_row hX hT hL (cu_2 cs L cs.length a) (by
      simp only [Alls, splice_length]
      repeat' (first | with_reducible exact trivial | with_reducible apply And.intro)
      all_goals first | with_reducible assumption | omega | with_reducible rfl | (skip)) rfl
    refine ⟨h', nx', d, T, ?_⟩
    rw [hl, spl2 _ _ hle']
    rfl
end Go.Proofs.Ytgpgdkpfeoaidaa
