/-
  Chapter 12: tables as sorted lists: what a call of Put makes of them (plain laws).
-/
import Derived.Test.YtojakfnljopjbaaGrAX
import Derived.Test.YtojakfnljopjbaaGrAY
import Derived.Test.YtojakfnljopjbaaGrBA
import Derived.Test.YtojakfnljopjbaaGrAZ
namespace Go.Proofs.Ytojakfnljopjbaa
set_option linter.unusedSimpArgs false
set_option linter.unusedVariables false
set_option linter.unusedSectionVars false
open Go Go.RowKit
theorem Lp : ∀ {ps : List Pr}, asc ps = true ↔ ps.Pairwise (fun p q => ltK p.1 q.1 = true)
 | [] => by simp [asc]
 | p :: ps => by
   constructor
   ·intro h
    exact List.pairwise_cons.2 ⟨Js h, Lp.1 (Hc h)⟩
   ·intro h
    obtain ⟨h1, h2⟩ := List.pairwise_cons.1 h
    have h3 := Lp.2 h2
    cases ps with
    | nil => rfl
    | cons q l =>
     show (ltK p.1 q.1 && asc (q :: l)) = true
     rw [h1 q (List.mem_cons_self ..), h3]
     rfl
def insP (ts : List Pr) (p : Pr) : List Pr := ts.take (lbP ts p.1) ++ p :: ts.drop (lbP ts p.1)
def setP (ts : List Pr) (p : Pr) : List Pr := ts.take (lbP ts p.1) ++ p :: ts.drop (lbP ts p.1 + 1)
def okK (p : Pr) : Bool := decide (1 ≤ p.1.length) && (decide (p.1.length ≤ 32) && decide (p.2.1.length ≤ 128))
def layP (ts : List Pr) (p : Pr) : List Pr := bif okK p then (bif hitP ts p.1 then setP ts p else bif decide (64 ≤ ts.length) then ts else insP ts p) else ts
structure Ti (ts : List Pr) : Prop where
 a : asc ts = true
 o : ∀ p ∈ ts, PrOk p
 k : ∀ p ∈ ts, PkOk p
 m : ts.length ≤ 64
theorem Ti.nil : Ti [] := ⟨rfl, fun p h => (by cases h), fun p h => (by cases h), by simp⟩
theorem lb_ge {ps : List Pr} {k : List Int} (ha : asc ps = true) : ∀ p ∈ ps.drop (lbP ps k), ltK p.1 k = false := fun p hp => by
 obtain ⟨i, hi, e⟩ := List.mem_iff_getElem.1 hp
 rw [List.length_drop] at hi
 have : ps[lbP ps k + i]? = some p := by rw [← e, List.getElem_drop]; exact List.getElem?_eq_getElem (by omega)
 cases h : ltK p.1 k with
 | false => rfl
 | true => have := (lb_at ha this).1 h; omega
theorem okK_iff {p : Pr} : okK p = true ↔ 1 ≤ p.1.length ∧ p.1.length ≤ 32 ∧ p.2.1.length ≤ 128 := by unfold okK; simp
theorem Ti.ins {ts : List Pr} {p : Pr} (h : Ti ts) (hp : PrOk p) (hk : okK p = true) (hh : hitP ts p.1 = false) (hm : ts.length < 64) : Ti (insP ts p) := by
 have hle := It ts p.1
 obtain ⟨k1, k2, k3⟩ := okK_iff.1 hk
 have hmem : ∀ q, q ∈ insP ts p → q = p ∨ q ∈ ts := fun q hq => by
  unfold insP at hq
  rcases List.mem_append.1 hq with hq | hq
  ·exact .inr (List.mem_of_mem_take hq)
  ·rcases List.mem_cons.1 hq with rfl | hq
   ·exact .inl rfl
   ·exact .inr (List.mem_of_mem_drop hq)
 refine ⟨?_, fun q hq => ?_, fun q hq => ?_, ?_⟩
 ·rw [Lp]
  unfold insP
  have hpw := Lp.1 h.a
  have hsplit : (ts.take (lbP ts p.1) ++ ts.drop (lbP ts p.1)).Pairwise (fun p q => ltK p.1 q.1 = true) := by rw [List.take_append_drop]; exact hpw
  obtain ⟨s1, s2, s3⟩ := List.pairwise_append.1 hsplit
  refine List.pairwise_append.2 ⟨s1, List.pairwise_cons.2 ⟨fun q hq => ?_, s2⟩, fun a ha b hb => ?_⟩
  ·have g1 := lb_ge h.a q hq
   cases g2 : ltK p.1 q.1 with
   | true => rfl
   | false =>
    have := ltK_tot g1 g2
    have : hitP ts p.1 = true := (hit_iff h.a).2 ⟨q, List.mem_of_mem_drop hq, this⟩
    rw [hh] at this; cases this
  ·rcases List.mem_cons.1 hb with rfl | hb
   ·exact lb_drop h.a a ha
   ·exact s3 a ha b hb
 ·rcases hmem q hq with rfl | hq
  ·exact hp
  ·exact h.o q hq
 ·rcases hmem q hq with rfl | hq
  ·exact ⟨k1, by omega, by omega⟩
  ·exact h.k q hq
 ·unfold insP
  rw [List.length_append, List.length_cons, List.length_take, List.length_drop]
  omega
theorem Ti.set {ts : List Pr} {p : Pr} (h : Ti ts) (hp : PrOk p) (hk : okK p = true) (hh : hitP ts p.1 = true) : Ti (setP ts p) := by
 obtain ⟨e1, e2, e3⟩ := Hl hh
 obtain ⟨k1, k2, k3⟩ := okK_iff.1 hk
 have hmem : ∀ q, q ∈ setP ts p → q = p ∨ q ∈ ts := fun q hq => by
  unfold setP at hq
  rcases List.mem_append.1 hq with hq | hq
  ·exact .inr (List.mem_of_mem_take hq)
  ·rcases List.mem_cons.1 hq with rfl | hq
   ·exact .inl rfl
   ·exact .inr (List.mem_of_mem_drop hq)
 have hd : ts.drop (lbP ts p.1) = atP ts p.1 :: ts.drop (lbP ts p.1 + 1) := by
  rw [List.drop_eq_getElem_cons e3]
  congr 1
  have := List.getElem?_eq_getElem e3
  rw [e1] at this
  exact (Option.some.inj this).symm
 refine ⟨?_, fun q hq => ?_, fun q hq => ?_, ?_⟩
 ·rw [Lp]
  unfold setP
  have hsplit : (ts.take (lbP ts p.1) ++ ts.drop (lbP ts p.1)).Pairwise (fun p q => ltK p.1 q.1 = true) := by rw [List.take_append_drop]; exact Lp.1 h.a
  rw [hd] at hsplit
  obtain ⟨s1, s2, s3⟩ := List.pairwise_append.1 hsplit
  obtain ⟨s4, s5⟩ := List.pairwise_cons.1 s2
  refine List.pairwise_append.2 ⟨s1, List.pairwise_cons.2 ⟨fun q hq => ?_, s5⟩, fun a ha b hb => ?_⟩
  ·have := s4 q hq; rw [e2] at this; exact this
  ·rcases List.mem_cons.1 hb with rfl | hb
   ·exact lb_drop h.a a ha
   ·exact s3 a ha b (List.mem_cons_of_mem _ hb)
 ·rcases hmem q hq with rfl | hq
  ·exact hp
  ·exact h.o q hq
 ·rcases hmem q hq with rfl | hq
  ·exact ⟨k1, by omega, by omega⟩
  ·exact h.k q hq
 ·have := h.m
  unfold setP
  rw [List.length_append, List.length_cons, List.length_take, List.length_drop]
  omega
theorem Ti.lay {ts : List Pr} {p : Pr} (h : Ti ts) (hp : PrOk p) : Ti (layP ts p) := by
 unfold layP
 cases hk : okK p with
 | false => exact h
 | true =>
  simp only [cond_true]
  cases hh : hitP ts p.1 with
  | true => exact h.set hp hk hh
  | false =>
   simp only [cond_false]
   by_cases hm : 64 ≤ ts.length
   ·rw [decide_eq_true hm]; exact h
   ·rw [decide_eq_false hm]; exact h.ins hp hk hh (by omega)
theorem Hk (a b : List Pr) : cpD (a ++ b) = cpD a ++ cpD b := by simp [cpD]
theorem C0 (ts : List Pr) : (cpD ts).length = ts.length * 3 := (H2 ts).len
theorem Kt (ts : List Pr) (i : Nat) : (cpD ts).take (i * 3) = cpD (ts.take i) := by
 have e := Hk (ts.take i) (ts.drop i)
 rw [List.take_append_drop] at e
 rw [e]
 by_cases h : i ≤ ts.length
 ·rw [List.take_left' (by rw [C0, List.length_take]; omega)]
 ·rw [List.drop_of_length_le (by omega)]
  simp only [cpD, List.flatMap_nil, List.append_nil]
  have := C0 (ts.take i)
  rw [List.length_take] at this
  exact List.take_of_length_le (by show (cpD (ts.take i)).length ≤ _; rw [this]; omega)
theorem cpD_drop (ts : List Pr) (i : Nat) : (cpD ts).drop (i * 3) = cpD (ts.drop i) := by
 have e := Hk (ts.take i) (ts.drop i)
 rw [List.take_append_drop] at e
 rw [e]
 by_cases h : i ≤ ts.length
 ·rw [List.drop_left' (by rw [C0, List.length_take]; omega)]
 ·have h0 : ts.drop i = [] := List.drop_of_length_le (by omega)
  rw [h0]
  simp only [cpD, List.flatMap_nil, List.append_nil]
  exact List.drop_of_length_le (by show (cpD (ts.take i)).length ≤ _; rw [C0, List.length_take]; omega)
theorem Je (p : Pr) (ts : List Pr) : cpD (p :: ts) = prD none none p ++ cpD ts := rfl
theorem insD_cpD (ts : List Pr) (p : Pr) : insD (cpD ts) (lbP ts p.1) (prD none none p) = cpD (insP ts p) := by
 unfold insD insP
 rw [Kt, cpD_drop, Hk, Je]
theorem setD_cpD (ts : List Pr) (p : Pr) : setD (cpD ts) (lbP ts p.1 * 3) (prD none none p) = cpD (setP ts p) := by
 unfold setD setP
 have : lbP ts p.1 * 3 + (prD none none p).length = (lbP ts p.1 + 1) * 3 := by simp [prD]; omega
 rw [Kt, this, cpD_drop, Hk, Je]
theorem Bc (ts : List Pr) : B2 (cpD ts) = ts := prsOf_of (H2 ts)
theorem Ti.tb {ts : List Pr} (h : Ti ts) : TbOk (cpD ts) ts.length := ⟨by rw [Bc]; exact H2 ts, by rw [Bc]; exact h.o, by rw [Bc], by have := h.m; omega, by rw [Bc]; exact h.a⟩
theorem Ti.tk {ts : List Pr} (h : Ti ts) : TbK (cpD ts) ts.length := ⟨h.tb, by rw [Bc]; exact h.k⟩
theorem prD_one (p : Pr) : ∀ d ∈ prD none none p, DVone d := fun d hd => by
 simp only [prD, List.mem_cons, List.not_mem_nil, or_false] at hd
 rcases hd with rfl | rfl | rfl
 ·trivial
 ·trivial
 ·rfl
theorem cpD_one : ∀ (ts : List Pr), ∀ d ∈ cpD ts, DVone d
 | [], d, hd => by cases hd
 | p :: ts, d, hd => by
   rw [Je] at hd
   rcases List.mem_append.1 hd with hd | hd
   ·exact prD_one p d hd
   ·exact cpD_one ts d hd
structure LyI (m c1 q c2 : Nat) (ky vy : List Value) : Prop where
 k : BytI m ky
 v : BytI q vy
 m9 : m ≤ 1000
 q9 : q ≤ 1000
 c1 : m ≤ c1 ∧ c1 ≤ 9223372036854775807
 c2 : q ≤ c2 ∧ c2 ≤ 9223372036854775807
structure LnF (m : Nat) (ky F : List Value) : Prop where
 ln : LnOk ky m F
 t0 : F.take m = ky
 t3 : F.take (m + 3) = F
 n : m + 3 = F.length
 fl : Fl F
 b : Byts F
theorem BytI.byts {m : Nat} {ky : List Value} (h : BytI m ky) : Byts ky := ⟨h.1, h.2.1⟩
theorem lnF {m : Nat} {ky : List Value} (h : BytI m ky) (h9 : m ≤ 1000) : ∃ F, LnF m ky F := by
 have bz : Byts (ky ++ mk3 m) := h.byts.app (H9 m)
 have hl : (ky ++ mk3 m).length = m + 3 := by rw [List.length_append, h.2.2]; rfl
 exact ⟨ky ++ mk3 m, ⟨h.byts, by omega, rfl⟩, List.take_left' h.2.2, List.take_of_length_le (by omega), hl.symm, Do bz, bz⟩
theorem BytI.len {m : Nat} {ky : List Value} (h : BytI m ky) : (B1 ky).length = m := by
 have := congrArg List.length h.1
 rw [List.length_map, h.2.2] at this
 exact this.symm
theorem BytI.map {m : Nat} {ky : List Value} (h : BytI m ky) : ky.map DV.fl = byD (B1 ky) := by
 conv => lhs; rw [h.1]
 exact Hr _
theorem BytI.nil {m : Nat} {ky : List Value} (h : BytI m ky) (e : m = 0) : ky = [] := List.eq_nil_of_length_eq_zero (by rw [h.2.2, e])
theorem all1_byt {m : Nat} {ky : List Value} (h : BytI m ky) : all1 ky = true := by
 exact all1_byts h.byts
theorem ly_pr {m c1 q c2 : Nat} {ky vy : List Value} (I : LyI m c1 q c2 ky vy) : ([.sl m none (byD (B1 ky)), .sl q none (byD (B1 vy)), .fl (.bool false)] : List DV) = prD none none (B1 ky, B1 vy, false) := by
 show _ = [DV.sl (B1 ky).length none (byD (B1 ky)), DV.sl (B1 vy).length none (byD (B1 vy)), DV.fl (.bool false)]
 rw [I.k.len, I.v.len]
theorem ly_prg {m c1 q c2 : Nat} {ky vy : List Value} (I : LyI m c1 q c2 ky vy) : ([.sl m none (byD (B1 ky)), .sl 0 none [], .fl (.bool true)] : List DV) = prD none none (B1 ky, [], true) := by
 show _ = [DV.sl (B1 ky).length none (byD (B1 ky)), DV.sl 0 none [], DV.fl (.bool true)]
 rw [I.k.len]
theorem Kl (ts : List Pr) (p : Pr) : (insP ts p).length = ts.length + 1 := by
 have := It ts p.1
 unfold insP
 rw [List.length_append, List.length_cons, List.length_take, List.length_drop]
 omega
theorem setP_len {ts : List Pr} {p : Pr} (h : hitP ts p.1 = true) : (setP ts p).length = ts.length := by
 obtain ⟨_, _, e3⟩ := Hl h
 unfold setP
 rw [List.length_append, List.length_cons, List.length_take, List.length_drop]
 omega
theorem cpD_tl (ts : List Pr) (l : Nat) : ((cpD ts).drop (l * 3)).take (sbN ts.length l * 3) = cpD (ts.drop l) := by
 rw [cpD_drop]
 exact List.take_of_length_le (by rw [C0, List.length_drop, Dh]; exact Nat.le_refl _)
theorem lyr_ins (ts : List Pr) (p : Pr) : [] ++ (cpD ts).take (lbP ts p.1 * 3) ++ prD none none p ++ ((cpD ts).drop (lbP ts p.1 * 3)).take (sbN ts.length (lbP ts p.1) * 3) = cpD (insP ts p) := by
 rw [cpD_tl, Kt, List.nil_append]
 unfold insP
 rw [Hk, Je, List.append_assoc]
theorem lyr_set (ts : List Pr) (p : Pr) : [] ++ (cpD ts).take (lbP ts p.1 * 3) ++ prD none none p ++ ((cpD ts).drop ((lbP ts p.1 + 1) * 3)).take (sbN ts.length (lbP ts p.1 + 1) * 3) = cpD (setP ts p) := by
 rw [cpD_tl, Kt, List.nil_append]
 unfold setP
 rw [Hk, Je, List.append_assoc]
theorem lyr_insL (ts : List Pr) (k : List Int) : 0 + lbP ts k + 1 + sbN ts.length (lbP ts k) = ts.length + 1 := by
 have := It ts k
 rw [Dh]
 omega
theorem lyr_setL {ts : List Pr} {k : List Int} (h : hitP ts k = true) : 0 + lbP ts k + 1 + sbN ts.length (lbP ts k + 1) = ts.length := by
 obtain ⟨_, _, e3⟩ := Hl h
 rw [Dh]
 omega
theorem C8 {ts : List Pr} (h : ts.length = 0) : cpD ts = [] := by rw [List.eq_nil_of_length_eq_zero h]; rfl
theorem Ho (ts : List Pr) : Br (cpD ts) := cpD_one ts
theorem dv1_pr (p : Pr) : Br (prD none none p) := prD_one p
theorem Li {es : List DV} (h : Br es) (n : Nat) : Br (es.take n) := fun d hd => h d (List.mem_of_mem_take hd)
theorem dv1_dp {es : List DV} (h : Br es) (n : Nat) : Br (es.drop n) := fun d hd => h d (List.mem_of_mem_drop hd)
theorem Ti.at {ts : List Pr} (h : Ti ts) {m : Nat} {ky : List Value} (hk : BytI m ky) : AtOk (cpD ts) ky ts.length m := ⟨h.tb.P, h.tb.O, h.tb.l, by have := h.m; omega, hk⟩
theorem lyX {z : Bool} {F G : List Value} : XOkZ (lyV z F G) Try.prog := XOneZ.ok Ei rfl
theorem lyTv {z : Bool} {F G : List Value} : TOkZ (lyV z F G) Try.prog := Ly rfl (C4 (kpT_one F G) (C4 over_one (C4 bsTv_one (C4 insT9_one atT_one))))
theorem lyL {z : Bool} {F G : List Value} : LOkZ (lyV z F G) Try.prog := C9 rfl
theorem lyc {P : Program} {f : FuncId} {args : List Value} {h : Hp} {nx : Nat} {v : Value} {h1 h2 : Hp} {nx' : Nat} (T : TriC P f args h nx v h1 nx') (e : h1 = h2) : TriC P f args h nx v h2 nx' := e ▸ T
structure LyT (m c1 q c2 : Nat) (ky vy : List Value) (ts : List Pr) : Prop where
 oNk0 : m < 1 → TriC Try.prog 41 (lyA m c1 q c2 false) (lyN .old ky vy) 5 (.bool true) lySN 11
 oNk32 : ¬m < 1 → 32 < m → TriC Try.prog 41 (lyA m c1 q c2 false) (lyN .old ky vy) 5 (.bool true) lySN 11
 oNv : ¬m < 1 → ¬32 < m → 128 < q → TriC Try.prog 41 (lyA m c1 q c2 false) (lyN .old ky vy) 5 (.bool true) lySN 11
 oNins : ¬m < 1 → ¬32 < m → ¬128 < q → TriC Try.prog 41 (lyA m c1 q c2 false) (lyN .old ky vy) 5 (.bool true) (lyON 18 31 [(B1 ky, B1 vy, false)]) 32
 oEk0 : m < 1 → TriC Try.prog 41 (lyA m c1 q c2 false) (lyE .old ky vy) 6 (.bool true) lySE 12
 oEk32 : ¬m < 1 → 32 < m → TriC Try.prog 41 (lyA m c1 q c2 false) (lyE .old ky vy) 6 (.bool true) lySE 12
 oEv : ¬m < 1 → ¬32 < m → 128 < q → TriC Try.prog 41 (lyA m c1 q c2 false) (lyE .old ky vy) 6 (.bool true) lySE 12
 oEins : ¬m < 1 → ¬32 < m → ¬128 < q → TriC Try.prog 41 (lyA m c1 q c2 false) (lyE .old ky vy) 6 (.bool true) (lyO 19 38 [(B1 ky, B1 vy, false)]) 39
 oRk0 : m < 1 → TriC Try.prog 41 (lyA m c1 q c2 false) (lyR .old ts.length (cpD ts) (cpD ts) ky vy) 7 (.bool true) (lySR ts.length (cpD ts) (cpD ts)) 13
 oRk32 : ¬m < 1 → 32 < m → TriC Try.prog 41 (lyA m c1 q c2 false) (lyR .old ts.length (cpD ts) (cpD ts) ky vy) 7 (.bool true) (lySR ts.length (cpD ts) (cpD ts)) 13
 oRv : ¬m < 1 → ¬32 < m → 128 < q → TriC Try.prog 41 (lyA m c1 q c2 false) (lyR .old ts.length (cpD ts) (cpD ts) ky vy) 7 (.bool true) (lySR ts.length (cpD ts) (cpD ts)) 13
 oRup : ¬m < 1 → ¬32 < m → ¬128 < q → hitP ts (B1 ky) = true → TriC Try.prog 41 (lyA m c1 q c2 false) (lyR .old ts.length (cpD ts) (cpD ts) ky vy) 7 (.bool true) (lyO 18 37 (setP ts (B1 ky, B1 vy, false))) 38
 oRful : ¬m < 1 → ¬32 < m → ¬128 < q → hitP ts (B1 ky) = false → 64 ≤ ts.length → TriC Try.prog 41 (lyA m c1 q c2 false) (lyR .old ts.length (cpD ts) (cpD ts) ky vy) 7 (.bool true) (lySR ts.length (cpD ts) (cpD ts)) 13
 oRins : ¬m < 1 → ¬32 < m → ¬128 < q → hitP ts (B1 ky) = false → ¬64 ≤ ts.length → TriC Try.prog 41 (lyA m c1 q c2 false) (lyR .old ts.length (cpD ts) (cpD ts) ky vy) 7 (.bool true) (lyO 19 38 (insP ts (B1 ky, B1 vy, false))) 39
 gNk0 : m < 1 → TriC Try.prog 41 (lyA m c1 q c2 true) (lyN .old ky vy) 5 (.bool true) lySN 11
 gNk32 : ¬m < 1 → 32 < m → TriC Try.prog 41 (lyA m c1 q c2 true) (lyN .old ky vy) 5 (.bool true) lySN 11
 gNins : ¬m < 1 → ¬32 < m → TriC Try.prog 41 (lyA m c1 q c2 true) (lyN .old ky vy) 5 (.bool true) (lyON 18 31 [(B1 ky, [], true)]) 32
 gEk0 : m < 1 → TriC Try.prog 41 (lyA m c1 q c2 true) (lyE .old ky vy) 6 (.bool true) lySE 12
 gEk32 : ¬m < 1 → 32 < m → TriC Try.prog 41 (lyA m c1 q c2 true) (lyE .old ky vy) 6 (.bool true) lySE 12
 gEins : ¬m < 1 → ¬32 < m → TriC Try.prog 41 (lyA m c1 q c2 true) (lyE .old ky vy) 6 (.bool true) (lyO 19 38 [(B1 ky, [], true)]) 39
 gRk0 : m < 1 → TriC Try.prog 41 (lyA m c1 q c2 true) (lyR .old ts.length (cpD ts) (cpD ts) ky vy) 7 (.bool true) (lySR ts.length (cpD ts) (cpD ts)) 13
 gRk32 : ¬m < 1 → 32 < m → TriC Try.prog 41 (lyA m c1 q c2 true) (lyR .old ts.length (cpD ts) (cpD ts) ky vy) 7 (.bool true) (lySR ts.length (cpD ts) (cpD ts)) 13
 gRup : ¬m < 1 → ¬32 < m → hitP ts (B1 ky) = true → TriC Try.prog 41 (lyA m c1 q c2 true) (lyR .old ts.length (cpD ts) (cpD ts) ky vy) 7 (.bool true) (lyO 18 37 (setP ts (B1 ky, [], true))) 38
 gRful : ¬m < 1 → ¬32 < m → hitP ts (B1 ky) = false → 64 ≤ ts.length → TriC Try.prog 41 (lyA m c1 q c2 true) (lyR .old ts.length (cpD ts) (cpD ts) ky vy) 7 (.bool true) (lySR ts.length (cpD ts) (cpD ts)) 13
 gRins : ¬m < 1 → ¬32 < m → hitP ts (B1 ky) = false → ¬64 ≤ ts.length → TriC Try.prog 41 (lyA m c1 q c2 true) (lyR .old ts.length (cpD ts) (cpD ts) ky vy) 7 (.bool true) (lyO 19 38 (insP ts (B1 ky, [], true))) 39
 sNv : ¬m < 1 → ¬32 < m → 128 < q → TriC Try.prog 41 (lyA m c1 q c2 false) (lyN .shut ky vy) 5 (.bool true) lySN 11
 sNins : ¬m < 1 → ¬32 < m → ¬128 < q → TriC Try.prog 41 (lyA m c1 q c2 false) (lyN .shut ky vy) 5 (.bool true) (lyON 18 31 [(B1 ky, B1 vy, false)]) 32
 sEv : ¬m < 1 → ¬32 < m → 128 < q → TriC Try.prog 41 (lyA m c1 q c2 false) (lyE .shut ky vy) 6 (.bool true) lySE 12
 sEins : ¬m < 1 → ¬32 < m → ¬128 < q → TriC Try.prog 41 (lyA m c1 q c2 false) (lyE .shut ky vy) 6 (.bool true) (lyO 19 38 [(B1 ky, B1 vy, false)]) 39
 sRv : ¬m < 1 → ¬32 < m → 128 < q → TriC Try.prog 41 (lyA m c1 q c2 false) (lyR .shut ts.length (cpD ts) (cpD ts) ky vy) 7 (.bool true) (lySR ts.length (cpD ts) (cpD ts)) 13
 sRup : ¬m < 1 → ¬32 < m → ¬128 < q → hitP ts (B1 ky) = true → TriC Try.prog 41 (lyA m c1 q c2 false) (lyR .shut ts.length (cpD ts) (cpD ts) ky vy) 7 (.bool true) (lyO 18 37 (setP ts (B1 ky, B1 vy, false))) 38
 sRful : ¬m < 1 → ¬32 < m → ¬128 < q → hitP ts (B1 ky) = false → 64 ≤ ts.length → TriC Try.prog 41 (lyA m c1 q c2 false) (lyR .shut ts.length (cpD ts) (cpD ts) ky vy) 7 (.bool true) (lySR ts.length (cpD ts) (cpD ts)) 13
 sRins : ¬m < 1 → ¬32 < m → ¬128 < q → hitP ts (B1 ky) = false → ¬64 ≤ ts.length → TriC Try.prog 41 (lyA m c1 q c2 false) (lyR .shut ts.length (cpD ts) (cpD ts) ky vy) 7 (.bool true) (lyO 19 38 (insP ts (B1 ky, B1 vy, false))) 39
set_option maxHeartbeats 4000000 in
theorem lyt {m c1 q c2 : Nat} {ky vy : List Value} {ts : List Pr} (I : LyI m c1 q c2 ky vy) (hT : Ti ts) : LyT m c1 q c2 ky vy ts := by
 obtain ⟨F, F1⟩ := lnF I.k I.m9
 obtain ⟨G, G1⟩ := lnF I.v I.q9
 have kt := I.k.tk
 have vt := I.v.tk
 have Ft := F1.t0
 have Gt := G1.t0
 have F3 := F1.t3
 have G3 := G1.t3
 have Fn := F1.n.symm
 have Gn := G1.n.symm
 have hk1 := all1_byt I.k
 have hv1 := all1_byt I.v
 have kl := I.k.2.2
 have vl := I.v.2.2
 have pre := ly_pr I
 have preg := ly_prg I
 have pl : (prD none none (B1 ky, B1 vy, false)).length = 3 := rfl
 have plg : (prD none none (B1 ky, [], true)).length = 3 := rfl
 have m9 := I.m9
 have q9 := I.q9
 have a1 := I.c1
 have a2 := I.c2
 have hm := hT.m
 have cpl := C0 ts
 have cp0 := C0 []
 have hle := It ts (B1 ky)
 have s1 := Dh ts.length (lbP ts (B1 ky))
 have s2 := Dh ts.length (lbP ts (B1 ky) + 1)
 have i1 := insD_cpD ts (B1 ky, B1 vy, false)
 have i2 := insD_cpD ts (B1 ky, [], true)
 have i3 := setD_cpD ts (B1 ky, B1 vy, false)
 have i4 := setD_cpD ts (B1 ky, [], true)
 have j1 := lyr_ins ts (B1 ky, B1 vy, false)
 have j2 := lyr_ins ts (B1 ky, [], true)
 have j3 := lyr_set ts (B1 ky, B1 vy, false)
 have j4 := lyr_set ts (B1 ky, [], true)
 have l1 := lyr_insL ts (B1 ky)
 simp only at i1 i2 i3 i4 j1 j2 j3 j4
 have up : hitP ts (B1 ky) = true → lbP ts (B1 ky) < ts.length ∧ 0 + lbP ts (B1 ky) + 1 + sbN ts.length (lbP ts (B1 ky) + 1) = ts.length ∧ (setP ts (B1 ky, B1 vy, false)).length = ts.length ∧ (setP ts (B1 ky, [], true)).length = ts.length := fun h => ⟨(Hl h).2.2, lyr_setL h, setP_len h, setP_len h⟩
 refine ⟨fun h1 => lyc (B8 lyX lyTv lyL (ly_oNk0 m c1 q c2 0 [] [] ky vy F G) ?_ rfl) ?_, fun h1 h2 => lyc (B8 lyX lyTv lyL (ly_oNk32 m c1 q c2 0 [] [] ky vy F G) ?_ rfl) ?_, fun h1 h2 h3 => lyc (B8 lyX lyTv lyL (ly_oNv m c1 q c2 0 [] [] ky vy F G) ?_ rfl) ?_, fun h1 h2 h3 => lyc (B8 lyX lyTv lyL (ly_oNins m c1 q c2 0 [] [] ky vy F G) ?_ rfl) ?_, fun h1 => lyc (B8 lyX lyTv lyL (ly_oEk0 m c1 q c2 0 [] [] ky vy F G) ?_ rfl) ?_, fun h1 h2 => lyc (B8 lyX lyTv lyL (ly_oEk32 m c1 q c2 0 [] [] ky vy F G) ?_ rfl) ?_, fun h1 h2 h3 => lyc (B8 lyX lyTv lyL (ly_oEv m c1 q c2 0 [] [] ky vy F G) ?_ rfl) ?_, fun h1 h2 h3 => lyc (B8 lyX lyTv lyL (ly_oEins m c1 q c2 0 [] [] ky vy F G) ?_ rfl) ?_, fun h1 => lyc (B8 lyX lyTv lyL (ly_oRk0 m c1 q c2 ts.length (cpD ts) (cpD ts) ky vy F G) ?_ rfl) ?_, fun h1 h2 => lyc (B8 lyX lyTv lyL (ly_oRk32 m c1 q c2 ts.length (cpD ts) (cpD ts) ky vy F G) ?_ rfl) ?_, fun h1 h2 h3 => lyc (B8 lyX lyTv lyL (ly_oRv m c1 q c2 ts.length (cpD ts) (cpD ts) ky vy F G) ?_ rfl) ?_, fun h1 h2 h3 h4 => lyc (B8 lyX lyTv lyL (ly_oRup m c1 q c2 ts.length (cpD ts) (cpD ts) ky vy F G) ?_ rfl) ?_, fun h1 h2 h3 h4 h5 => lyc (B8 lyX lyTv lyL (ly_oRful m c1 q c2 ts.length (cpD ts) (cpD ts) ky vy F G) ?_ rfl) ?_, fun h1 h2 h3 h4 h5 => lyc (B8 lyX lyTv lyL (ly_oRins m c1 q c2 ts.length (cpD ts) (cpD ts) ky vy F G) ?_ rfl) ?_, fun h1 => lyc (B8 lyX lyTv lyL (ly_gNk0 m c1 q c2 0 [] [] ky vy F G) ?_ rfl) ?_, fun h1 h2 => lyc (B8 lyX lyTv lyL (ly_gNk32 m c1 q c2 0 [] [] ky vy F G) ?_ rfl) ?_, fun h1 h2 => lyc (B8 lyX lyTv lyL (ly_gNins m c1 q c2 0 [] [] ky vy F G) ?_ rfl) ?_, fun h1 => lyc (B8 lyX lyTv lyL (ly_gEk0 m c1 q c2 0 [] [] ky vy F G) ?_ rfl) ?_, fun h1 h2 => lyc (B8 lyX lyTv lyL (ly_gEk32 m c1 q c2 0 [] [] ky vy F G) ?_ rfl) ?_, fun h1 h2 => lyc (B8 lyX lyTv lyL (ly_gEins m c1 q c2 0 [] [] ky vy F G) ?_ rfl) ?_, fun h1 => lyc (B8 lyX lyTv lyL (ly_gRk0 m c1 q c2 ts.length (cpD ts) (cpD ts) ky vy F G) ?_ rfl) ?_, fun h1 h2 => lyc (B8 lyX lyTv lyL (ly_gRk32 m c1 q c2 ts.length (cpD ts) (cpD ts) ky vy F G) ?_ rfl) ?_, fun h1 h2 h3 => lyc (B8 lyX lyTv lyL (ly_gRup m c1 q c2 ts.length (cpD ts) (cpD ts) ky vy F G) ?_ rfl) ?_, fun h1 h2 h3 h4 => lyc (B8 lyX lyTv lyL (ly_gRful m c1 q c2 ts.length (cpD ts) (cpD ts) ky vy F G) ?_ rfl) ?_, fun h1 h2 h3 h4 => lyc (B8 lyX lyTv lyL (ly_gRins m c1 q c2 ts.length (cpD ts) (cpD ts) ky vy F G) ?_ rfl) ?_, fun h1 h2 h3 => lyc (B8 lyX lyTv lyL (ly_sNv m c1 q c2 0 [] [] ky vy F G) ?_ rfl) ?_, fun h1 h2 h3 => lyc (B8 lyX lyTv lyL (ly_sNins m c1 q c2 0 [] [] ky vy F G) ?_ rfl) ?_, fun h1 h2 h3 => lyc (B8 lyX lyTv lyL (ly_sEv m c1 q c2 0 [] [] ky vy F G) ?_ rfl) ?_, fun h1 h2 h3 => lyc (B8 lyX lyTv lyL (ly_sEins m c1 q c2 0 [] [] ky vy F G) ?_ rfl) ?_, fun h1 h2 h3 => lyc (B8 lyX lyTv lyL (ly_sRv m c1 q c2 ts.length (cpD ts) (cpD ts) ky vy F G) ?_ rfl) ?_, fun h1 h2 h3 h4 => lyc (B8 lyX lyTv lyL (ly_sRup m c1 q c2 ts.length (cpD ts) (cpD ts) ky vy F G) ?_ rfl) ?_, fun h1 h2 h3 h4 h5 => lyc (B8 lyX lyTv lyL (ly_sRful m c1 q c2 ts.length (cpD ts) (cpD ts) ky vy F G) ?_ rfl) ?_, fun h1 h2 h3 h4 h5 => lyc (B8 lyX lyTv lyL (ly_sRins m c1 q c2 ts.length (cpD ts) (cpD ts) ky vy F G) ?_ rfl) ?_⟩
 all_goals first
  | exact rfl
  | (show (_ : Hp) = _
     have u := up h4
     simp only [Bl, cond_true, cond_false, List.drop_zero, List.map_nil, kt, vt, Ft, Gt, Bc, I.k.map, I.v.map, pre, preg, i1, i2, i3, i4, j1, j2, j3, j4, l1, lyO, lyON, Kl, u.2.1, u.2.2.1, u.2.2.2]
     rfl)
  | (show (_ : Hp) = _
     have u := up h3
     simp only [Bl, cond_true, cond_false, List.drop_zero, List.map_nil, kt, vt, Ft, Gt, Bc, I.k.map, I.v.map, pre, preg, i1, i2, i3, i4, j1, j2, j3, j4, l1, lyO, lyON, Kl, u.2.1, u.2.2.1, u.2.2.2]
     rfl)
  | (show (_ : Hp) = _
     simp only [Bl, cond_true, cond_false, List.drop_zero, List.map_nil, kt, vt, Ft, Gt, Bc, I.k.map, I.v.map, pre, preg, i1, i2, i3, i4, j1, j2, j3, j4, l1, lyO, lyON, Kl]
     first | done | rfl)
  | ((try have u := up h4)
     (try have u := up h3)
     simp only [Alls, Bw, lyPf, lySo, lySg, lySs, Bl, cond_true, cond_false, List.drop_zero, List.map_nil, pl, plg, kt, vt, Ft, Gt, F3, G3, Bc, I.k.map, I.v.map, pre, preg, rg, decide_eq_true_eq, decide_eq_false_iff_not, Nat.add_zero, kl, vl, cpl, Fn, Gn, s1, s2, List.length_append, List.length_take, List.length_drop, List.length_nil, C0, List.length_cons]
     repeat' (with_reducible apply And.intro)
     all_goals first | omega | (with_reducible assumption) | (with_reducible exact trivial) | (with_reducible rfl) | exact hk1 | exact hv1 | exact F1.ln | exact G1.ln | exact ⟨F1.ln, rfl, rfl⟩ | exact ⟨G1.ln, rfl, rfl⟩ | exact F1.b | exact G1.b | exact F1.fl | exact G1.fl | exact I.k.fl | exact I.v.fl | exact fun e => I.k.nil e | exact fun e => I.v.nil e | exact ⟨hT.tb, I.k⟩ | exact ⟨Ti.nil.tb, I.k⟩ | exact (fun h => h) | exact C8 | exact hT.at I.k | exact I.k | exact Ho ts | exact dv1_pr _ | exact Li (Ho ts) _ | exact Li (dv1_dp (Ho ts) _) _ | exact (fun τ => rfl) | (intro _; rfl) | exact Ti.nil.at I.k | exact Ho [] | rfl)
def mkG {P : Program} {f0 : FuncId} {nx0 : Nat} (C : Fc P f0 nx0) : TFun := fun f args h nx tp => bif Nat.beq f f0 then (match C.pick args h with
 | some _ => mkF C f args h nx tp
 | none => none) else none
theorem J5 {P : Program} {f0 : FuncId} {nx0 : Nat} (C : Fc P f0 nx0) : Cv P (mkG C) := by
 intro f args h nx tp out tp' ob e ho
 unfold mkG at e
 rcases Be e with ⟨_, e1⟩ | ⟨_, e1⟩
 case inr => cases e1
 split at e1
 ·exact mkF_ok C f args h nx tp out tp' ob e1 ho
 ·cases e1
theorem H1 {n : Nat} {kd : Kd} {l : List Value} (hv : ∀ σ, renL σ l = some l) (hk : kdN kd = true) : NatR n fun _ => ⟨kd, l⟩ := Hi (nat_fls hv) hk
def lrP (h : Hp) (p : Nat) : Option (Nat × Nat) := match lk h p with
 | some ⟨.shut, [.pointer (some ⟨t, 0, none⟩), .pointer (some ⟨r, 0, none⟩)]⟩ => some (t, r)
 | _ => none
theorem lrP_ok {h : Hp} {p t r : Nat} (e : lrP h p = some (t, r)) : lk h p = some ⟨.shut, [.pointer (some ⟨t, 0, none⟩), .pointer (some ⟨r, 0, none⟩)]⟩ := by
 unfold lrP at e
 split at e
 ·rename_i hl; cases e; exact hl
 ·cases e
def lrT (h : Hp) (p : Nat) : Option (Nat × Nat) := match lk h p with
 | some ⟨.shut, [.bool true, .slice (some ⟨a, 0, none⟩) n c]⟩ => bif Nat.beq c (B0 + a) then some (a, n) else none
 | _ => none
theorem lrT_ok {h : Hp} {p a n : Nat} (e : lrT h p = some (a, n)) : lk h p = some ⟨.shut, [.bool true, .slice (some ⟨a, 0, none⟩) n (B0 + a)]⟩ := by
 unfold lrT at e
 split at e
 ·rename_i hl
  obtain ⟨hc, e⟩ := Ba e
  cases e
  rw [hl, Nat.eq_of_beq_eq_true hc]
 ·cases e
def lrR (h : Hp) (p : Nat) : Option (Nat × Nat) := match lk h p with
 | some ⟨.shut, [.slice (some ⟨a, 0, none⟩) n c]⟩ => bif Nat.beq c (B0 + a) then some (a, n) else none
 | _ => none
theorem lrR_ok {h : Hp} {p a n : Nat} (e : lrR h p = some (a, n)) : lk h p = some ⟨.shut, [.slice (some ⟨a, 0, none⟩) n (B0 + a)]⟩ := by
 unfold lrR at e
 split at e
 ·rename_i hl
  obtain ⟨hc, e⟩ := Ba e
  cases e
  rw [hl, Nat.eq_of_beq_eq_true hc]
 ·cases e
def lrTn (h : Hp) (p : Nat) : Bool := match lk h p with
 | some ⟨.shut, [.bool true, .slice none 0 0]⟩ => true
 | _ => false
theorem lrTn_ok {h : Hp} {p : Nat} (e : lrTn h p = true) : lk h p = some ⟨.shut, [.bool true, .slice none 0 0]⟩ := by
 unfold lrTn at e
 split at e
 ·rename_i hl; exact hl
 ·cases e
def lrRn (h : Hp) (p : Nat) : Bool := match lk h p with
 | some ⟨.shut, [.slice none 0 0]⟩ => true
 | _ => false
theorem lrRn_ok {h : Hp} {p : Nat} (e : lrRn h p = true) : lk h p = some ⟨.shut, [.slice none 0 0]⟩ := by
 unfold lrRn at e
 split at e
 ·rename_i hl; exact hl
 ·cases e
def kdS (s : Bool) : Kd := bif s then .shut else .old
def lrK (h : Hp) (p : Nat) : Option (Bool × List Value) := match lk h p with
 | some ⟨.shut, cs⟩ => some (true, cs)
 | some ⟨.old, cs⟩ => some (false, cs)
 | _ => none
theorem lrK_ok {h : Hp} {p : Nat} {s : Bool} {cs : List Value} (e : lrK h p = some (s, cs)) : lk h p = some ⟨kdS s, cs⟩ := by
 unfold lrK at e
 split at e
 ·rename_i hl; cases e; exact hl
 ·rename_i hl; cases e; exact hl
 ·cases e
def lrO (h : Hp) (p : Nat) : Option (List Value) := match lk h p with
 | some ⟨.old, cs⟩ => some cs
 | _ => none
theorem lrO_ok {h : Hp} {p : Nat} {cs : List Value} (e : lrO h p = some cs) : lk h p = some ⟨.old, cs⟩ := by
 unfold lrO at e
 split at e
 ·rename_i hl; cases e; exact hl
 ·cases e
def lrD (h : Hp) (p : Nat) : Option (List DV) := match lk h p with
 | some ⟨.dp 3 [.slice none 0 0, .slice none 0 0, .bool false] es, []⟩ => some es
 | _ => none
theorem lrD_ok {h : Hp} {p : Nat} {es : List DV} (e : lrD h p = some es) : lk h p = some ⟨.dp 3 zPr es, []⟩ := by
 unfold lrD at e
 split at e
 ·rename_i hl; cases e; exact hl
 ·cases e
def lyPr (g : Bool) (ky vy : List Value) : Pr := (B1 ky, bif g then [] else B1 vy, g)
def chP (ts : List Pr) (p : Pr) : Bool := okK p && (hitP ts p.1 || !decide (64 ≤ ts.length))
theorem M5 {ts : List Pr} {p : Pr} (h : chP ts p = true) (hh : hitP ts p.1 = true) : layP ts p = setP ts p := by
 unfold chP at h
 simp only [Bool.and_eq_true] at h
 unfold layP
 rw [h.1, hh]
 rfl
theorem Eh {ts : List Pr} {p : Pr} (h : chP ts p = true) (hh : hitP ts p.1 = false) : layP ts p = insP ts p ∧ ¬ 64 ≤ ts.length := by
 unfold chP at h
 rw [hh] at h
 simp only [Bool.and_eq_true, Bool.false_or, Bool.not_eq_true', decide_eq_false_iff_not] at h
 unfold layP
 rw [h.1, hh, decide_eq_false h.2]
 exact ⟨rfl, h.2⟩
def lyR0 : (Nat → Nat) → Rw := fun μ => ⟨.shut, [.pointer (some ⟨μ 1, 0, none⟩), .pointer (some ⟨μ 2, 0, none⟩)]⟩
def lyRt (i n : Nat) : (Nat → Nat) → Rw := fun μ => ⟨.shut, [.bool true, .slice (some ⟨μ i, 0, none⟩) n (B0 + μ i)]⟩
def lyRr (i n : Nat) : (Nat → Nat) → Rw := fun μ => ⟨.shut, [.slice (some ⟨μ i, 0, none⟩) n (B0 + μ i)]⟩
def lyRd (es : List DV) : (Nat → Nat) → Rw := fun _ => ⟨.dp 3 zPr es, []⟩
def I2 (nx0 : Nat) (L : List Pr) : Fo := ⟨fun _ => .bool true, [(0, lyR0), (1, lyRt nx0 L.length), (2, lyRr (nx0 + 1) L.length), (nx0, lyRd (cpD L)), (nx0 + 1, lyRd (cpD L))], 2⟩
theorem natR0 {n : Nat} (h : 3 ≤ n) : NatR n lyR0 := Hi (Bv (Dm (by omega)) (Bv (Dm (by omega)) Dn)) rfl
theorem natRt {n i l : Nat} (h : i < n) : NatR n (lyRt i l) := Hi (Bv (nat_fl fun _ => rfl) (Bv (nat_sl h) Dn)) rfl
theorem natRr {n i l : Nat} (h : i < n) : NatR n (lyRr i l) := Hi (Bv (nat_sl h) Dn) rfl
theorem Ev {n : Nat} {es : List DV} : NatR n (lyRd es) := Hi Dn rfl
theorem natSh {n : Nat} {l : List Value} (hv : ∀ σ, renL σ l = some l) : NatR n fun _ => ⟨.shut, l⟩ := H1 hv rfl
theorem Cn {f : FuncId} {nx0 x y nx' : Nat} {args : (Nat → Nat) → List Value} {rows : List (Nat × ((Nat → Nat) → Rw))} {h' : Hp} {L : List Pr} (h3 : 3 ≤ nx0) (na : NatL nx0 args) (nr : ∀ p ∈ rows, NatR nx0 p.2) (h012 : ∀ i, i < 3 → i ∈ rows.map (·.1)) (T : TriC Try.prog f (args id) (mapR id rows) nx0 (.bool true) h' nx')
  (k0 : lk h' 0 = some lyP) (k1 : lk h' 1 = some ⟨.shut, [.bool true, .slice (some ⟨x, 0, none⟩) L.length (B0 + x)]⟩) (k2 : lk h' 2 = some ⟨.shut, [.slice (some ⟨y, 0, none⟩) L.length (B0 + y)]⟩) (kx : lk h' x = some ⟨.dp 3 zPr (cpD L), []⟩) (ky : lk h' y = some ⟨.dp 3 zPr (cpD L), []⟩) (hx : nx0 ≤ x) (hxy : x < y) (hy : y < nx') : FoOk Try.prog f nx0 args rows (I2 nx0 L) := by
 have c0 : ∀ {g : Nat → Nat} {i : Nat}, i < 3 → cgA nx0 g i = i := fun {g i} hi => by unfold cgA; rw [if_pos (by omega)]
 refine ⟨na, nr, nat_fl fun _ => rfl, ?_, .bool true, h', nx', (fun i => bif Nat.beq i 0 then x else y), T, rfl, ?_, ?_, ?_⟩
 ·intro p hp
  simp only [I2, List.mem_cons, List.not_mem_nil, or_false] at hp
  rcases hp with rfl | rfl | rfl | rfl | rfl
  ·exact ⟨by show 0 < nx0 + 2; omega, natR0 (by show 3 ≤ nx0 + 2; omega), fun _ => h012 0 (by omega)⟩
  ·exact ⟨by show 1 < nx0 + 2; omega, natRt (by show nx0 < nx0 + 2; omega), fun _ => h012 1 (by omega)⟩
  ·exact ⟨by show 2 < nx0 + 2; omega, natRr (by show nx0 + 1 < nx0 + 2; omega), fun _ => h012 2 (by omega)⟩
  ·exact ⟨by show nx0 < nx0 + 2; omega, Ev, fun h => absurd h (by show ¬ nx0 < nx0; omega)⟩
  ·exact ⟨by show nx0 + 1 < nx0 + 2; omega, Ev, fun h => absurd h (by show ¬ nx0 + 1 < nx0; omega)⟩
 ·have e1 : cgA nx0 (fun i => bif Nat.beq i 0 then x else y) nx0 = x := by unfold cgA; rw [if_neg (by omega), Nat.sub_self]; rfl
  have e2 : cgA nx0 (fun i => bif Nat.beq i 0 then x else y) (nx0 + 1) = y := by unfold cgA; rw [if_neg (by omega), Nat.add_sub_cancel_left]; rfl
  intro p hp
  simp only [I2, List.mem_cons, List.not_mem_nil, or_false] at hp
  rcases hp with rfl | rfl | rfl | rfl | rfl
  ·show lk h' (cgA nx0 _ 0) = some (lyR0 _)
   unfold lyR0
   rw [c0 (by omega), c0 (by omega), c0 (by omega)]
   exact k0
  ·show lk h' (cgA nx0 _ 1) = some (lyRt nx0 L.length _)
   unfold lyRt
   rw [c0 (by omega), e1]
   exact k1
  ·show lk h' (cgA nx0 _ 2) = some (lyRr (nx0 + 1) L.length _)
   unfold lyRr
   rw [c0 (by omega), e2]
   exact k2
  ·show lk h' (cgA nx0 _ nx0) = _
   rw [e1]
   exact kx
  ·show lk h' (cgA nx0 _ (nx0 + 1)) = _
   rw [e2]
   exact ky
 ·intro i j hi hj e
  have hi : i < 2 := hi
  have hj : j < 2 := hj
  match i, j, hi, hj, e with
  | 0, 0, _, _, _ => rfl
  | 1, 1, _, _, _ => rfl
  | 0, 1, _, _, e => have e : x = y := e; omega
  | 1, 0, _, _, e => have e : y = x := e; omega
 ·intro i hi
  have hi : i < 2 := hi
  match i, hi with
  | 0, _ => exact ⟨hx, by show x < nx'; omega⟩
  | 1, _ => exact ⟨by show nx0 ≤ y; omega, hy⟩
theorem Jp {f : FuncId} {nx0 nx' : Nat} {args : (Nat → Nat) → List Value} {rows : List (Nat × ((Nat → Nat) → Rw))} {h' : Hp} {o : Fo} (na : NatL nx0 args) (nr : ∀ p ∈ rows, NatR nx0 p.2) (hk : o.k = 0) (hv : o.v = fun _ => .bool true) (ho : ∀ p ∈ o.rows, p ∈ rows ∧ p.1 < nx0) (T : TriC Try.prog f (args id) (mapR id rows) nx0 (.bool true) h' nx') (hl : ∀ p ∈ o.rows, lk h' p.1 = some (p.2 id)) (hc : ∀ p ∈ o.rows, p.2 (cgA nx0 id) = p.2 id) : FoOk Try.prog f nx0 args rows o := by
 refine ⟨na, nr, by rw [hv]; exact nat_fl fun _ => rfl, fun p hp => ⟨by rw [hk]; exact (ho p hp).2, by rw [hk]; exact nr p (ho p hp).1, fun _ => List.mem_map.2 ⟨p, (ho p hp).1, rfl⟩⟩, .bool true, h', nx', id, T, by rw [hv], fun p hp => ?_, fun i j hi => by rw [hk] at hi; omega, fun i hi => by rw [hk] at hi; omega⟩
 rw [hc p hp, ← hl p hp]
 congr 1
 unfold cgA
 rw [if_pos (ho p hp).2]
def lyAg (m c1 q c2 : Nat) (g : Bool) : (Nat → Nat) → List Value := fun μ => [.pointer (some ⟨μ 0, 0, none⟩), .slice (some ⟨μ 3, 0, none⟩) m c1, .slice (some ⟨μ 4, 0, none⟩) q c2, .bool g]
theorem natAg {n m c1 q c2 : Nat} {g : Bool} (hn : 5 ≤ n) (h1 : c1 ≤ 9223372036854775807) (h2 : c2 ≤ 9223372036854775807) : NatL n (lyAg m c1 q c2 g) := Bv (Dm (by omega)) (Bv (Jm (by omega) (by unfold B0; omega)) (Bv (Jm (by omega) (by unfold B0; omega)) (Bv (nat_fl fun _ => rfl) Dn)))
structure LyS (s g : Bool) (m : Nat) : Prop where
 s : s = true → g = false ∧ 1 ≤ m ∧ m ≤ 32
structure LyOk (s g : Bool) (m c1 q c2 n : Nat) (es rs : List DV) (ky vy : List Value) : Prop where
 S : LyS s g m
 I : LyI m c1 q c2 ky vy
 T : Ti (B2 es)
 e : es = cpD (B2 es)
 r : rs = es
 n : n = (B2 es).length
theorem ok_lyPr {m c1 q c2 : Nat} {ky vy : List Value} {g : Bool} (I : LyI m c1 q c2 ky vy) : okK (lyPr g ky vy) = true ↔ ¬ m < 1 ∧ ¬ 32 < m ∧ (g = false → ¬ 128 < q) := by
 rw [okK_iff]
 show 1 ≤ (B1 ky).length ∧ (B1 ky).length ≤ 32 ∧ (bif g then [] else B1 vy).length ≤ 128 ↔ _
 rw [I.k.len]
 cases g with
 | true =>
  rw [cond_true]
  exact ⟨fun h => ⟨by omega, by omega, fun e => by cases e⟩, fun h => ⟨by omega, by omega, by show 0 ≤ 128; omega⟩⟩
 | false =>
  rw [cond_false, I.v.len]
  exact ⟨fun h => ⟨by omega, by omega, fun _ => by omega⟩, fun h => ⟨by omega, by omega, by have := h.2.2 rfl; omega⟩⟩
end Go.Proofs.Ytojakfnljopjbaa
