/-
  A row of slices that is a list alone, taken as one that may share.
-/
import Derived.Test.YtojakfnljopjbaaGrBC
import Derived.Test.YtojakfnljopjbaaGrAU
import Derived.Test.YtojakfnljopjbaaGrAX
namespace Go.Proofs.Ytojakfnljopjbaa
set_option linter.unusedSimpArgs false
set_option linter.unusedVariables false
set_option linter.unusedSectionVars false
open Go Go.RowKit
structure SmN (σ τ : Sg) : Prop where
 b : τ.b = σ.b
 c : τ.c = σ.c
 f : ∀ n, τ.f n = none ↔ σ.f n = none
 e : τ.e = σ.e
 w : τ.w = σ.w
theorem SmN.pt {σ τ : Sg} (h : SmN σ τ) (a : Addr) : ptR τ a = ptR σ a := by
 unfold ptR adR
 rw [h.b]
 by_cases hf : σ.f a.block = none
 ·rw [if_pos hf, if_pos ((h.f _).2 hf)]
 ·rw [if_neg hf, if_neg fun e => hf ((h.f _).1 e)]
theorem SmN.sl {σ τ : Sg} (h : SmN σ τ) (a : Addr) (l c : Nat) : slR τ a l c = slR σ a l c := by
 unfold slR adR cpR
 rw [h.b, h.c, h.e, h.w]
 by_cases hf : σ.f a.block = none
 ·simp only [hf, (h.f _).2 hf]
 ·have hf2 : ¬ τ.f a.block = none := fun e => hf ((h.f _).1 e)
  simp only [hf, hf2, if_false]
theorem SmN.fn {σ τ : Sg} (h : SmN σ τ) (x : Fn) : fnR τ x = fnR σ x := by
 cases x <;> simp only [fnR, h.b]
mutual
theorem SmN.v {σ τ : Sg} (h : SmN σ τ) : ∀ v : Value, renV τ v = renV σ v
 | .pointer (some a) => by simp only [renV, h.pt]
 | .slice (some a) l c => by simp only [renV, h.sl]
 | .agg cs => by simp only [renV, SmN.a h cs]
 | .tuple cs => by simp only [renV, SmN.a h cs]
 | .func fn f c => by simp only [renV, h.fn, SmN.a h f, SmN.a h c]
 | .iface t v => by simp only [renV, SmN.v h v]
 | .map (some n) => by simp only [renV, h.b]
 | .chan (some _) => by simp only [renV]
 | .bool b => by simp only [renV]
 | .int k n => by simp only [renV]
 | .float k n => by simp only [renV]
 | .complex k a b => by simp only [renV]
 | .string s => by simp only [renV]
 | .pointer none => by simp only [renV]
 | .slice none l c => by simp only [renV]
 | .map none => by simp only [renV]
 | .chan none => by simp only [renV]
 | .nilFunc => by simp only [renV]
 | .nilIface => by simp only [renV]
theorem SmN.a {σ τ : Sg} (h : SmN σ τ) : ∀ cs : Array Value, renA τ cs = renA σ cs
 | ⟨l⟩ => by simp only [renA, SmN.l h l]
theorem SmN.l {σ τ : Sg} (h : SmN σ τ) : ∀ l : List Value, renL τ l = renL σ l
 | [] => rfl
 | v :: vs => by simp only [renL, SmN.v h v, SmN.l h vs]
end
theorem TriC.weakX {P : Program} {f : FuncId} {args : List Value} {h : Hp} {nx : Nat} {v : Value} {h1 h2 : Hp} {nx' k d sz : Nat} {z : List Value} {ds : List DV} (T : TriC P f args h nx v h1 nx') (hk : lk h1 k = some ⟨.dx d sz z ds, []⟩) (hk1 : nx ≤ k) (hk2 : k < nx') (hold : ∀ m s, lk h m = some s → ∃ s', lk h1 m = some s')
  (hs : ∀ n s, lk h2 n = some s → (n = k ∧ s = ⟨.dp sz z ds, []⟩) ∨ (n ≠ k ∧ lk h1 n = some s)) : TriC P f args h nx v h2 nx' := by
 intro hB W σ w args' hR hfr ha
 refine (T hB W σ w args' hR hfr ha).mono ?_
 rintro e w' ⟨σ', u, S, hu, rfl⟩
 obtain ⟨b, s0, vs0, hb, hv0, h0, hvs, hW, hnd, us, t, rest, c, E, g1, g2, g3, g4, g5, g6, g7, g8⟩ := S.rl.row k _ hk
 subst h0
 have hfk : σ'.f k ≠ none := fun e => by
  have : ex σ' k = [] := by unfold ex; rw [e]; rfl
  rw [g6] at this
  cases this
 obtain ⟨τ, hτ⟩ : ∃ τ : Sg, τ = ⟨σ'.b, σ'.c, fun n => if n = k then some (E, []) else σ'.f n, σ'.e, σ'.w⟩ := ⟨_, rfl⟩
 have tb : τ.b = σ'.b := by rw [hτ]
 have tc : τ.c = σ'.c := by rw [hτ]
 have te : τ.e = σ'.e := by rw [hτ]
 have tw : τ.w = σ'.w := by rw [hτ]
 have tk : τ.f k = some (E, []) := by rw [hτ]; simp
 have tn : ∀ n, n ≠ k → τ.f n = σ'.f n := fun n hn => by rw [hτ]; simp [hn]
 have hsm : SmN σ' τ := ⟨tb, tc, fun n => by
  by_cases hn : n = k
  ·subst hn; rw [tk]; exact ⟨(fun e => by cases e), fun e => absurd e hfk⟩
  ·rw [tn n hn], te, tw⟩
 have shk : sh τ k = E := by unfold sh; rw [tk]; rfl
 have exk : ex τ k = [] := by unfold ex; rw [tk]; rfl
 have shn : ∀ n, n ≠ k → sh τ n = sh σ' n := fun n hn => by unfold sh; rw [tn n hn]
 have exn : ∀ n, n ≠ k → ex τ n = ex σ' n := fun n hn => by unfold ex; rw [tn n hn]
 have hbk : b ∈ ex σ' k := by rw [g6]; exact List.mem_cons_self ..
 have hEk : ∀ q, q ∈ E → q ∈ ex σ' k := fun q hq => by rw [g6]; exact List.mem_cons_of_mem _ hq
 have hbE : b ∉ E := by rw [g6] at hnd; exact (List.nodup_cons.1 hnd).1
 have SX := S.rl.shr.2.2 k ⟨.dx d sz z ds, []⟩
 have hσk : σ.b k = none := (hfr k hk1 hk2).1
 have own1 : ∀ {n s}, lk h2 n = some s → s.own → ∀ q, σ'.b n = some q → (n = k ∧ q = (b, 0)) ∨ (n ≠ k ∧ lk h1 n = some s) := fun {n s} hl ho q hq => by
  rcases hs n s hl with ⟨rfl, rfl⟩ | hh
  ·rw [hb] at hq; cases hq; exact .inl ⟨rfl, rfl⟩
  ·exact .inr hh
 have S2 : Stp W nx nx' σ h w τ h2 w' := by
  refine ⟨⟨fun n p e => by rw [tb]; exact S.le.1 n p e, fun n q e => by rw [tc]; exact S.le.2.1 n q e, fun n p e => ?_⟩, fun n hn => by rw [tb, tc]; exact S.only n hn, ⟨⟨S.rl.ext, fun n s hl => ?_, fun n m r s p q hn hm hr ho hp hq e => ?_⟩, tw.trans S.rl.wf, fun n s hl ho => ?_, fun n s q hl hq => ?_, fun n s q hl hq => ?_⟩, S.size, S.fr, fun n s p hl ho hp => ?_, fun n s q hl hq => ?_, fun n s q hl hq => ?_⟩
  ·have hn : n ≠ k := fun e2 => by subst e2; rw [hσk] at e; cases e
   rw [tc, te, tw, tn n hn]
   exact S.le.2.2 n p e
  ·rcases hs n s hl with ⟨rfl, rfl⟩ | ⟨hn, hl1⟩
   ·refine ⟨b, 0, [], by rw [tb]; exact hb, rfl, rfl, hW b hbk, rfl, us, t, rest, c, by rw [tc]; exact g1, g2, g3, g4, g5, ?_⟩
    rw [shk]
    exact g8 W
   ·obtain ⟨b1, o1, v1, e1, e2, e3⟩ := S.rl.row n s hl1
    refine ⟨b1, o1, v1, by rw [tb]; exact e1, by rw [hsm.l]; exact e2, ?_⟩
    by_cases hr : kdN s.kd = true
    ·exact e3.same hr (by rw [tc]) (tn n hn)
    ·cases hkd : s.kd with
     | round st pe tm ps as_ bd =>
      rw [hkd] at e3
      obtain ⟨x1, x2, x3, fn, D, tv, x4, x5⟩ := e3
      exact ⟨x1, x2, x3, fn, D, tv, by rw [hsm.l]; exact x4, x5⟩
     | _ => rw [hkd] at hr; exact absurd rfl hr
  ·rw [tb] at hp hq
   rcases own1 hn hr p hp with ⟨rfl, rfl⟩ | ⟨n1, l1⟩ <;> rcases own1 hm ho q hq with ⟨rfl, rfl⟩ | ⟨n2, l2⟩
   ·rfl
   ·exact absurd e.symm ((SX b hk hbk).2.1 m s q l2 ho hq)
   ·exact absurd e ((SX b hk hbk).2.1 n r p l1 hr hp)
   ·exact S.rl.inj n m r s p q l1 l2 hr ho hp hq e
  ·rcases hs n s hl with ⟨rfl, rfl⟩ | ⟨hn, hl1⟩
   ·rw [tk]; intro e; cases e
   ·rw [tn n hn]; exact S.rl.shr.1 n s hl1 ho
  ·have key : q < w'.heap.size ∧ (∀ m s p, lk h1 m = some s → s.own → σ'.b m = some p → p.1 ≠ q) ∧ q ≠ b := by
    rcases hs n s hl with ⟨rfl, rfl⟩ | ⟨hn, hl1⟩
    ·rw [shk] at hq
     exact ⟨(SX q hk (hEk q hq)).1, (SX q hk (hEk q hq)).2.1, fun e => by subst e; exact hbE hq⟩
    ·rw [shn n hn] at hq
     exact ⟨(S.rl.shr.2.1 n s q hl1 hq).1, (S.rl.shr.2.1 n s q hl1 hq).2, fun e => by subst e; exact ((SX q hk hbk).2.2 n s hl1).1 hq⟩
   refine ⟨key.1, fun m s' p hm ho hp => ?_⟩
   rw [tb] at hp
   rcases own1 hm ho p hp with ⟨rfl, rfl⟩ | ⟨n2, l2⟩
   ·exact fun e => key.2.2 e.symm
   ·exact key.2.1 m s' p l2 ho hp
  ·rcases hs n s hl with ⟨rfl, rfl⟩ | ⟨hn, hl1⟩
   ·rw [exk] at hq; cases hq
   ·rw [exn n hn] at hq
    obtain ⟨a1, a2, a3⟩ := S.rl.shr.2.2 n s q hl1 hq
    have hqk : q ∉ ex σ' k := fun e => hn (((SX q hk e).2.2 n s hl1).2 hq)
    refine ⟨a1, fun m s' p hm ho hp => ?_, fun m s' hm => ?_⟩
    ·rw [tb] at hp
     rcases own1 hm ho p hp with ⟨rfl, rfl⟩ | ⟨n2, l2⟩
     ·exact fun e => hqk (by rw [← e]; exact hbk)
     ·exact a2 m s' p l2 ho hp
    ·rcases hs m s' hm with ⟨rfl, rfl⟩ | ⟨hm2, l2⟩
     ·rw [shk, exk]
      exact ⟨fun e => hqk (hEk q e), (fun e => by cases e)⟩
     ·rw [shn m hm2, exn m hm2]
      exact a3 m s' l2
  ·rw [tb] at hp
   rcases own1 hl ho p hp with ⟨rfl, rfl⟩ | ⟨n2, l2⟩
   ·rcases S.xsrc n ⟨.dx d sz z ds, []⟩ b hk hbk with x1 | x2 | ⟨m, s', l3, x3⟩
    ·exact .inl x1
    ·exact .inr x2
    ·exfalso
     obtain ⟨s2, l4⟩ := hold m s' l3
     obtain ⟨p3, y1⟩ : ∃ p3, σ.b m = some p3 := by obtain ⟨b1, o1, _, e1, _⟩ := hR.row m s' l3; exact ⟨_, e1⟩
     have y2 : ex σ' m = ex σ m := by unfold ex; rw [(S.le.2.2 m p3 y1).2.1]
     have := ((SX b hk hbk).2.2 m s2 l4).2 (by rw [y2]; exact x3)
     subst this
     rw [hσk] at y1; cases y1
   ·exact S.src n s p l2 ho hp
  ·rcases hs n s hl with ⟨rfl, rfl⟩ | ⟨hn, hl1⟩
   ·rw [shk] at hq
    rcases S.xsrc n ⟨.dx d sz z ds, []⟩ q hk (hEk q hq) with x1 | x2 | ⟨m, s', l3, x3⟩
    ·exact .inl x1
    ·exact .inr (.inl x2)
    ·exfalso
     obtain ⟨s2, l4⟩ := hold m s' l3
     obtain ⟨p3, y1⟩ : ∃ p3, σ.b m = some p3 := by obtain ⟨b1, o1, _, e1, _⟩ := hR.row m s' l3; exact ⟨_, e1⟩
     have y2 : ex σ' m = ex σ m := by unfold ex; rw [(S.le.2.2 m p3 y1).2.1]
     have := ((SX q hk (hEk q hq)).2.2 m s2 l4).2 (by rw [y2]; exact x3)
     subst this
     rw [hσk] at y1; cases y1
   ·rw [shn n hn] at hq
    exact S.ssrc n s q hl1 hq
  ·rcases hs n s hl with ⟨rfl, rfl⟩ | ⟨hn, hl1⟩
   ·rw [exk] at hq; cases hq
   ·rw [exn n hn] at hq
    exact S.xsrc n s q hl1 hq
 exact ⟨τ, u, S2, by rw [hsm.v]; exact hu, rfl⟩
def clV : Tv := ⟨allT, cmpY, noL, fun _ => [], fun _ _ => none, fun _ => [], fun _ => 0⟩
def clH (n : Nat) (es : List DV) : Hp := [(0, ⟨.shut, [.bool true, .slice (some ⟨1, 0, none⟩) n (B0 + 1)]⟩), (1, ⟨.dp 3 zPr es, []⟩)]
theorem cl_r (n : Nat) (es : List DV) : prjK [0, 1, 2, 3] (runZ clV Try.prog 12 30 [.pointer (some ⟨0, 0, none⟩)] (clH n es) 2 [false]) =
 (let a2 := [Value.slice none 0 0, Value.slice none 0 0, Value.bool false]; let a1 := (btw (B2 es) (B1 []) (B1 [])); Res.ok ((Value.pointer (some (Addr.mk 3 0 none)), [(3, Rw.mk Kd.shut [Value.bool true, Value.slice (some (Addr.mk 2 0 none)) (List.length a1) (B0 + 2)]), (2, Rw.mk (Kd.dx 1 3 a2 (cpD a1)) []), (0, Rw.mk Kd.shut [Value.bool true, Value.slice (some (Addr.mk 1 0 none)) n (B0 + 1)]), (1, Rw.mk (Kd.dp 3 a2 es) [])], 4), [], [B0 + 1 = B0 + 1 ∧ List.length es = n * 3 ∧ 0 < 3, TbK es n ∧ BytI 0 [] ∧ BytI 0 [] ∧ List.isEmpty a1 = false])) := by kernel_rfl
theorem clX : XOkZ clV Try.prog := XOneZ.ok Ei rfl
theorem clT0 : TOkZ clV Try.prog := Ly rfl allT_one
theorem clL : LOkZ clV Try.prog := C9 rfl
theorem ltK_nil (k : List Int) : ltK k [] = false := by cases k <;> rfl
theorem btw_all (ps : List Pr) : btw ps [] [] = ps := by
 have h0 : lbP ps [] = 0 := by cases ps with | nil => rfl | cons p l => simp [lbP, ltK_nil]
 unfold btw tkP
 rw [h0, List.drop_zero]
 have : ∀ l : List Pr, l.takeWhile (upP []) = l := by
  intro l
  induction l with
  | nil => rfl
  | cons p l ih => rw [List.takeWhile_cons, if_pos (show upP [] p = true from rfl), ih]
 exact this ps
structure ClOk (es : List DV) (n : Nat) : Prop where
 T : Ti (B2 es)
 e : es = cpD (B2 es)
 n : n = (B2 es).length
 z : (B2 es).isEmpty = false
def clAg : (Nat → Nat) → List Value := fun μ => [.pointer (some ⟨μ 0, 0, none⟩)]
def clRs (a : Nat × List DV) : List (Nat × ((Nat → Nat) → Rw)) := [(0, lyRt 1 a.1), (1, lyRd a.2)]
def clFo (a : Nat × List DV) : Fo := ⟨fun μ => .pointer (some ⟨μ 2, 0, none⟩), [(0, lyRt 1 a.1), (1, lyRd a.2), (2, lyRt 3 a.1), (3, lyRd a.2)], 2⟩
theorem Cb : BytI 0 [] := ⟨rfl, fun x h => (by cases h), rfl⟩
theorem clFo_ok (a : Nat × List DV) (h : ClOk a.2 a.1) : FoOk Try.prog 30 2 clAg (clRs a) (clFo a) := by
 obtain ⟨n, es⟩ := a
 obtain ⟨hT, he, hn, hz⟩ := h
 dsimp only at *
 have hl : es.length = n * 3 := by rw [he, C0, hn]
 have hk : TbK es n := by rw [he, hn]; exact hT.tk
 have eb : btw (B2 es) (B1 []) (B1 []) = B2 es := btw_all _
 have T := B8 clX clT0 clL (cl_r n es) ⟨⟨rfl, hl, by omega⟩, ⟨hk, Cb, Cb, by rw [eb]; exact hz⟩, trivial⟩ rfl
 rw [eb, ← hn, ← he] at T
 have T2 := T.weakX (k := 2) (h2 := [(3, ⟨.shut, [.bool true, .slice (some ⟨2, 0, none⟩) n (B0 + 2)]⟩), (2, ⟨.dp 3 zPr es, []⟩), (0, ⟨.shut, [.bool true, .slice (some ⟨1, 0, none⟩) n (B0 + 1)]⟩), (1, ⟨.dp 3 zPr es, []⟩)]) rfl (by omega) (by omega) (fun m s hl => by
  have hl : lk [(0, _), (1, _)] m = some s := hl
  rw [B3] at hl
  split at hl
  ·rename_i e; subst e; exact ⟨_, rfl⟩
  rw [B3] at hl
  split at hl
  ·rename_i e; subst e; exact ⟨_, rfl⟩
  ·cases hl) (fun m s hl => by
  rw [B3] at hl
  split at hl
  ·rename_i e; subst e; cases hl; exact .inr ⟨by omega, rfl⟩
  rw [B3] at hl
  split at hl
  ·rename_i e; subst e; cases hl; exact .inl ⟨rfl, rfl⟩
  rw [B3] at hl
  split at hl
  ·rename_i e; subst e; cases hl; exact .inr ⟨by omega, rfl⟩
  rw [B3] at hl
  split at hl
  ·rename_i e; subst e; cases hl; exact .inr ⟨by omega, rfl⟩
  ·cases hl)
 refine ⟨Bv (Dm (by omega)) Dn, ?_, Dm (by show 2 < 2 + 2; omega), ?_, _, _, _, fun i => bif Nat.beq i 0 then 3 else 2, T2, rfl, ?_, ?_, ?_⟩
 ·intro p hp
  simp only [clRs, List.mem_cons, List.not_mem_nil, or_false] at hp
  rcases hp with rfl | rfl
  ·exact natRt (by omega)
  ·exact Ev
 ·intro p hp
  simp only [clFo, List.mem_cons, List.not_mem_nil, or_false] at hp
  rcases hp with rfl | rfl | rfl | rfl
  ·exact ⟨by show 0 < 2 + 2; omega, natRt (by show 1 < 2 + 2; omega), fun _ => List.mem_cons_self ..⟩
  ·exact ⟨by show 1 < 2 + 2; omega, Ev, fun _ => List.mem_cons_of_mem _ (List.mem_cons_self ..)⟩
  ·exact ⟨by show 2 < 2 + 2; omega, natRt (by show 3 < 2 + 2; omega), fun h => absurd h (by show ¬ 2 < 2; omega)⟩
  ·exact ⟨by show 3 < 2 + 2; omega, Ev, fun h => absurd h (by show ¬ 3 < 2; omega)⟩
 ·intro p hp
  simp only [clFo, List.mem_cons, List.not_mem_nil, or_false] at hp
  rcases hp with rfl | rfl | rfl | rfl <;> rfl
 ·intro i j hi hj e
  have hi : i < 2 := hi
  have hj : j < 2 := hj
  match i, j, hi, hj, e with
  | 0, 0, _, _, _ => rfl
  | 1, 1, _, _, _ => rfl
  | 0, 1, _, _, e => exact absurd e (by show ¬ 3 = 2; omega)
  | 1, 0, _, _, e => exact absurd e (by show ¬ 2 = 3; omega)
 ·intro i hi
  have hi : i < 2 := hi
  match i, hi with
  | 0, _ => exact ⟨by show 2 ≤ 3; omega, by show 3 < 4; omega⟩
  | 1, _ => exact ⟨by show 2 ≤ 2; omega, by show 2 < 4; omega⟩
def clPick : List Value → Hp → Option (List Nat × (Nat × List DV))
 | [.pointer (some ⟨t, 0, none⟩)], h => (match lrT h t with
  | some (a, n) => (match lrD h a with
   | some es => some ([t, a], (n, es))
   | none => none)
  | none => none)
 | _, _ => none
theorem clPick_ok (xs : List Value) (h0 : Hp) (ns : List Nat) (a : Nat × List DV) (h : clPick xs h0 = some (ns, a)) : ns.length = 2 ∧ ∀ nx, xs = clAg (nmA ns 2 nx) ∧ ∀ p ∈ clRs a, lk h0 (nmA ns 2 nx p.1) = some (p.2 (nmA ns 2 nx)) := by
 unfold clPick at h
 split at h
 case h_2 => cases h
 rename_i t
 split at h
 case h_2 => cases h
 rename_i l n e1
 split at h
 case h_2 => cases h
 rename_i es e2
 cases h
 refine ⟨rfl, fun nx => ⟨rfl, fun p hp => ?_⟩⟩
 simp only [clRs, List.mem_cons, List.not_mem_nil, or_false] at hp
 rcases hp with rfl | rfl
 ·exact lrT_ok e1
 ·exact lrD_ok e2
def clC : Fc Try.prog 30 2 := ⟨Nat × List DV, clPick, fun _ => clAg, clRs, fun a tp => some (clFo a, tp, [ClOk a.2 a.1]), clPick_ok, (fun a p hp => by
 simp only [clRs, List.mem_cons, List.not_mem_nil, or_false] at hp
 rcases hp with rfl | rfl <;> (dsimp only; omega)), (fun a tp o tp' ob h ho => by
 simp only [oI, pI] at h
 obtain ⟨rfl, rfl, rfl⟩ := h
 exact clFo_ok a ho.1)⟩
noncomputable def clT : TFun := mkG clC
theorem clT_one : Cv Try.prog clT := J5 _
def acTab : FuncId → List Nat := fun f => bif Nat.beq f 27 then [16, 24, 32, 66, 94, 126] else bif Nat.beq f 31 then [9] else bif Nat.beq f 20 then [22] else bif Nat.beq f 43 then [12, 26] else lyTab f
def acSy (z : Bool) : FuncId → Nat → Option Nat := orSy (lsSy 27 [(130, 0), (133, 0), (134, 0), (16, 0), (24, 0), (32, 0), (66, 0), (94, 0), (126, 0)]) (orSy (lsSy 31 [(6, 0), (8, 0), (9, 0)]) (orSy (lsSy 42 [(22, 0), (23, 32)]) (orSy (lsSy 44 (bif z then [(3, 65), (8, 49)] else [(3, 65), (8, 46)])) (lySy z))))
def overT4 : TFun := fun f args h nx tp => match args with
 | [.slice (some ⟨n, 0, none⟩) _ _] => (match lk h n with
  | some ⟨.shut, _⟩ => overT3 f args h nx tp
  | _ => overT2 f args h nx tp)
 | _ => overT2 f args h nx tp
theorem over4_one : Cv Try.prog overT4 := by
 intro f args h nx tp out tp' ob e ho
 unfold overT4 at e
 split at e
 ·split at e
  ·exact over3_one _ _ _ _ _ _ _ _ e ho
  ·exact over2_one _ _ _ _ _ _ _ _ e ho
 ·exact over2_one _ _ _ _ _ _ _ _ e ho
noncomputable def acT : TFun := orTz layT (orTz gxtT (orTz allT (orTz rbT (orTz atT (orTz pxTs (orTz overT4 (orTz clT (orTz bsTv insT9))))))))
noncomputable def acV (z : Bool) : Tv := ⟨acT, cmpY, noL, acTab, acSy z, fun _ => [], fun _ => 0⟩
def acA (k N : Int) (m c1 q c2 : Nat) : List Value := [.pointer (some ⟨0, 0, none⟩), .agg ⟨[.int .i64 k, .int .i64 N, .slice (some ⟨3, 0, none⟩) m c1, .slice (some ⟨4, 0, none⟩) q c2]⟩]
def vO : List Value := [.int .u8 111, .int .u8 108, .int .u8 100]
def vA : List Value := [.int .u8 97]
def acPu (k : Int) (n : Nat) (es : List DV) : List Prop := [(k == (0 : Int)) = false, (k == (1 : Int)) = false, (k == (2 : Int)) = false, (k == (3 : Int)) = false, (k == (4 : Int)) = true, ClOk es n, false = false, false = false, false = false, Prod.fst (n, es) = (0 : Nat) → es = [], Fl vO, BsOk es vO n (3 : Nat) ∧ hitP (B2 es) (B1 vO) = true ∧ Value.func (Fn.func (47 : Nat)) (Array.mk []) (Array.mk []) = Value.func (Fn.func (47 : Nat)) #[] #[], (0 : Nat) < (3 : Nat), (3 : Nat) ≤ (140737488355328 : Nat) ∧ (3 : Nat) ≤ (9223372036854775807 : Nat), (3 : Nat) = (3 : Nat), Fl vO, (3 : Nat) ≤ (3 : Nat), true = true, (0 : Nat) ≤ (140737488355328 : Nat) ∧ (0 : Nat) ≤ (9223372036854775807 : Nat), (0 : Nat) = (0 : Nat), Fl [], (0 : Int) ≤ (↑(lbP (B2 es) (B1 vO)) : Int) ∧ (↑(lbP (B2 es) (B1 vO)) : Int) < (↑n : Int), lbP (B2 es) (B1 vO) * (3 : Nat) + (3 : Nat) ≤ List.length es, (Fl vO) ∧ ((3 : Nat) = (0 : Nat) → vO = []), (Fl []) ∧ ((0 : Nat) = (0 : Nat) → ([] : List Value) = []), false = false, false = false, false = false, false = false]
def acPf (k : Int) (n : Nat) (es : List DV) : List Prop := [(k == (0 : Int)) = false, (k == (1 : Int)) = false, (k == (2 : Int)) = false, (k == (3 : Int)) = false, (k == (4 : Int)) = true, ClOk es n, false = false, false = false, false = false, Prod.fst (n, es) = (0 : Nat) → es = [], Fl vO, BsOk es vO n (3 : Nat) ∧ hitP (B2 es) (B1 vO) = false ∧ Value.func (Fn.func (47 : Nat)) (Array.mk []) (Array.mk []) = Value.func (Fn.func (47 : Nat)) #[] #[], decide ((↑n : Int) ≥ (64 : Int)) = true, false = false, false = false, false = false, false = false]
def acPi (k : Int) (n : Nat) (es : List DV) : List Prop := [(k == (0 : Int)) = false, (k == (1 : Int)) = false, (k == (2 : Int)) = false, (k == (3 : Int)) = false, (k == (4 : Int)) = true, ClOk es n, false = false, false = false, false = false, Prod.fst (n, es) = (0 : Nat) → es = [], Fl vO, BsOk es vO n (3 : Nat) ∧ hitP (B2 es) (B1 vO) = false ∧ Value.func (Fn.func (47 : Nat)) (Array.mk []) (Array.mk []) = Value.func (Fn.func (47 : Nat)) #[] #[], decide ((↑n : Int) ≥ (64 : Int)) = false, (0 : Nat) < (3 : Nat), (3 : Nat) ≤ (140737488355328 : Nat) ∧ (3 : Nat) ≤ (9223372036854775807 : Nat), (3 : Nat) = (3 : Nat), Fl vO, (3 : Nat) ≤ (3 : Nat), true = true, (0 : Nat) ≤ (140737488355328 : Nat) ∧ (0 : Nat) ≤ (9223372036854775807 : Nat), (0 : Nat) = (0 : Nat), Fl [], B0 + (5 : Nat) = B0 + (5 : Nat) ∧ [Value.slice none (0 : Nat) (0 : Nat), Value.slice none (0 : Nat) (0 : Nat), Value.bool false] = [Value.slice none (0 : Nat) (0 : Nat), Value.slice none (0 : Nat) (0 : Nat), Value.bool false] ∧ (0 : Int) ≤ (↑(lbP (B2 es) (B1 vO)) : Int) ∧ (↑(lbP (B2 es) (B1 vO)) : Int) ≤ (↑n : Int) ∧ n ≤ (1000 : Nat) ∧ List.length es = n * (3 : Nat) ∧ (3 : Nat) = (3 : Nat) ∧ Br es ∧ Br [DV.sl (3 : Nat) none (List.map DV.fl vO), DV.sl (0 : Nat) none (List.map DV.fl []), DV.fl (Value.bool false)], (Fl vO) ∧ ((3 : Nat) = (0 : Nat) → vO = []), (Fl []) ∧ ((0 : Nat) = (0 : Nat) → ([] : List Value) = []), false = false, false = false, false = false, false = false]
def acRu (j p : Nat) (X : List DV) : List Prop := [p = (0 : Nat) → X = [], Fl vA, BsOk X vA p (1 : Nat) ∧ hitP (B2 X) (B1 vA) = true ∧ Value.func (Fn.func (47 : Nat)) (Array.mk []) (Array.mk []) = Value.func (Fn.func (47 : Nat)) #[] #[], (0 : Nat) < (1 : Nat), (1 : Nat) ≤ (140737488355328 : Nat) ∧ (1 : Nat) ≤ (9223372036854775807 : Nat), (1 : Nat) = (1 : Nat), Fl vA, (1 : Nat) ≤ (1 : Nat), true = true, (0 : Nat) ≤ (140737488355328 : Nat) ∧ (0 : Nat) ≤ (9223372036854775807 : Nat), (0 : Nat) = (0 : Nat), Fl [], (0 : Int) ≤ (↑(lbP (B2 X) (B1 vA)) : Int) ∧ (↑(lbP (B2 X) (B1 vA)) : Int) < (↑p : Int), lbP (B2 X) (B1 vA) * (3 : Nat) + (3 : Nat) ≤ List.length X, (Fl vA) ∧ ((1 : Nat) = (0 : Nat) → vA = []), (Fl []) ∧ ((0 : Nat) = (0 : Nat) → ([] : List Value) = [])]
def acRf (j p : Nat) (X : List DV) : List Prop := [p = (0 : Nat) → X = [], Fl vA, BsOk X vA p (1 : Nat) ∧ hitP (B2 X) (B1 vA) = false ∧ Value.func (Fn.func (47 : Nat)) (Array.mk []) (Array.mk []) = Value.func (Fn.func (47 : Nat)) #[] #[], decide ((↑p : Int) ≥ (64 : Int)) = true]
def acRi (j p : Nat) (X : List DV) : List Prop := [p = (0 : Nat) → X = [], Fl vA, BsOk X vA p (1 : Nat) ∧ hitP (B2 X) (B1 vA) = false ∧ Value.func (Fn.func (47 : Nat)) (Array.mk []) (Array.mk []) = Value.func (Fn.func (47 : Nat)) #[] #[], decide ((↑p : Int) ≥ (64 : Int)) = false, (0 : Nat) < (1 : Nat), (1 : Nat) ≤ (140737488355328 : Nat) ∧ (1 : Nat) ≤ (9223372036854775807 : Nat), (1 : Nat) = (1 : Nat), Fl vA, (1 : Nat) ≤ (1 : Nat), true = true, (0 : Nat) ≤ (140737488355328 : Nat) ∧ (0 : Nat) ≤ (9223372036854775807 : Nat), (0 : Nat) = (0 : Nat), Fl [], B0 + j = B0 + j ∧ [Value.slice none (0 : Nat) (0 : Nat), Value.slice none (0 : Nat) (0 : Nat), Value.bool false] = [Value.slice none (0 : Nat) (0 : Nat), Value.slice none (0 : Nat) (0 : Nat), Value.bool false] ∧ (0 : Int) ≤ (↑(lbP (B2 X) (B1 vA)) : Int) ∧ (↑(lbP (B2 X) (B1 vA)) : Int) ≤ (↑p : Int) ∧ p ≤ (1000 : Nat) ∧ List.length X = p * (3 : Nat) ∧ (3 : Nat) = (3 : Nat) ∧ Br X ∧ Br [DV.sl (1 : Nat) none (List.map DV.fl vA), DV.sl (0 : Nat) none (List.map DV.fl []), DV.fl (Value.bool true)], (Fl vA) ∧ ((1 : Nat) = (0 : Nat) → vA = []), (Fl []) ∧ ((0 : Nat) = (0 : Nat) → ([] : List Value) = [])]
def acCl (j n : Nat) (rs : List DV) : List Prop := [B0 + j = B0 + j ∧ (0 : Nat) = (0 : Nat), ((0 : Nat) + n) * (56 : Nat) ≤ (140737488355328 : Nat) ∧ (0 : Nat) + n ≤ (9223372036854775807 : Nat), (0 : Nat) + n * (3 : Nat) ≤ List.length rs, Br (List.take (n * (3 : Nat)) (List.drop (0 : Nat) rs))]
def acOQ (y n : Nat) (es rs : List DV) : Hp := [(y + 1, ⟨.shut, [.slice (some ⟨y, 0, none⟩) (0 + n) (B0 + y)]⟩), (y, ⟨.dp 3 zPr ([] ++ List.take (n * 3) (List.drop 0 rs)), []⟩), (8, ⟨.shut, [.bool true, .slice (some ⟨9, 0, none⟩) n (B0 + 9)]⟩), (9, ⟨.dp 3 zPr es, []⟩), (0, ⟨.shut, [.pointer (some ⟨8, 0, none⟩), .pointer (some ⟨y + 1, 0, none⟩)]⟩)]
theorem ac_Nk0s (k N : Int) (m c1 q c2 n : Nat) (es rs : List DV) (ky vy : List Value) : prjK [0, 1, 2] (runZ (acV true) Try.prog 14 27 (acA k N m c1 q c2) (lyN .old ky vy) 5 [true, false]) =
 Res.ok ((Value.bool true, lySN, 6), [], [(k == (0 : Int)) = true, LyOk false false m c1 q c2 0 [] [] ky vy ∧ chP [] (lyPr false ky vy) = false]) := by kernel_rfl
theorem ac_Nk0n (k N : Int) (m c1 q c2 n : Nat) (es rs : List DV) (ky vy : List Value) : prjK [0, 1, 2, 6, 7] (runZ (acV true) Try.prog 14 27 (acA k N m c1 q c2) (lyN .old ky vy) 5 [true, true]) =
 Res.ok ((Value.bool true, (lyON 6 7 (layP [] (lyPr false ky vy))), 8), [], [(k == (0 : Int)) = true, LyOk false false m c1 q c2 0 [] [] ky vy ∧ chP [] (lyPr false ky vy) = true]) := by kernel_rfl
theorem ac_Nk1s (k N : Int) (m c1 q c2 n : Nat) (es rs : List DV) (ky vy : List Value) : prjK [0, 1, 2] (runZ (acV true) Try.prog 14 27 (acA k N m c1 q c2) (lyN .old ky vy) 5 [false, true, false]) =
 Res.ok ((Value.bool true, lySN, 6), [], [(k == (0 : Int)) = false, (k == (1 : Int)) = true, LyOk false true m c1 q c2 0 [] [] ky vy ∧ chP [] (lyPr true ky vy) = false]) := by kernel_rfl
theorem ac_Nk1n (k N : Int) (m c1 q c2 n : Nat) (es rs : List DV) (ky vy : List Value) : prjK [0, 1, 2, 6, 7] (runZ (acV true) Try.prog 14 27 (acA k N m c1 q c2) (lyN .old ky vy) 5 [false, true, true]) =
 Res.ok ((Value.bool true, (lyON 6 7 (layP [] (lyPr true ky vy))), 8), [], [(k == (0 : Int)) = false, (k == (1 : Int)) = true, LyOk false true m c1 q c2 0 [] [] ky vy ∧ chP [] (lyPr true ky vy) = true]) := by kernel_rfl
theorem ac_Nk5s (k N : Int) (m c1 q c2 n : Nat) (es rs : List DV) (ky vy : List Value) : prjK [0, 1, 2] (runZ (acV true) Try.prog 14 27 (acA k N m c1 q c2) (lyN .old ky vy) 5 [false, false, false, false, false, true, false]) =
 (let a1 := [Value.int IntKind.u8 (lowI IntKind.u8 N), Value.int IntKind.u8 (lowI IntKind.u8 (srI N (8 : Int)))]; Res.ok ((Value.bool true, lySN, 7), [], [(k == (0 : Int)) = false, (k == (1 : Int)) = false, (k == (2 : Int)) = false, (k == (3 : Int)) = false, (k == (4 : Int)) = false, (k == (5 : Int)) = true, (0 : Int) ≤ (8 : Int) ∧ (8 : Int) ≤ (64 : Int), LyOk true false 2 2 q c2 0 [] [] a1 vy ∧ chP [] (lyPr false a1 vy) = false])) := by kernel_rfl
theorem ac_Nk5n (k N : Int) (m c1 q c2 n : Nat) (es rs : List DV) (ky vy : List Value) : prjK [0, 1, 2, 7, 8] (runZ (acV true) Try.prog 14 27 (acA k N m c1 q c2) (lyN .old ky vy) 5 [false, false, false, false, false, true, true]) =
 (let a1 := [Value.int IntKind.u8 (lowI IntKind.u8 N), Value.int IntKind.u8 (lowI IntKind.u8 (srI N (8 : Int)))]; Res.ok ((Value.bool true, (lyON 7 8 (layP [] (lyPr false a1 vy))), 9), [], [(k == (0 : Int)) = false, (k == (1 : Int)) = false, (k == (2 : Int)) = false, (k == (3 : Int)) = false, (k == (4 : Int)) = false, (k == (5 : Int)) = true, (0 : Int) ≤ (8 : Int) ∧ (8 : Int) ≤ (64 : Int), LyOk true false 2 2 q c2 0 [] [] a1 vy ∧ chP [] (lyPr false a1 vy) = true])) := by kernel_rfl
theorem ac_Nk2m (k N : Int) (m c1 q c2 n : Nat) (es rs : List DV) (ky vy : List Value) : prjK [0, 1, 2] (runZ (acV true) Try.prog 14 27 (acA k N m c1 q c2) (lyN .old ky vy) 5 [false, false, true, false, false, true, true, true]) =
 Res.ok ((Value.bool true, lySN, 12), [], [(k == (0 : Int)) = false, (k == (1 : Int)) = false, (k == (2 : Int)) = true, (Fl ky) ∧ (m = 0 → ky = []), TbK [] 0 ∧ BytI m ky ∧ false = false, (Fl ky) ∧ (m = 0 → ky = []), AtOk [] ky 0 m ∧ false = false, true = true, true = true, true = true, 3 = 3 ∧ Ed [DV.sl 0 none [], DV.sl 0 none [], DV.fl (Value.bool false)]]) := by kernel_rfl
theorem ac_Nk3e (k N : Int) (m c1 q c2 n : Nat) (es rs : List DV) (ky vy : List Value) : prjK [0, 1, 2] (runZ (acV true) Try.prog 14 27 (acA k N m c1 q c2) (lyN .old ky vy) 5 [false, false, false, true, true, false]) =
 Res.ok ((Value.bool true, lySN, 6), [], [(k == (0 : Int)) = false, (k == (1 : Int)) = false, (k == (2 : Int)) = false, (k == (3 : Int)) = true, (Fl ky) ∧ (m = 0 → ky = []), (Fl vy) ∧ (q = 0 → vy = []), TbK [] 0 ∧ BytI m ky ∧ BytI q vy ∧ true = true, false = false, SpOk [] [] 0 ∧ 0 = 0]) := by kernel_rfl
theorem ac_Nk4 (k N : Int) (m c1 q c2 n : Nat) (es rs : List DV) (ky vy : List Value) : prjK [0, 6, 33, 34] (runZ (acV true) Try.prog 14 27 (acA k N m c1 q c2) (lyN .old ky vy) 5 [false, false, false, false, true, true, false,
 false, false, false, false, false, false, false, false, false, false])
 =
  (let a6 := (Fn.func 47); let a5 := (Array.mk []); let a4 := [Value.slice none 0 0, Value.slice none 0 0, Value.bool false]; let a3 := [Value.int IntKind.u8 (97 : Int)]; let a1 := [Value.int IntKind.u8 (111 : Int), Value.int IntKind.u8 (108 : Int), Value.int IntKind.u8 (100 : Int)]; let a2 := [DV.sl 3 none (List.map DV.fl a1), DV.sl 0 none (List.map DV.fl []), DV.fl (Value.bool false)]; Res.ok ((Value.bool true, [(34, Rw.mk Kd.shut [Value.slice (some (Addr.mk 33 0 none)) 0 (B0 + 33)]), (33, Rw.mk (Kd.dp 3 a4 []) []), (6, Rw.mk Kd.shut [Value.bool true, Value.slice none 0 0]), (0, Rw.mk Kd.shut [Value.pointer (some (Addr.mk 6 0 none)), Value.pointer (some (Addr.mk 34 0 none))])], 35), [], ((fun (q0 q1 q2 q3 : Prop) => [(k == (0 : Int)) = false, (k == (1 : Int)) = false, (k == (2 : Int)) = false, (k == (3 : Int)) = false, (k == (4 : Int)) = true, TbK [] 0 ∧ BytI 0 [] ∧ BytI 0 [] ∧ true
 = true, false = false, false = false, false = false, q0, BsOk [] a1 0 3 ∧ false = false ∧ Value.func a6 a5 a5 = Value.func a6 #[] #[], false = false, 0 < 3, 3 ≤ 140737488355328 ∧ 3 ≤ 9223372036854775807, 3 = 3, q0, 3 ≤ 3, true = true, q1, 0 = 0, Fl [], 56 ≤ 140737488355328, (Fl a1) ∧ (3 = 0 → a1 = []), q2, 3 ≤ 3, true = true, false = false, false = false, false = false, false = false, 1 = 0 → a2 = [], q3, BsOk a2 a3 1 1 ∧ false = false ∧ Value.func a6 a5 a5 = Value.func a6 #[] #[], false = false, 0 < 1, 1 ≤ 140737488355328 ∧ 1 ≤ 9223372036854775807, 1 = 1, q3, 1 ≤ 1, true = true, q1, 0 = 0, Fl [], B0 + 19 = B0 + 19 ∧ a4 = a4 ∧ (0 : Int) ≤ (0 : Int) ∧ (0 : Int) ≤ (1 : Int) ∧ 1 ≤ 1000 ∧ 3 = 3 ∧ 3 = 3 ∧ Br a2 ∧ Br [DV.sl 1 none (List.map DV.fl a3), DV.sl 0 none (List.map DV.fl []), DV.fl (Value.bool true)], (Fl a3) ∧ (1 = 0 → a3 = []), q2, B0 + 33 = B0 + 33 ∧ 0 = 0])
 (Fl a1) (0 ≤ 140737488355328 ∧ 0 ≤ 9223372036854775807) ((Fl []) ∧ (0 = 0 → ([] : List Value) = [])) (Fl
 a3)))) := by kernel_rfl
theorem ac_Nkx (k N : Int) (m c1 q c2 n : Nat) (es rs : List DV) (ky vy : List Value) : prjK [0, 1, 2] (runZ (acV true) Try.prog 14 27 (acA k N m c1 q c2) (lyN .old ky vy) 5 [false, false, false, false, false, false]) =
 Res.ok ((Value.bool true, lySN, 6), [], [(k == (0 : Int)) = false, (k == (1 : Int)) = false, (k == (2 : Int)) = false, (k == (3 : Int)) = false, (k == (4 : Int)) = false, (k == (5 : Int)) = false]) := by kernel_rfl
theorem ac_Ek0s (k N : Int) (m c1 q c2 n : Nat) (es rs : List DV) (ky vy : List Value) : prjK [0, 1, 2, 5] (runZ (acV false) Try.prog 14 27 (acA k N m c1 q c2) (lyE .old ky vy) 6 [true, false]) =
 Res.ok ((Value.bool true, lySE, 7), [], [(k == (0 : Int)) = true, LyOk false false m c1 q c2 0 [] [] ky vy ∧ chP [] (lyPr false ky vy) = false]) := by kernel_rfl
theorem ac_Ek0n (k N : Int) (m c1 q c2 n : Nat) (es rs : List DV) (ky vy : List Value) : prjK [0, 1, 2, 7, 8] (runZ (acV false) Try.prog 14 27 (acA k N m c1 q c2) (lyE .old ky vy) 6 [true, true]) =
 Res.ok ((Value.bool true, (lyON 7 8 (layP [] (lyPr false ky vy))), 9), [], [(k == (0 : Int)) = true, LyOk false false m c1 q c2 0 [] [] ky vy ∧ chP [] (lyPr false ky vy) = true]) := by kernel_rfl
theorem ac_Ek1s (k N : Int) (m c1 q c2 n : Nat) (es rs : List DV) (ky vy : List Value) : prjK [0, 1, 2, 5] (runZ (acV false) Try.prog 14 27 (acA k N m c1 q c2) (lyE .old ky vy) 6 [false, true, false]) =
 Res.ok ((Value.bool true, lySE, 7), [], [(k == (0 : Int)) = false, (k == (1 : Int)) = true, LyOk false true m c1 q c2 0 [] [] ky vy ∧ chP [] (lyPr true ky vy) = false]) := by kernel_rfl
theorem ac_Ek1n (k N : Int) (m c1 q c2 n : Nat) (es rs : List DV) (ky vy : List Value) : prjK [0, 1, 2, 7, 8] (runZ (acV false) Try.prog 14 27 (acA k N m c1 q c2) (lyE .old ky vy) 6 [false, true, true]) =
 Res.ok ((Value.bool true, (lyON 7 8 (layP [] (lyPr true ky vy))), 9), [], [(k == (0 : Int)) = false, (k == (1 : Int)) = true, LyOk false true m c1 q c2 0 [] [] ky vy ∧ chP [] (lyPr true ky vy) = true]) := by kernel_rfl
theorem ac_Ek5s (k N : Int) (m c1 q c2 n : Nat) (es rs : List DV) (ky vy : List Value) : prjK [0, 1, 2, 5] (runZ (acV false) Try.prog 14 27 (acA k N m c1 q c2) (lyE .old ky vy) 6 [false, false, false, false, false, true, false]) =
 (let a1 := [Value.int IntKind.u8 (lowI IntKind.u8 N), Value.int IntKind.u8 (lowI IntKind.u8 (srI N (8 : Int)))]; Res.ok ((Value.bool true, lySE, 8), [], [(k == (0 : Int)) = false, (k == (1 : Int)) = false, (k == (2 : Int)) = false, (k == (3 : Int)) = false, (k == (4 : Int)) = false, (k == (5 : Int)) = true, (0 : Int) ≤ (8 : Int) ∧ (8 : Int) ≤ (64 : Int), LyOk true false 2 2 q c2 0 [] [] a1 vy ∧ chP [] (lyPr false a1 vy) = false])) := by kernel_rfl
theorem ac_Ek5n (k N : Int) (m c1 q c2 n : Nat) (es rs : List DV) (ky vy : List Value) : prjK [0, 1, 2, 8, 9] (runZ (acV false) Try.prog 14 27 (acA k N m c1 q c2) (lyE .old ky vy) 6 [false, false, false, false, false, true, true]) =
 (let a1 := [Value.int IntKind.u8 (lowI IntKind.u8 N), Value.int IntKind.u8 (lowI IntKind.u8 (srI N (8 : Int)))]; Res.ok ((Value.bool true, (lyON 8 9 (layP [] (lyPr false a1 vy))), 10), [], [(k == (0 : Int)) = false, (k == (1 : Int)) = false, (k == (2 : Int)) = false, (k == (3 : Int)) = false, (k == (4 : Int)) = false, (k == (5 : Int)) = true, (0 : Int) ≤ (8 : Int) ∧ (8 : Int) ≤ (64 : Int), LyOk true false 2 2 q c2 0 [] [] a1 vy ∧ chP [] (lyPr false a1 vy) = true])) := by kernel_rfl
theorem ac_Ek2m (k N : Int) (m c1 q c2 n : Nat) (es rs : List DV) (ky vy : List Value) : prjK [0, 1, 2, 5] (runZ (acV false) Try.prog 14 27 (acA k N m c1 q c2) (lyE .old ky vy) 6 [false, false, true, false, false, true, true, true]) =
 Res.ok ((Value.bool true, lySE, 13), [], [(k == (0 : Int)) = false, (k == (1 : Int)) = false, (k == (2 : Int)) = true, (Fl ky) ∧ (m = 0 → ky = []), TbK [] 0 ∧ BytI m ky ∧ false = false, B0 + 5 = B0 + 5 ∧ 0 = 0 ∧ 0 < 3, (Fl ky) ∧ (m = 0 → ky = []), AtOk [] ky 0 m ∧ false = false, true = true, true = true, true = true, 3 = 3 ∧ Ed [DV.sl 0 none [], DV.sl 0 none [], DV.fl (Value.bool false)]]) := by kernel_rfl
theorem ac_Ek3e (k N : Int) (m c1 q c2 n : Nat) (es rs : List DV) (ky vy : List Value) : prjK [0, 1, 2, 5] (runZ (acV false) Try.prog 14 27 (acA k N m c1 q c2) (lyE .old ky vy) 6 [false, false, false, true, true, true]) =
 Res.ok ((Value.bool true, lySE, 7), [], [(k == (0 : Int)) = false, (k == (1 : Int)) = false, (k == (2 : Int)) = false, (k == (3 : Int)) = true, (Fl ky) ∧ (m = 0 → ky = []), (Fl vy) ∧ (q = 0 → vy = []), TbK [] 0 ∧ BytI m ky ∧ BytI q vy ∧ true = true, RbOk [] 0 m c1 q c2 ky vy ∧ true = true, SpOk [] [] 0 ∧ 0 = 0]) := by kernel_rfl
theorem ac_Ek4 (k N : Int) (m c1 q c2 n : Nat) (es rs : List DV) (ky vy : List Value) : prjK [0, 7, 36, 37] (runZ (acV false) Try.prog 14 27 (acA k N m c1 q c2) (lyE .old ky vy) 6 [false, false, false, false, true, true, false,
 false, false, false, false, false, false, false, false, false, false])
 =
  (let a6 := (Fn.func 47); let a5 := (Array.mk []); let a4 := [Value.slice none 0 0, Value.slice none 0 0, Value.bool false]; let a3 := [Value.int IntKind.u8 (97 : Int)]; let a1 := [Value.int IntKind.u8 (111 : Int), Value.int IntKind.u8 (108 : Int), Value.int IntKind.u8 (100 : Int)]; let a2 := [DV.sl 3 none (List.map DV.fl a1), DV.sl 0 none (List.map DV.fl []), DV.fl (Value.bool false)]; Res.ok ((Value.bool true, [(37, Rw.mk Kd.shut [Value.slice (some (Addr.mk 36 0 none)) 0 (B0 + 36)]), (36, Rw.mk (Kd.dp 3 a4 []) []), (7, Rw.mk Kd.shut [Value.bool true, Value.slice none 0 0]), (0, Rw.mk Kd.shut [Value.pointer (some (Addr.mk 7 0 none)), Value.pointer (some (Addr.mk 37 0 none))])], 38), [], ((fun (q0 q1 q2 q3 : Prop) => [(k == (0 : Int)) = false, (k == (1 : Int)) = false, (k == (2 : Int)) = false, (k == (3 : Int)) = false, (k == (4 : Int)) = true, TbK [] 0 ∧ BytI 0 [] ∧ BytI 0 [] ∧ true
 = true, false = false, false = false, false = false, q0, BsOk [] a1 0 3 ∧ false = false ∧ Value.func a6 a5 a5 = Value.func a6 #[] #[], false = false, 0 < 3, 3 ≤ 140737488355328 ∧ 3 ≤ 9223372036854775807, 3 = 3, q0, 3 ≤ 3, true = true, q1, 0 = 0, Fl [], 56 ≤ 140737488355328, (Fl a1) ∧ (3 = 0 → a1 = []), q2, 3 ≤ 3, true = true, false = false, false = false, false = false, false = false, 1 = 0 → a2 = [], q3, BsOk a2 a3 1 1 ∧ false = false ∧ Value.func a6 a5 a5 = Value.func a6 #[] #[], false = false, 0 < 1, 1 ≤ 140737488355328 ∧ 1 ≤ 9223372036854775807, 1 = 1, q3, 1 ≤ 1, true = true, q1, 0 = 0, Fl [], B0 + 20 = B0 + 20 ∧ a4 = a4 ∧ (0 : Int) ≤ (0 : Int) ∧ (0 : Int) ≤ (1 : Int) ∧ 1 ≤ 1000 ∧ 3 = 3 ∧ 3 = 3 ∧ Br a2 ∧ Br [DV.sl 1 none (List.map DV.fl a3), DV.sl 0 none (List.map DV.fl []), DV.fl (Value.bool true)], (Fl a3) ∧ (1 = 0 → a3 = []), q2, B0 + 34 = B0 + 34 ∧ 0 = 0,
 q1, 0 ≤ 0, Br (List.take 0 (List.drop 0 []))]) (Fl a1) (0 ≤ 140737488355328 ∧ 0 ≤ 9223372036854775807) ((Fl []) ∧ (0 = 0 → ([] : List Value) = [])) (Fl
 a3)))) := by kernel_rfl
theorem ac_Ekx (k N : Int) (m c1 q c2 n : Nat) (es rs : List DV) (ky vy : List Value) : prjK [0, 1, 2, 5] (runZ (acV false) Try.prog 14 27 (acA k N m c1 q c2) (lyE .old ky vy) 6 [false, false, false, false, false, false]) =
 Res.ok ((Value.bool true, lySE, 7), [], [(k == (0 : Int)) = false, (k == (1 : Int)) = false, (k == (2 : Int)) = false, (k == (3 : Int)) = false, (k == (4 : Int)) = false, (k == (5 : Int)) = false]) := by kernel_rfl
theorem ac_Rk0s (k N : Int) (m c1 q c2 n : Nat) (es rs : List DV) (ky vy : List Value) : prjK [0, 1, 2, 5, 6] (runZ (acV false) Try.prog 14 27 (acA k N m c1 q c2) (lyR .old n es rs ky vy) 7 [true, false]) =
 Res.ok ((Value.bool true, (lySR n es rs), 8), [], [(k == (0 : Int)) = true, LyOk false false m c1 q c2 n es rs ky vy ∧ n = n ∧ chP (B2 es) (lyPr false ky vy) = false]) := by kernel_rfl
theorem ac_Rk0n (k N : Int) (m c1 q c2 n : Nat) (es rs : List DV) (ky vy : List Value) : prjK [0, 1, 2, 8, 9] (runZ (acV false) Try.prog 14 27 (acA k N m c1 q c2) (lyR .old n es rs ky vy) 7 [true, true]) =
 Res.ok ((Value.bool true, (lyON 8 9 (layP (B2 es) (lyPr false ky vy))), 10), [], [(k == (0 : Int)) = true, LyOk false false m c1 q c2 n es rs ky vy ∧ n = n ∧ chP (B2 es) (lyPr false ky vy) = true]) := by kernel_rfl
theorem ac_Rk1s (k N : Int) (m c1 q c2 n : Nat) (es rs : List DV) (ky vy : List Value) : prjK [0, 1, 2, 5, 6] (runZ (acV false) Try.prog 14 27 (acA k N m c1 q c2) (lyR .old n es rs ky vy) 7 [false, true, false]) =
 Res.ok ((Value.bool true, (lySR n es rs), 8), [], [(k == (0 : Int)) = false, (k == (1 : Int)) = true, LyOk false true m c1 q c2 n es rs ky vy ∧ n = n ∧ chP (B2 es) (lyPr true ky vy) = false]) := by kernel_rfl
theorem ac_Rk1n (k N : Int) (m c1 q c2 n : Nat) (es rs : List DV) (ky vy : List Value) : prjK [0, 1, 2, 8, 9] (runZ (acV false) Try.prog 14 27 (acA k N m c1 q c2) (lyR .old n es rs ky vy) 7 [false, true, true]) =
 Res.ok ((Value.bool true, (lyON 8 9 (layP (B2 es) (lyPr true ky vy))), 10), [], [(k == (0 : Int)) = false, (k == (1 : Int)) = true, LyOk false true m c1 q c2 n es rs ky vy ∧ n = n ∧ chP (B2 es) (lyPr true ky vy) = true]) := by kernel_rfl
theorem ac_Rk5s (k N : Int) (m c1 q c2 n : Nat) (es rs : List DV) (ky vy : List Value) : prjK [0, 1, 2, 5, 6] (runZ (acV false) Try.prog 14 27 (acA k N m c1 q c2) (lyR .old n es rs ky vy) 7 [false, false, false, false, false, true, false]) =
 (let a1 := [Value.int IntKind.u8 (lowI IntKind.u8 N), Value.int IntKind.u8 (lowI IntKind.u8 (srI N (8 : Int)))]; Res.ok ((Value.bool true, (lySR n es rs), 9), [], [(k == (0 : Int)) = false, (k == (1 : Int)) = false, (k == (2 : Int)) = false, (k == (3 : Int)) = false, (k == (4 : Int)) = false, (k == (5 : Int)) = true, (0 : Int) ≤ (8 : Int) ∧ (8 : Int) ≤ (64 : Int), LyOk true false 2 2 q c2 n es rs a1 vy ∧ n = n ∧ chP (B2 es) (lyPr false a1 vy) = false])) := by kernel_rfl
theorem ac_Rk5n (k N : Int) (m c1 q c2 n : Nat) (es rs : List DV) (ky vy : List Value) : prjK [0, 1, 2, 9, 10] (runZ (acV false) Try.prog 14 27 (acA k N m c1 q c2) (lyR .old n es rs ky vy) 7 [false, false, false, false, false, true, true]) =
 (let a1 := [Value.int IntKind.u8 (lowI IntKind.u8 N), Value.int IntKind.u8 (lowI IntKind.u8 (srI N (8 : Int)))]; Res.ok ((Value.bool true, (lyON 9 10 (layP (B2 es) (lyPr false a1 vy))), 11), [], [(k == (0 : Int)) = false, (k == (1 : Int)) = false, (k == (2 : Int)) = false, (k == (3 : Int)) = false, (k == (4 : Int)) = false, (k == (5 : Int)) = true, (0 : Int) ≤ (8 : Int) ∧ (8 : Int) ≤ (64 : Int), LyOk true false 2 2 q c2 n es rs a1 vy ∧ n = n ∧ chP (B2 es) (lyPr false a1 vy) = true])) := by kernel_rfl
theorem ac_Rk2m (k N : Int) (m c1 q c2 n : Nat) (es rs : List DV) (ky vy : List Value) : prjK [0, 1, 2, 5, 6] (runZ (acV false) Try.prog 14 27 (acA k N m c1 q c2) (lyR .old n es rs ky vy) 7 [false, false, true, false, false, true, true, true]) =
 Res.ok ((Value.bool true, (lySR n es rs), 14), [], [(k == (0 : Int)) = false, (k == (1 : Int)) = false, (k == (2 : Int)) = true, B0 + 5 = B0 + 5 ∧ List.length es = n * 3 ∧ 0 < 3, (Fl ky) ∧ (m = 0 → ky = []), TbK es n ∧ BytI m ky ∧ hitP (B2 es) (B1 ky) = false, B0 + 6 = B0 + 6 ∧ List.length rs = n * 3 ∧ 0 < 3, (Fl ky) ∧ (m = 0 → ky = []), AtOk rs ky n m ∧ hitP (B2 rs) (B1 ky) = false, true = true, true = true, true = true, 3 = 3 ∧ Ed [DV.sl 0 none [], DV.sl 0 none [], DV.fl (Value.bool false)]]) := by kernel_rfl
theorem ac_Rk2h (k N : Int) (m c1 q c2 n : Nat) (es rs : List DV) (ky vy : List Value) : prjK [0, 1, 2, 5, 6] (runZ (acV false) Try.prog 14 27 (acA k N m c1 q c2) (lyR .old n es rs ky vy) 7 [false, false, true, true, true, true, true, true]) =
 (let a13 := (B2 rs); let a8 := (atP (B2 es) (B1 (Rw.cs (Rw.mk Kd.old ky)))); let a7 := (Value.int IntKind.u8); let a6 := (B1 ky); let a4 := (lbP a13 a6 * 3 + 1); let a10 := (B1 (List.take (dLen rs a4) (B4 rs a4))); let a2 := (lbP a13 a6 * 3 + 0); let a9 := (B1 (List.take (dLen rs a2) (B4 rs a2))); let a1 := (atP (B2 es) a6); let a5 := (Prod.fst a1); let a11 := (B1 (List.take (List.length a5) (byV a5))); let a3 := (Prod.fst (Prod.snd a1)); let a12 := (B1 (List.take (List.length a3) (byV a3))); Res.ok ((Value.bool true, (lySR n es rs), 18), [], [(k == (0 : Int)) = false, (k == (1 : Int)) = false, (k == (2 : Int)) = true, B0 + 5 = B0 + 5 ∧ List.length es = n * 3 ∧ 0 < 3, (Fl ky) ∧ (m = 0 → ky = []), TbK es n ∧ BytI m ky ∧ hitP (B2 es) a6 = true, B0 + 6 = B0 + 6 ∧ List.length rs = n * 3 ∧ 0 < 3, (Fl ky) ∧ (m = 0 → ky = []), AtOk rs ky
 n m ∧ hitP a13 a6 = true, (0 : Int) ≤ (↑(lbP a13 a6) : Int) ∧ (↑(lbP a13 a6) : Int) < (↑n : Int), ShOb Try.prog 29 false true rs (lbP a13 a6 * 3) 12, List.length a5 ≤ List.length (byV a5), List.take (List.length a5) (byV a5) = List.map a7 a11, dLen rs a2 ≤ List.length (B4 rs a2), List.take (dLen rs a2) (B4 rs a2) = List.map a7 a9, Cp (C5 a11) (C5 a9) = true, List.length a3 ≤ List.length (byV a3), List.take (List.length a3) (byV a3) = List.map a7 a12, dLen rs a4 ≤ List.length (B4 rs a4), List.take (dLen rs a4) (B4 rs a4) = List.map a7 a10, Cp (C5 a12) (C5 a10) = true, (Prod.snd (Prod.snd a1) == Dx rs (lbP a13 a6 * 3 + 2)) = true, 3 = 3 ∧ Ed [DV.sl (List.length a5) none (List.map DV.fl (byV a5)), DV.sl (List.length a3) none (List.map DV.fl (byV a3)), DV.fl (Value.bool (Prod.snd (Prod.snd a1)))], (Fl (byV a5)) ∧ (List.length (Prod.fst a8) = 0 → byV
 a5 = []), (Fl (byV a3)) ∧ (List.length (Prod.fst (Prod.snd a8)) = 0 → byV a3 =
 [])])) := by kernel_rfl
theorem ac_Rk3e (k N : Int) (m c1 q c2 n : Nat) (es rs : List DV) (ky vy : List Value) : prjK [0, 1, 2, 5, 6] (runZ (acV false) Try.prog 14 27 (acA k N m c1 q c2) (lyR .old n es rs ky vy) 7 [false, false, false, true, true, true]) =
 Res.ok ((Value.bool true, (lySR n es rs), 8), [], [(k == (0 : Int)) = false, (k == (1 : Int)) = false, (k == (2 : Int)) = false, (k == (3 : Int)) = true, B0 + 5 = B0 + 5 ∧ List.length es = n * 3 ∧ 0 < 3, (Fl ky) ∧ (m = 0 → ky = []), (Fl vy) ∧ (q = 0 → vy = []), TbK es n ∧ BytI m ky ∧ BytI q vy ∧ List.isEmpty (btw (B2 es) (B1 ky) (B1 vy)) = true, RbOk rs n m c1 q c2 ky vy ∧ List.isEmpty (rbR (RbA.mk n m c1 q c2 rs ky vy)) = true, SpOk [] [] 0 ∧ 0 = 0]) := by kernel_rfl
theorem ac_Rk3f (k N : Int) (m c1 q c2 n : Nat) (es rs : List DV) (ky vy : List Value) : prjK [0, 1, 2, 5, 6] (runZ (acV false) Try.prog 14 27 (acA k N m c1 q c2) (lyR .old n es rs ky vy) 7 [false, false, false, true, false, false]) =
 (let a2 := (rbR (RbA.mk n m c1 q c2 rs ky vy)); let a1 := (btw (B2 es) (B1 ky) (B1 vy)); Res.ok ((Value.bool true, (lySR n es rs), 10), [], [(k == (0 : Int)) = false, (k == (1 : Int)) = false, (k == (2 : Int)) = false, (k == (3 : Int)) = true, B0 + 5 = B0 + 5 ∧ List.length es = n * 3 ∧ 0 < 3, (Fl ky) ∧ (m = 0 → ky = []), (Fl vy) ∧ (q = 0 → vy = []), TbK es n ∧ BytI m ky ∧ BytI q vy ∧ List.isEmpty a1 = false, RbOk rs n m c1 q c2 ky vy ∧ List.isEmpty a2 = false, List.length (btw (B2 es) (B1 (Rw.cs (Rw.mk Kd.old ky))) (B1 (Rw.cs (Rw.mk Kd.old vy)))) = 0 → cpD a1 = [], List.length a2 = 0 → cpD a2 = [], SpOk (cpD a1) (cpD a2) (List.length a1) ∧ List.length a2 = List.length a1, List.length (cpD a1) = List.length a1 * 3, Ed (cpD a1)])) := by kernel_rfl
theorem ac_Rk4uu (k N : Int) (m c1 q c2 n : Nat) (es rs : List DV) (ky vy : List Value) : prjK [0, 8, 9, 35, 36] (runZ (acV false) Try.prog 14 27 (acA k N m c1 q c2) (lyR .old n es rs ky vy) 7 [false, false, false, false, true, false, false, false, true, false, false, false, false, true]) =
 Res.ok ((Value.bool true, (acOQ 35 n es rs), 37), [], acPu k n es ++ (acRu 0 n (setD es (lbP (B2 es) (B1 vO) * 3) [DV.sl 3 none (List.map DV.fl vO), DV.sl 0 none (List.map DV.fl []), DV.fl (Value.bool false)]) ++ acCl 33 n rs)) := by kernel_rfl
theorem ac_Rk4uf (k N : Int) (m c1 q c2 n : Nat) (es rs : List DV) (ky vy : List Value) : prjK [0, 8, 9, 27, 28] (runZ (acV false) Try.prog 14 27 (acA k N m c1 q c2) (lyR .old n es rs ky vy) 7 [false, false, false, false, true, false, false, false, true, false, false, false, false, false, true]) =
 Res.ok ((Value.bool true, (acOQ 27 n es rs), 29), [], acPu k n es ++ (acRf 0 n (setD es (lbP (B2 es) (B1 vO) * 3) [DV.sl 3 none (List.map DV.fl vO), DV.sl 0 none (List.map DV.fl []), DV.fl (Value.bool false)]) ++ acCl 25 n rs)) := by kernel_rfl
theorem ac_Rk4ui (k N : Int) (m c1 q c2 n : Nat) (es rs : List DV) (ky vy : List Value) : prjK [0, 8, 9, 36, 37] (runZ (acV false) Try.prog 14 27 (acA k N m c1 q c2) (lyR .old n es rs ky vy) 7 [false, false, false, false, true, false, false, false, true, false, false, false, false, false, false]) =
 Res.ok ((Value.bool true, (acOQ 36 n es rs), 38), [], acPu k n es ++ (acRi 20 n (setD es (lbP (B2 es) (B1 vO) * 3) [DV.sl 3 none (List.map DV.fl vO), DV.sl 0 none (List.map DV.fl []), DV.fl (Value.bool false)]) ++ acCl 34 n rs)) := by kernel_rfl
theorem ac_Rk4fu (k N : Int) (m c1 q c2 n : Nat) (es rs : List DV) (ky vy : List Value) : prjK [0, 8, 9, 27, 28] (runZ (acV false) Try.prog 14 27 (acA k N m c1 q c2) (lyR .old n es rs ky vy) 7 [false, false, false, false, true, false, false, false, false, true, false, false, false, false, true]) =
 Res.ok ((Value.bool true, (acOQ 27 n es rs), 29), [], acPf k n es ++ (acRu 0 n es ++ acCl 25 n rs)) := by kernel_rfl
theorem ac_Rk4ff (k N : Int) (m c1 q c2 n : Nat) (es rs : List DV) (ky vy : List Value) : prjK [0, 8, 9, 19, 20] (runZ (acV false) Try.prog 14 27 (acA k N m c1 q c2) (lyR .old n es rs ky vy) 7 [false, false, false, false, true, false, false, false, false, true, false, false, false, false, false, true]) =
 Res.ok ((Value.bool true, (acOQ 19 n es rs), 21), [], acPf k n es ++ (acRf 0 n es ++ acCl 17 n rs)) := by kernel_rfl
theorem ac_Rk4fi (k N : Int) (m c1 q c2 n : Nat) (es rs : List DV) (ky vy : List Value) : prjK [0, 8, 9, 28, 29] (runZ (acV false) Try.prog 14 27 (acA k N m c1 q c2) (lyR .old n es rs ky vy) 7 [false, false, false, false, true, false, false, false, false, true, false, false, false, false, false, false]) =
 Res.ok ((Value.bool true, (acOQ 28 n es rs), 30), [], acPf k n es ++ (acRi 5 n es ++ acCl 26 n rs)) := by kernel_rfl
theorem ac_Rk4iu (k N : Int) (m c1 q c2 n : Nat) (es rs : List DV) (ky vy : List Value) : prjK [0, 8, 9, 36, 37] (runZ (acV false) Try.prog 14 27 (acA k N m c1 q c2) (lyR .old n es rs ky vy) 7 [false, false, false, false, true, false, false, false, false, false, false, false, false, false, true]) =
 Res.ok ((Value.bool true, (acOQ 36 n es rs), 38), [], acPi k n es ++ (acRu 0 (n + 1) (insD es (lbP (B2 es) (B1 vO)) [DV.sl 3 none (List.map DV.fl vO), DV.sl 0 none (List.map DV.fl []), DV.fl (Value.bool false)]) ++ acCl 34 n rs)) := by kernel_rfl
theorem ac_Rk4if (k N : Int) (m c1 q c2 n : Nat) (es rs : List DV) (ky vy : List Value) : prjK [0, 8, 9, 28, 29] (runZ (acV false) Try.prog 14 27 (acA k N m c1 q c2) (lyR .old n es rs ky vy) 7 [false, false, false, false, true, false, false, false, false, false, false, false, false, false, false, true]) =
 Res.ok ((Value.bool true, (acOQ 28 n es rs), 30), [], acPi k n es ++ (acRf 0 (n + 1) (insD es (lbP (B2 es) (B1 vO)) [DV.sl 3 none (List.map DV.fl vO), DV.sl 0 none (List.map DV.fl []), DV.fl (Value.bool false)]) ++ acCl 26 n rs)) := by kernel_rfl
theorem ac_Rk4ii (k N : Int) (m c1 q c2 n : Nat) (es rs : List DV) (ky vy : List Value) : prjK [0, 8, 9, 37, 38] (runZ (acV false) Try.prog 14 27 (acA k N m c1 q c2) (lyR .old n es rs ky vy) 7 [false, false, false, false, true, false, false, false, false, false, false, false, false, false, false, false]) =
 Res.ok ((Value.bool true, (acOQ 37 n es rs), 39), [], acPi k n es ++ (acRi 21 (n + 1) (insD es (lbP (B2 es) (B1 vO)) [DV.sl 3 none (List.map DV.fl vO), DV.sl 0 none (List.map DV.fl []), DV.fl (Value.bool false)]) ++ acCl 35 n rs)) := by kernel_rfl
theorem ac_Rkx (k N : Int) (m c1 q c2 n : Nat) (es rs : List DV) (ky vy : List Value) : prjK [0, 1, 2, 5, 6] (runZ (acV false) Try.prog 14 27 (acA k N m c1 q c2) (lyR .old n es rs ky vy) 7 [false, false, false, false, false, false]) =
 Res.ok ((Value.bool true, (lySR n es rs), 8), [], [(k == (0 : Int)) = false, (k == (1 : Int)) = false, (k == (2 : Int)) = false, (k == (3 : Int)) = false, (k == (4 : Int)) = false, (k == (5 : Int)) = false]) := by kernel_rfl
end Go.Proofs.Ytojakfnljopjbaa
