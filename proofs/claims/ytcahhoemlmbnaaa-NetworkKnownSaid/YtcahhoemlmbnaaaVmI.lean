/-
  The machine that runs in the kernel, part I: copy, append.
-/
import Derived.Test.YtcahhoemlmbnaaaVmH
namespace Go.Proofs.Ytcahhoemlmbnaaa
set_option linter.unusedSimpArgs false
set_option linter.unusedVariables false
set_option linter.unusedSectionVars false
open Go Go.RowKit

/-- What a slice or a string yields: how many elements, their cells. -/
def srcV (P : Program) (h : Hp) (size : Nat) (tx : TypeId) (x : Value) : Option (Nat × List Value) :=
  match P.underlying tx, x with
  | some (.slice _), .slice none n _ => bif Nat.beq n 0 then some (0, []) else none
  | some (.slice _), .slice (some ⟨m, o, none⟩) n _ => match cellsAt h m o (n * size) with
    | some cs => bif all1 cs then some (n, cs) else none
    | none => bif Nat.beq n 0 then some (0, []) else none
  | some .string, .string s => bif Nat.beq size 1 then some (s.data.toList.length, s.data.toList.map fun b => Value.int .u8 b.toNat) else none
  | _, _ => none
section
variable {P : Program} {W : World} {σ : Sg} {h : Hp} {w : World}
theorem srcV_ok (hR : Rl W σ h w) {size : Nat} {tx : TypeId} {x x' : Value} {n : Nat} {cs : List Value} (hs : srcV P h size tx x = some (n, cs)) (hx : renV σ x = some x') :
    ∃ us, renL σ cs = some us ∧ Src P size tx x' n us w := by
  unfold srcV at hs
  split at hs
  · rename_i e n' c hu
    cases hz : Nat.beq n' 0 with
    | false => rw [hz] at hs; cases hs
    | true =>
      rw [hz] at hs
      cases hs
      have e0 := Nat.eq_of_beq_eq_true hz
      subst e0
      simp only [renV, Option.some.injEq] at hx
      subst hx
      exact ⟨[], rfl, Src.ofNil w hu c⟩
  · rename_i e m o n' c hu
    split at hs
    · rename_i cs' hc
      cases ha : all1 cs' with
      | false => rw [ha] at hs; cases hs
      | true =>
        rw [ha] at hs
        cases hs
        obtain ⟨p, c', hb, _, rfl⟩ := renV_slice hx
        obtain ⟨p', us, hb', h2, h3, h4, h5⟩ := cellsAt_ok hR hc
        rw [hb] at hb'
        cases hb'
        exact ⟨us, h2, Src.ofSlice w hu ⟨p.1, p.2 + o, none⟩ _ c' us h3 (fun j u hj => by rw [addr_add]; exact h5 j u hj) (all1_ok ha h2)⟩
    · cases hz : Nat.beq n' 0 with
      | false => rw [hz] at hs; cases hs
      | true =>
        rw [hz] at hs
        cases hs
        have e0 := Nat.eq_of_beq_eq_true hz
        subst e0
        obtain ⟨p, c', hb, _, rfl⟩ := renV_slice hx
        exact ⟨[], rfl, Src.ofSlice w hu ⟨p.1, p.2 + o, none⟩ 0 c' [] (by simp) (fun j u hj => by simp at hj) (fun u hu => by cases hu)⟩
  · rename_i s hu
    cases hz : Nat.beq size 1 with
    | false => rw [hz] at hs; cases hs
    | true =>
      rw [hz] at hs
      cases hs
      have e0 := Nat.eq_of_beq_eq_true hz
      subst e0
      simp only [renV, Option.some.injEq] at hx
      subst hx
      refine ⟨byteCells s, renL_id _ (fun _ => rfl) _, ?_⟩
      have := Src.ofString w hu s
      have e : s.data.toList.length = s.size := by simp
      rw [e]
      exact this
  · cases hs
theorem run_copy_src {t tx ty e : TypeId} {i : TypeInfo} (ht : P.underlying t = some (.slice e)) (hi : P.info? e = some i) {b off off' dl dc : Nat} {x : Value} {m : Nat} {news : List Value} (hl : (Builtin.lenOf x).run P w = .ok m w)
    (hc : (Builtin.firstCells i.size (Nat.min m dl) x).run P w = .ok news.toArray w) (hst : (storeCells ⟨b, off, none⟩ news).run P w = .ok () (w.setCells b off' news)) :
    (Builtin.copy_ #[t, tx] ty #[.slice (some ⟨b, off, none⟩) dl dc, x]).run P w = .ok (goInt (Nat.min m dl)) (w.setCells b off' news) := by
  simp [Builtin.copy_, run_underlying ht, hl, sizeOf, typeInfo, hi, hc, hst]
def copyV (P : Program) (h : Hp) (t tx : TypeId) (d x : Value) : Option (Value × Hp × List Nat) :=
  match P.underlying t, d with
  | some (.slice e), .slice (some ⟨n, o, none⟩) dl _ => match P.info? e, lk h n with
    | some i, some r => match srcV P h i.size tx x with
      | some (m, cs) => bif isOwn r.kd && Nat.ble (o + (cs.take (Nat.min m dl * i.size)).length) r.cs.length then some (.int .i64 (Nat.min m dl : Nat), setH h n ⟨r.kd, splice r.cs o (cs.take (Nat.min m dl * i.size))⟩, [n]) else none
      | none => none
    | _, _ => none
  | some (.slice e), .slice none dl _ => bif Nat.beq dl 0 then (match P.info? e with
      | some i => match srcV P h i.size tx x with
        | some _ => some (.int .i64 (0 : Nat), h, [])
        | none => none
      | none => none) else none
  | _, _ => none
theorem firstCells_take {size n k : Nat} {tx : TypeId} {x : Value} {us : List Value} (hs : Src P size tx x n us w) (hx : (∃ a c, x = .slice a n c) ∨ (∃ s, x = .string s ∧ size = 1)) (hk : k ≤ n)
    (hc : ∀ a c, x = .slice (some a) n c → ∀ j u, us[j]? = some u → w.cell? (a.add j) = some u) : (Builtin.firstCells size k x).run P w = .ok (us.take (k * size)).toArray w := by
  rcases hx with ⟨a, c, rfl⟩ | ⟨s, rfl, rfl⟩
  · cases a with
    | none =>
      have h1 := hs.cells
      rw [run_firstCells_none] at h1
      have : us = [] := by
        have := (Result.ok.inj h1).1
        have := congrArg Array.toList this
        simpa using this.symm
      subst this
      rw [run_firstCells_none]; simp
    | some a =>
      refine run_firstCells_some (P := P) w size k a n c (us.take (k * size)) ?_ fun j u hj => ?_
      · rw [List.length_take, hs.newsLen]; exact Nat.min_eq_left (Nat.mul_le_mul_right _ hk)
      · rw [List.getElem?_take] at hj
        split at hj
        · exact hc a c rfl j u hj
        · cases hj
  · have h1 := hs.cells
    have hl := hs.newsLen
    rw [Nat.mul_one] at hl ⊢
    simp only [Builtin.firstCells, Sem.run_pure, Result.ok.injEq, and_true] at h1 ⊢
    have h2 := congrArg Array.toList h1
    simp only [Array.toList_map] at h2
    apply Array.toList_inj.1
    have h3 : (s.extract 0 n).data.toList.take k = (s.extract 0 k).data.toList := by
      simp [List.extract_eq_take_drop, List.take_take, Nat.min_eq_left hk]
    simp only [Array.toList_map]
    rw [← h3, List.map_take, h2]
theorem srcV_form {size : Nat} {tx : TypeId} {x : Value} {n : Nat} {cs : List Value} (hs : srcV P h size tx x = some (n, cs)) : (∃ a c, x = .slice a n c) ∨ (∃ s, x = .string s ∧ size = 1) := by
  unfold srcV at hs
  split at hs
  · rename_i e n' c hu
    cases hz : Nat.beq n' 0 with
    | false => rw [hz] at hs; cases hs
    | true => rw [hz] at hs; cases hs; have := Nat.eq_of_beq_eq_true hz; subst this; exact .inl ⟨_, _, rfl⟩
  · split at hs
    · rename_i cs' hc
      cases ha : all1 cs' with
      | false => rw [ha] at hs; cases hs
      | true => rw [ha] at hs; cases hs; exact .inl ⟨_, _, rfl⟩
    · rename_i n' _ _ _ _
      cases hz : Nat.beq n' 0 with
      | false => rw [hz] at hs; cases hs
      | true => rw [hz] at hs; cases hs; have := Nat.eq_of_beq_eq_true hz; subst this; exact .inl ⟨_, _, rfl⟩
  · cases hz : Nat.beq size 1 with
    | false => rw [hz] at hs; cases hs
    | true => have := Nat.eq_of_beq_eq_true hz; exact .inr ⟨_, rfl, this⟩
  · cases hs
theorem srcV_cells (hR : Rl W σ h w) {size : Nat} {tx : TypeId} {x x' : Value} {n : Nat} {cs us : List Value} (hs : srcV P h size tx x = some (n, cs)) (hx : renV σ x = some x') (hu' : renL σ cs = some us) :
    ((∃ a c, x' = .slice a n c) ∨ (∃ s, x' = .string s ∧ size = 1)) ∧ ∀ a c, x' = .slice (some a) n c → ∀ j u, us[j]? = some u → w.cell? (a.add j) = some u := by
  unfold srcV at hs
  split at hs
  · rename_i e n' c hu
    cases hz : Nat.beq n' 0 with
    | false => rw [hz] at hs; cases hs
    | true =>
      rw [hz] at hs; cases hs
      have := Nat.eq_of_beq_eq_true hz; subst this
      simp only [renV, Option.some.injEq] at hx
      subst hx
      exact ⟨.inl ⟨_, _, rfl⟩, fun a c e => by cases e⟩
  · rename_i e m o n' c hu
    split at hs
    · rename_i cs' hc
      cases ha : all1 cs' with
      | false => rw [ha] at hs; cases hs
      | true =>
        rw [ha] at hs; cases hs
        obtain ⟨p, c', hb, _, rfl⟩ := renV_slice hx
        obtain ⟨p', vs, hb', h2, h3, h4, h5⟩ := cellsAt_ok hR hc
        rw [hb] at hb'
        cases hb'
        rw [hu'] at h2
        cases h2
        refine ⟨.inl ⟨_, _, rfl⟩, fun a c e j u hj => ?_⟩
        cases e
        rw [addr_add]; exact h5 j u hj
    · cases hz : Nat.beq n' 0 with
      | false => rw [hz] at hs; cases hs
      | true =>
        rw [hz] at hs; cases hs
        have := Nat.eq_of_beq_eq_true hz; subst this
        obtain ⟨p, c', hb, _, rfl⟩ := renV_slice hx
        simp only [renL, Option.some.injEq] at hu'
        subst hu'
        exact ⟨.inl ⟨_, _, rfl⟩, fun a c e j u hj => by simp at hj⟩
  · cases hz : Nat.beq size 1 with
    | false => rw [hz] at hs; cases hs
    | true =>
      rw [hz] at hs; cases hs
      simp only [renV, Option.some.injEq] at hx
      subst hx
      exact ⟨.inr ⟨_, rfl, Nat.eq_of_beq_eq_true hz⟩, fun a c e => by cases e⟩
  · cases hs
theorem all1_of {l m : List Value} (h1 : ∀ u ∈ m, u.oneCell' = true) (k : Nat) : ∀ u ∈ m.take k, u.oneCell' = true := fun u hu => h1 u (List.mem_of_mem_take hu)
theorem copyV_ok (hR : Rl W σ h w) (lo : Nat) {t tx ty : TypeId} {d x d' x' v : Value} {h' : Hp} {dd : List Nat} (hc : copyV P h t tx d x = some (v, h', dd)) (hd : renV σ d = some d') (hx : renV σ x = some x') :
    ∃ w', Stp W lo lo σ h w σ h' w' ∧ renV σ v = some v ∧ (Builtin.copy_ #[t, tx] ty #[d', x']).run P w = .ok v w' ∧ ∀ n, n ∉ dd → lk h' n = lk h n := by
  unfold copyV at hc
  split at hc
  · rename_i e n o dl dc hu
    split at hc
    · rename_i i r hi hl
      split at hc
      · rename_i m cs hs
        cases hg : (isOwn r.kd && Nat.ble (o + (cs.take (Nat.min m dl * i.size)).length) r.cs.length) with
        | false => rw [hg] at hc; cases hc
        | true =>
          rw [hg] at hc
          simp only [cond_true, Option.some.injEq, Prod.mk.injEq] at hc
          obtain ⟨rfl, rfl, rfl⟩ := hc
          simp only [Bool.and_eq_true, Nat.ble_eq] at hg
          obtain ⟨p, c', hb, _, rfl⟩ := renV_slice hd
          obtain ⟨us, h2, hsrc⟩ := srcV_ok hR hs hx
          obtain ⟨hf1, hf2⟩ := srcV_cells hR hs hx h2
          have ho := isOwn_ok hg.1
          have htk := renL_take (Nat.min m dl * i.size) h2
          have hfc := firstCells_take (P := P) (w := w) hsrc hf1 (Nat.min_le_left m dl) hf2
          have hlen := renL_len htk
          have hst := hR.put_cells (P := P) hl ho hb (o := o) (us := us.take (Nat.min m dl * i.size)) (all1_of (l := []) hsrc.one _) (by rw [hlen]; exact hg.2)
          refine ⟨_, Stp.put hR lo hl ho hb htk hg.2, rfl, run_copy_src hu hi (hsrc.len w) hfc hst, fun k hk => ?_⟩
          rw [lk_setH, if_neg (fun e => hk (by simp [e]))]
      · cases hc
    · cases hc
  · rename_i e dl dc hu
    cases hz : Nat.beq dl 0 with
    | false => rw [hz] at hc; cases hc
    | true =>
      rw [hz] at hc
      simp only [cond_true] at hc
      split at hc
      · rename_i i hi
        split at hc
        · rename_i q hs
          obtain ⟨m, cs⟩ := q
          cases hc
          have := Nat.eq_of_beq_eq_true hz
          subst this
          simp only [renV, Option.some.injEq] at hd
          subst hd
          obtain ⟨us, h2, hsrc⟩ := srcV_ok hR hs hx
          obtain ⟨hf1, hf2⟩ := srcV_cells hR hs hx h2
          have hfc := firstCells_take (P := P) (w := w) hsrc hf1 (Nat.zero_le m) hf2
          refine ⟨w, Stp.refl hR lo, rfl, ?_, fun _ _ => rfl⟩
          have hm : Nat.min m 0 = 0 := Nat.min_zero m
          simp [Builtin.copy_, run_underlying hu, hsrc.len w, sizeOf, typeInfo, hi, hm, hfc, goInt]
        · cases hc
      · cases hc
  · cases hc
end
end Go.Proofs.Ytcahhoemlmbnaaa
