/-
  The machine that runs in the kernel, part J: append.
-/
import Derived.Test.YtcahhoemlmbnaaaVmI
namespace Go.Proofs.Ytcahhoemlmbnaaa
set_option linter.unusedSimpArgs false
set_option linter.unusedVariables false
set_option linter.unusedSectionVars false
open Go Go.RowKit

/-- A new name with a capacity. -/
def Sg.bindc (σ : Sg) (n : Nat) (p : Nat × Nat) (c : Nat) : Sg := ⟨fun m => if m = n then some p else σ.b m, fun m => if m = n then some c else σ.c m⟩
section
variable {P : Program} {W : World} {σ : Sg} {h : Hp} {w : World}
theorem Sg.le_bindc {n : Nat} {p : Nat × Nat} {c : Nat} (hf : σ.b n = none ∧ σ.c n = none) : σ.le (σ.bindc n p c) := by
  refine ⟨fun m q e => ?_, fun m q e => ?_⟩
  · simp only [Sg.bindc]
    split
    · rename_i hm; subst hm; rw [hf.1] at e; cases e
    · exact e
  · simp only [Sg.bindc]
    split
    · rename_i hm; subst hm; rw [hf.2] at e; cases e
    · exact e
theorem zero_mem {z : Array Value} {n : Nat} : ∀ x ∈ (Builtin.zeroCells z n).toList, x ∈ z.toList := by
  intro x hx
  simp only [Builtin.zeroCells, Array.toList_map, List.mem_map, Array.mem_toList_iff, Array.mem_range] at hx
  obtain ⟨i, hi, rfl⟩ := hx
  have h0 : 0 < z.size := by
    rcases Nat.eq_zero_or_pos z.size with h | h
    · rw [h] at hi; simp at hi
    · exact h
  have := Nat.mod_lt i h0
  rw [getElem!_pos z (i % z.size) this]; simp
/-- A row that has grown: a new one, with room behind it. -/
theorem Stp.grow (hR : Rl W σ h w) {nx : Nat} (hf : Fresh σ nx (nx + 1)) {cs vs rest : List Value} (hv : renL σ cs = some vs) (t : TypeId) {size c : Nat} (hl : (vs ++ rest).length = c * size) (hc : c ≤ maxLen) {z : List Value} (hz : ∀ x ∈ rest, x ∈ z) :
    Stp W nx (nx + 1) σ h w (σ.bindc nx (w.heap.size, 0) c) ((nx, ⟨.room size z, cs⟩) :: h) (w.alloc (.cells (vs ++ rest).toArray t)) := by
  have hle : σ.le (σ.bindc nx (w.heap.size, 0) c) := Sg.le_bindc (hf nx (Nat.le_refl _) (by omega))
  have hblk : ∀ b, b < w.heap.size → (w.alloc (.cells (vs ++ rest).toArray t)).heap[b]? = w.heap[b]? := fun b hb => by
    exact Below.block ((Ext.refl w).alloc _) b hb
  refine ⟨hle, fun n hn => ?_, ⟨hR.ext.alloc _, fun n r hl' => ?_, fun n m r s p q hn hm hr hs hp hq e => ?_⟩, by simp, fun b hb _ => hblk b hb, fun n r p hl' ho hb => ?_⟩
  · simp only [Sg.bindc]; rw [if_neg (by omega), if_neg (by omega)]; exact ⟨rfl, rfl⟩
  · rw [lk_cons] at hl'
    split at hl'
    · rename_i e; subst e
      cases hl'
      exact ⟨w.heap.size, 0, vs, by simp [Sg.bindc], renL_le hle _ _ hv, rfl, hR.ext.size, t, rest, c, by simp [Sg.bindc], heap_alloc_new w _, hl, hc, hz⟩
    · exact (hR.row n r hl').keep hle fun ho p hb => hblk _ (hR.lt hl' hb)
  · rw [lk_cons] at hn hm
    simp only [Sg.bindc] at hp hq
    split at hn
    · rename_i e1; subst e1
      split at hm
      · assumption
      · rename_i e2
        rw [if_neg (Ne.symm e2)] at hq
        rw [if_pos rfl] at hp
        have := hR.lt hm hq
        simp only [Option.some.injEq] at hp
        subst hp
        simp at e; omega
    · rename_i e1
      rw [if_neg (Ne.symm e1)] at hp
      split at hm
      · rename_i e2; subst e2
        rw [if_pos rfl] at hq
        have := hR.lt hn hp
        simp only [Option.some.injEq] at hq
        subst hq
        simp at e; omega
      · rename_i e2
        rw [if_neg (Ne.symm e2)] at hq
        exact hR.inj n m r s p q hn hm hr hs hp hq e
  · rw [lk_cons] at hl'
    simp only [Sg.bindc] at hb
    split at hl'
    · rename_i e; subst e; rw [if_pos rfl] at hb; simp only [Option.some.injEq] at hb; subst hb; exact .inl (Nat.le_refl _)
    · rename_i e; rw [if_neg (Ne.symm e)] at hb; exact .inr ⟨n, r, p, hl', ho, hb, rfl⟩
/-- The bytes of a string, in memory that is only read. -/
theorem Stp.lend (hR : Rl W σ h w) {nx : Nat} (hf : Fresh σ nx (nx + 1)) {cs vs rest : List Value} (hv : renL σ cs = some vs) (t : TypeId) (fr : Nat × Nat) (c : Nat) :
    Stp W nx (nx + 1) σ h w (σ.bindc nx (w.heap.size, 0) c) ((nx, ⟨.lent, cs⟩) :: h) (w.alloc (.cells (vs ++ rest).toArray t fr)) := by
  have hle : σ.le (σ.bindc nx (w.heap.size, 0) c) := Sg.le_bindc (hf nx (Nat.le_refl _) (by omega))
  have hblk : ∀ b, b < w.heap.size → (w.alloc (.cells (vs ++ rest).toArray t fr)).heap[b]? = w.heap[b]? := fun b hb => by
    exact Below.block ((Ext.refl w).alloc _) b hb
  refine ⟨hle, fun n hn => ?_, ⟨hR.ext.alloc _, fun n r hl' => ?_, fun n m r s p q hn hm hr hs hp hq e => ?_⟩, by simp, fun b hb _ => hblk b hb, fun n r p hl' ho hb => ?_⟩
  · simp only [Sg.bindc]; rw [if_neg (by omega), if_neg (by omega)]; exact ⟨rfl, rfl⟩
  · rw [lk_cons] at hl'
    split at hl'
    · rename_i e; subst e
      cases hl'
      exact ⟨w.heap.size, 0, vs, by simp [Sg.bindc], renL_le hle _ _ hv, rfl, hR.ext.size, t, rest, fr, heap_alloc_new w _⟩
    · exact (hR.row n r hl').keep hle fun ho p hb => hblk _ (hR.lt hl' hb)
  · rw [lk_cons] at hn hm
    simp only [Sg.bindc] at hp hq
    split at hn
    · rename_i e1; subst e1
      split at hm
      · assumption
      · rename_i e2
        rw [if_neg (Ne.symm e2)] at hq
        rw [if_pos rfl] at hp
        have := hR.lt hm hq
        simp only [Option.some.injEq] at hp
        subst hp
        simp at e; omega
    · rename_i e1
      rw [if_neg (Ne.symm e1)] at hp
      split at hm
      · rename_i e2; subst e2
        rw [if_pos rfl] at hq
        have := hR.lt hn hp
        simp only [Option.some.injEq] at hq
        subst hq
        simp at e; omega
      · rename_i e2
        rw [if_neg (Ne.symm e2)] at hq
        exact hR.inj n m r s p q hn hm hr hs hp hq e
  · rw [lk_cons] at hl'
    simp only [Sg.bindc] at hb
    split at hl'
    · rename_i e; subst e; rw [if_pos rfl] at hb; simp only [Option.some.injEq] at hb; subst hb; exact .inl (Nat.le_refl _)
    · rename_i e; rw [if_neg (Ne.symm e)] at hb; exact .inr ⟨n, r, p, hl', ho, hb, rfl⟩
/-- A row with room takes more cells, under a new name. -/
theorem Stp.into (hR : Rl W σ h w) {nx n : Nat} (hf : Fresh σ nx (nx + 1)) {size : Nat} {z : List Value} {cs : List Value} (hl : lk h n = some ⟨.room size z, cs⟩) {p : Nat × Nat} {c : Nat} (hb : σ.b n = some p) (hc : σ.c n = some c) {xs us : List Value} (hx : renL σ xs = some us)
    (hle : cs.length + xs.length ≤ c * size) :
    Stp W nx (nx + 1) σ h w (σ.bindc nx p c) ((nx, ⟨.room size z, cs ++ xs⟩) :: delH h n) (w.setCells p.1 cs.length us) := by
  have hge := hR.ge hl (fun e => by cases e) hb
  have hlts : σ.le (σ.bindc nx p c) := Sg.le_bindc (hf nx (Nat.le_refl _) (by omega))
  have hnn : n ≠ nx := fun e => by subst e; rw [(hf _ (Nat.le_refl _) (by omega)).1] at hb; cases hb
  have hxl := renL_len hx
  obtain ⟨b, s, vs, hb', hv, h1, h2, t, rest, c', hc', e, h3, h4, h5⟩ := hR.row _ _ hl
  rw [hb] at hb'
  obtain rfl : p = (b, s) := by simpa using hb'
  rw [hc] at hc'
  cases hc'
  subst h1
  have hvl : vs.length = cs.length := renL_len hv
  have hsp : splice (vs ++ rest) vs.length us = vs ++ us ++ rest.drop us.length := splice_mid us vs rest (by
    have := h3
    simp only [List.length_append] at this
    omega)
  have hother : ∀ m s q, lk h m = some s → s.own → σ.b m = some q → m ≠ n → (w.setCells b cs.length us).heap[q.1]? = w.heap[q.1]? := fun m s q hm hs hq hmn =>
    setCells_other us w b cs.length q.1 fun e => hmn (hR.inj m n s _ q _ hm hl hs (fun e => by cases e) hq hb e)
  have hdel : ∀ m r, lk (delH h n) m = some r → lk h m = some r ∧ m ≠ n := fun m r hm => by
    rw [lk_delH] at hm
    split at hm
    · cases hm
    · rename_i e; exact ⟨hm, Ne.symm e⟩
  refine ⟨hlts, fun m hm => ?_, ⟨ext_setCells us hR.ext h2 _, fun m r hm => ?_, fun m m' r r' q q' hm hm' hr hr' hq hq' e => ?_⟩, by rw [setCells_size]; exact Nat.le_refl _, fun k hk hno => setCells_other us w b _ k (fun e => hno n _ _ hl (fun e => by cases e) hb e.symm), fun m r q hm hr hq => ?_⟩
  · simp only [Sg.bindc]; rw [if_neg (by omega), if_neg (by omega)]; exact ⟨rfl, rfl⟩
  · rw [lk_cons] at hm
    split at hm
    · rename_i e; subst e
      cases hm
      refine ⟨b, 0, vs ++ us, by simp [Sg.bindc], renL_app (renL_le hlts _ _ hv) (renL_le hlts _ _ hx), rfl, h2, t, rest.drop us.length, c, by simp [Sg.bindc], ?_, ?_, h4, fun x hx => h5 x (List.mem_of_mem_drop hx)⟩
      · have := setCells_same us w b cs.length _ t e
        simp only at this
        rw [← hvl, hsp] at this
        rw [← hvl]
        exact this
      · have := h3
        simp only [List.length_append, List.length_drop] at this ⊢
        omega
    · obtain ⟨hm1, hm2⟩ := hdel m r hm
      exact (hR.row m r hm1).keep hlts fun ho q hq => hother m r q hm1 ho hq hm2
  · rw [lk_cons] at hm hm'
    simp only [Sg.bindc] at hq hq'
    split at hm
    · rename_i e1; subst e1
      split at hm'
      · assumption
      · rename_i e2
        rw [if_neg (Ne.symm e2)] at hq'
        rw [if_pos rfl] at hq
        cases hq
        obtain ⟨a1, a2⟩ := hdel m' r' hm'
        exact (a2 (hR.inj m' n r' _ q' _ a1 hl hr' (fun e => by cases e) hq' hb e.symm)).elim
    · rename_i e1
      rw [if_neg (Ne.symm e1)] at hq
      obtain ⟨a1, a2⟩ := hdel m r hm
      split at hm'
      · rename_i e2; subst e2
        rw [if_pos rfl] at hq'
        cases hq'
        exact (a2 (hR.inj m n r _ q _ a1 hl hr (fun e => by cases e) hq hb e)).elim
      · rename_i e2
        rw [if_neg (Ne.symm e2)] at hq'
        obtain ⟨b1, b2⟩ := hdel m' r' hm'
        exact hR.inj m m' r r' q q' a1 b1 hr hr' hq hq' e
  · rw [lk_cons] at hm
    simp only [Sg.bindc] at hq
    split at hm
    · rename_i e; subst e; rw [if_pos rfl] at hq; cases hq; exact .inr ⟨n, _, _, hl, (fun e => by cases e), hb, rfl⟩
    · rename_i e; rw [if_neg (Ne.symm e)] at hq; exact .inr ⟨m, r, q, (hdel m r hm).1, hr, hq, rfl⟩

theorem cpR_big (n : Nat) : cpR σ (capBig + n) = σ.c n := by
  unfold cpR
  rw [if_neg (by omega), Nat.add_sub_cancel_left]
theorem bindc_self {n : Nat} {b c l : Nat} : renV (σ.bindc n (b, 0) c) (.slice (some ⟨n, 0, none⟩) l (capBig + n)) = some (.slice (some ⟨b, 0, none⟩) l c) := by
  have h1 : (σ.bindc n (b, 0) c).b n = some (b, 0) := by simp [Sg.bindc]
  have h2 : cpR (σ.bindc n (b, 0) c) (capBig + n) = some c := by rw [cpR_big]; simp [Sg.bindc]
  simpa using renV_slice_mk (o := 0) (l := l) h1 h2
/-- The bytes of a string, as a slice. -/
def lendV (P : Program) (src dst : TypeId) (x : Value) : Option (List Value × Nat) :=
  match P.underlying src, P.underlying dst, x with
  | some .string, some (.slice e), .string s => match P.underlying e with
    | some (.int .u8) => some (s.data.toList.map fun b => Value.int .u8 b.toNat, s.data.toList.length)
    | _ => none
  | _, _, _ => none
theorem lendV_ok (hR : Rl W σ h w) {nx : Nat} (hf : Fresh σ nx (nx + 1)) {src dst : TypeId} {x x' : Value} {cs : List Value} {n : Nat} (hv : lendV P src dst x = some (cs, n)) (hx : renV σ x = some x') :
    ∃ σ' w' v', Stp W nx (nx + 1) σ h w σ' ((nx, ⟨.lent, cs⟩) :: h) w' ∧ renV σ' (.slice (some ⟨nx, 0, none⟩) n (capBig + nx)) = some v' ∧ (convert src dst x').run P w = .ok v' w' := by
  unfold lendV at hv
  split at hv
  · rename_i e s hs hd
    split at hv
    · rename_i he
      simp only [Option.some.injEq, Prod.mk.injEq] at hv
      obtain ⟨rfl, rfl⟩ := hv
      simp only [renV, Option.some.injEq] at hx
      subst hx
      have hd2 := Stp.drew hR nx
      have hr := run_bytes_of_string (P := P) w src dst e s hs hd he
      have hrow : bytesRow s (grownCap w s.size 0 e) = ((s.data.toList.map fun (b : UInt8) => Value.int .u8 b.toNat) ++ List.replicate (grownCap w s.size 0 e - s.size) (Value.int .u8 0)).toArray := by
        apply Array.toList_inj.1
        simp [bytesRow]
      have hsz : s.data.toList.length = s.size := by simp
      rw [hrow] at hr
      generalize hC : (s.data.toList.map fun (b : UInt8) => Value.int .u8 b.toNat) ++ List.replicate (grownCap w s.size 0 e - s.size) (Value.int .u8 0) = C at hr
      have hl := Stp.lend hd2.rl hf (cs := s.data.toList.map fun (b : UInt8) => Value.int .u8 b.toNat) (vs := s.data.toList.map fun (b : UInt8) => Value.int .u8 b.toNat) (renL_id _ (fun _ => rfl) _) e (rest := List.replicate (grownCap w s.size 0 e - s.size) (Value.int .u8 0)) (C.toArray.size, C.toArray.size + 1) (grownCap w s.size 0 e)
      rw [hC] at hl
      exact ⟨_, _, _, hd2.trans hl (Nat.le_refl _) (by omega), by rw [hsz]; exact bindc_self, hr⟩
    · cases hv
  · cases hv
def roomSz : Kd → Option (Nat × List Value)
  | .room s z => some (s, z)
  | _ => none
/-- Values without an address, alike. -/
def beqZ : Value → Value → Bool
  | .bool a, .bool b => a == b
  | .int k a, .int k' b => decide (k = k') && a == b
  | .string a, .string b => strEq a b
  | .pointer none, .pointer none => true
  | .slice none l c, .slice none l' c' => Nat.beq l l' && Nat.beq c c'
  | .map none, .map none => true
  | .chan none, .chan none => true
  | .nilFunc, .nilFunc => true
  | .nilIface, .nilIface => true
  | _, _ => false
theorem beqZ_ok {a b : Value} (h : beqZ a b = true) : a = b := by
  unfold beqZ at h
  split at h
  · simp only [beq_iff_eq] at h; rw [h]
  · simp only [Bool.and_eq_true, decide_eq_true_eq, beq_iff_eq] at h; rw [h.1, h.2]
  · rename_i a b
    obtain ⟨⟨l⟩⟩ := a
    obtain ⟨⟨m⟩⟩ := b
    simp only [strEq, beq_iff_eq] at h
    rw [h]
  · rfl
  · simp only [Bool.and_eq_true] at h; rw [Nat.eq_of_beq_eq_true h.1, Nat.eq_of_beq_eq_true h.2]
  · rfl
  · rfl
  · rfl
  · rfl
  · cases h
def beqZL : List Value → List Value → Bool
  | [], [] => true
  | a :: l, b :: m => bif beqZ a b then beqZL l m else false
  | _, _ => false
theorem beqZL_ok : ∀ {l m : List Value}, beqZL l m = true → l = m
  | [], [], _ => rfl
  | a :: l, b :: m, h => by
      simp only [beqZL] at h
      cases hb : beqZ a b with
      | false => rw [hb] at h; cases h
      | true => rw [hb] at h; rw [beqZ_ok hb, beqZL_ok h]
  | [], _ :: _, h => by cases h
  | _ :: _, [], h => by cases h
/-- append: value, heap, next name, what was changed. -/
def appV (P : Program) (h : Hp) (nx : Nat) (t tx : TypeId) (s x : Value) : Option (Value × Hp × Nat × List Nat) :=
  match P.underlying t with
  | some (.slice e) => match P.info? e with
    | some i => match srcV P h i.size tx x with
      | some (n, news) => match i.zero with
        | some z => bif Nat.beq z.cells.toList.length i.size && Nat.ble 1 i.size then (match s with
          | .slice none len cap => bif Nat.beq len 0 && Nat.beq cap 0 then (bif Nat.beq n 0 then some (.slice none 0 0, h, nx, []) else
              bif Nat.ble (n * i.bytes) 140737488355328 && Nat.ble n 9223372036854775807 then some (.slice (some ⟨nx, 0, none⟩) n (capBig + nx), (nx, ⟨.room i.size z.cells.toList, news⟩) :: h, nx + 1, []) else none) else none
          | .slice (some ⟨m, o, none⟩) len cap => bif Nat.blt cap capBig then
              (bif Nat.ble (len + n) cap then
                (match lk h m with
                | some r => bif isOwn r.kd && Nat.ble (o + len * i.size + news.length) r.cs.length then some (.slice (some ⟨m, o, none⟩) (len + n) cap, setH h m ⟨r.kd, splice r.cs (o + len * i.size) news⟩, nx, [m]) else none
                | none => none)
              else (match cellsAt h m o (len * i.size) with
                | some olds => bif Nat.ble ((len + n) * i.bytes) 140737488355328 && Nat.ble (len + n) 9223372036854775807 then some (.slice (some ⟨nx, 0, none⟩) (len + n) (capBig + nx), (nx, ⟨.room i.size z.cells.toList, olds ++ news⟩) :: h, nx + 1, []) else none
                | none => none))
              else (match lk h m with
                | some r => match roomSz r.kd with
                  | some (sz, zz) => bif Nat.beq (capBig + m) cap && Nat.beq o 0 && (Nat.beq sz i.size && beqZL zz z.cells.toList) && Nat.beq r.cs.length (len * i.size) && Nat.ble ((len + n) * i.bytes) 140737488355328 && Nat.ble (len + n) 9223372036854775807 then
                      some (.slice (some ⟨nx, 0, none⟩) (len + n) (capBig + nx), (nx, ⟨.room i.size z.cells.toList, r.cs ++ news⟩) :: delH h m, nx + 1, [m]) else none
                  | none => none
                | none => none)
          | _ => none) else none
        | none => none
      | none => none
    | none => none
  | _ => none
/-- The arm that grows. -/
theorem app_grow (hR : Rl W σ h w) {nx : Nat} (hf : Fresh σ nx (nx + 1)) {t tx ty e : TypeId} {i : TypeInfo} {z : Value} (ht : P.underlying t = some (.slice e)) (hi : P.info? e = some i) (hz : i.zero = some z) (hzs : z.cells.size = i.size)
    {base : Option Addr} {sLen sCap n : Nat} {olds news vo vn : List Value} {x : Value} (hold : (Builtin.firstCells i.size sLen (.slice base sLen sCap)).run P w.drew = .ok vo.toArray w.drew) (ho : renL σ olds = some vo) (hol : vo.length = sLen * i.size)
    (hn : renL σ news = some vn) (hs : Src P i.size tx x n vn w) (hg : sCap < sLen + n) (h63 : sLen + n ≤ 9223372036854775807) (hb : (sLen + n) * i.bytes ≤ 140737488355328) :
    ∃ σ' w' v', Stp W nx (nx + 1) σ h w σ' ((nx, ⟨.room i.size z.cells.toList, olds ++ news⟩) :: h) w' ∧ renV σ' (.slice (some ⟨nx, 0, none⟩) (sLen + n) (capBig + nx)) = some v' ∧ (Builtin.append_ #[t, tx] ty #[.slice base sLen sCap, x]).run P w = .ok v' w' := by
  have hrun := run_append_grow_src (P := P) w t tx ty e i z ht hi hz base sLen sCap vo hold x n vn hs hg (by omega) (growslice_fits hg hb)
  have hge := grownCap_ge w (sLen + n) sCap e
  have hle := grownCap_le_maxLen w (sLen + n) sCap e (by unfold maxLen; omega)
  have hd := Stp.drew hR nx
  have hlen : (vo ++ vn ++ (Builtin.zeroCells z.cells (grownCap w (sLen + n) sCap e - (sLen + n))).toList).length = grownCap w (sLen + n) sCap e * i.size := by
    rw [List.length_append, List.length_append, hol, hs.newsLen, Array.length_toList, size_zeroCells, hzs, ← Nat.add_mul, ← Nat.add_mul]
    congr 1
    omega
  have hgw := Stp.grow hd.rl hf (renL_app ho hn) e (rest := (Builtin.zeroCells z.cells (grownCap w (sLen + n) sCap e - (sLen + n))).toList) hlen hle (z := z.cells.toList) zero_mem
  refine ⟨_, _, _, hd.trans hgw (Nat.le_refl _) (by omega), bindc_self, ?_⟩
  rw [hrun]
  congr 2
  apply congrArg (fun q => Obj.cells q e (0, 0))
  apply Array.toList_inj.1
  simp
theorem Rl.room (hR : Rl W σ h w) {n size : Nat} {z : List Value} {cs : List Value} (hl : lk h n = some ⟨.room size z, cs⟩) : ∃ b c vs rest t, σ.b n = some (b, 0) ∧ σ.c n = some c ∧ renL σ cs = some vs ∧ w.heap[b]? = some (.cells (vs ++ rest).toArray t (0, 0)) ∧ (vs ++ rest).length = c * size ∧ c ≤ maxLen := by
  obtain ⟨b, s, vs, hb, hv, h1, h2, t, rest, c, hc, e, h3, h4, h5⟩ := hR.row _ _ hl
  subst h1
  exact ⟨b, c, vs, rest, t, hb, hc, hv, e, h3, h4⟩
theorem appV_ok (hR : Rl W σ h w) {nx nx' : Nat} {t tx ty : TypeId} {s x s' x' v : Value} {h' : Hp} {dd : List Nat} (hc : appV P h nx t tx s x = some (v, h', nx', dd)) (hf : Fresh σ nx nx') (hs : renV σ s = some s') (hx : renV σ x = some x') :
    ∃ σ' w' v', Stp W nx nx' σ h w σ' h' w' ∧ renV σ' v = some v' ∧ (Builtin.append_ #[t, tx] ty #[s', x']).run P w = .ok v' w' := by
  unfold appV at hc
  split at hc
  case h_2 => cases hc
  rename_i e ht
  split at hc
  case h_2 => cases hc
  rename_i i hi
  split at hc
  case h_2 => cases hc
  rename_i n news hsrcV
  split at hc
  case h_2 => cases hc
  rename_i z hz
  cases hzg : (Nat.beq z.cells.toList.length i.size && Nat.ble 1 i.size) with
  | false => rw [hzg] at hc; cases hc
  | true =>
    rw [hzg] at hc
    simp only [cond_true] at hc
    simp only [Bool.and_eq_true, Nat.ble_eq] at hzg
    have hzs : z.cells.size = i.size := by have := Nat.eq_of_beq_eq_true hzg.1; simpa using this
    obtain ⟨vn, hn, hsrc⟩ := srcV_ok hR hsrcV hx
    have hnl := renL_len hn
    split at hc
    · rename_i len cap
      simp only [renV, Option.some.injEq] at hs
      subst hs
      cases hg : (Nat.beq len 0 && Nat.beq cap 0) with
      | false => rw [hg] at hc; cases hc
      | true =>
        rw [hg] at hc
        simp only [cond_true] at hc
        simp only [Bool.and_eq_true] at hg
        obtain rfl := Nat.eq_of_beq_eq_true hg.1
        obtain rfl := Nat.eq_of_beq_eq_true hg.2
        cases hn0 : Nat.beq n 0 with
        | true =>
          rw [hn0] at hc
          simp only [cond_true, Option.some.injEq, Prod.mk.injEq] at hc
          obtain ⟨rfl, rfl, rfl, rfl⟩ := hc
          obtain rfl := Nat.eq_of_beq_eq_true hn0
          refine ⟨σ, w, .slice none 0 0, Stp.refl hR nx, rfl, ?_⟩
          rcases hsrc.kind with ⟨e', hk⟩ | hk <;> simp [Builtin.append_, run_underlying ht, run_underlying hk, sizeOf, typeInfo, hi, hsrc.len, hsrc.cells]
        | false =>
          rw [hn0] at hc
          simp only [cond_false] at hc
          cases hg2 : (Nat.ble (n * i.bytes) 140737488355328 && Nat.ble n 9223372036854775807) with
          | false => rw [hg2] at hc; cases hc
          | true =>
            rw [hg2] at hc
            simp only [cond_true, Option.some.injEq, Prod.mk.injEq] at hc
            obtain ⟨rfl, rfl, rfl, rfl⟩ := hc
            simp only [Bool.and_eq_true, Nat.ble_eq] at hg2
            have hnp : 0 < n := by
              rcases Nat.eq_zero_or_pos n with e0 | h0
              · rw [e0] at hn0; cases hn0
              · exact h0
            have := app_grow (P := P) (ty := ty) hR hf ht hi hz hzs (base := none) (sLen := 0) (sCap := 0) (olds := []) (vo := []) (run_firstCells_none w.drew i.size 0 0 0) rfl (by simp) hn hsrc (by omega) (by omega) (by rw [Nat.zero_add]; exact hg2.1)
            simpa using this
    · rename_i m o len cap
      cases hcb : Nat.blt cap capBig with
      | true =>
        rw [hcb] at hc
        simp only [cond_true] at hc
        have hlt := cpR_low hcb
        obtain ⟨p, cap', hb, hcp, rfl⟩ := renV_slice hs
        rw [cpR_of hlt (Nat.le_refl _)] at hcp
        cases hcp
        cases hroom : Nat.ble (len + n) cap with
        | true =>
          rw [hroom] at hc
          simp only [cond_true] at hc
          split at hc
          · rename_i r hl
            cases hg : (isOwn r.kd && Nat.ble (o + len * i.size + news.length) r.cs.length) with
            | false => rw [hg] at hc; cases hc
            | true =>
              rw [hg] at hc
              simp only [cond_true, Option.some.injEq, Prod.mk.injEq] at hc
              obtain ⟨rfl, rfl, rfl, rfl⟩ := hc
              simp only [Bool.and_eq_true, Nat.ble_eq] at hg
              have ho := isOwn_ok hg.1
              have hge := hR.ge hl ho.own hb
              obtain ⟨p', vs, hb', hv, hcell⟩ := hR.cell hl
              rw [hb] at hb'
              cases hb'
              have hvl := renL_len hv
              have hrun := run_append_room_src (P := P) w t tx ty e i ht hi p.1 (p.2 + o) len cap x' n vn hsrc (Nat.le_of_ble_eq_true hroom) (fun j hj => by
                have hlt2 : o + len * i.size + j < vs.length := by omega
                have := hcell _ _ (List.getElem?_eq_getElem hlt2)
                rw [show p.2 + o + len * i.size + j = p.2 + (o + len * i.size + j) by omega, this]; rfl) (fun j hj => hR.free hl ho hb _)
              refine ⟨σ, _, _, Stp.put hR nx hl ho hb hn hg.2, renV_slice_mk hb (cpR_of hlt (Nat.le_refl _)), ?_⟩
              rw [hrun]
              have e2 : p.2 + o + len * i.size = o + len * i.size := by rw [hge.2]; omega
              rw [e2]
          · cases hc
        | false =>
          rw [hroom] at hc
          simp only [cond_false] at hc
          split at hc
          · rename_i olds hcells
            cases hg : (Nat.ble ((len + n) * i.bytes) 140737488355328 && Nat.ble (len + n) 9223372036854775807) with
            | false => rw [hg] at hc; cases hc
            | true =>
              rw [hg] at hc
              simp only [cond_true, Option.some.injEq, Prod.mk.injEq] at hc
              obtain ⟨rfl, rfl, rfl, rfl⟩ := hc
              simp only [Bool.and_eq_true, Nat.ble_eq] at hg
              obtain ⟨p', vo, hb', hvo, hvl, hol, hcell⟩ := cellsAt_ok hR hcells
              rw [hb] at hb'
              cases hb'
              have hgt : cap < len + n := by
                rcases Nat.lt_or_ge cap (len + n) with h1 | h1
                · exact h1
                · rw [Nat.ble_eq_true_of_le h1] at hroom; cases hroom
              exact app_grow (P := P) (ty := ty) hR hf ht hi hz hzs (run_firstCells_some (P := P) w.drew i.size len _ len cap vo hvl (fun j u hj => by rw [addr_add]; exact hcell j u hj)) hvo hvl hn hsrc hgt hg.2 hg.1
          · cases hc
      | false =>
        rw [hcb] at hc
        simp only [cond_false] at hc
        split at hc
        · rename_i r hl
          obtain ⟨kd, rcs⟩ := r
          split at hc
          · rename_i sz zz hsz
            simp only at hsz hc
            cases kd with
            | shut => simp [roomSz] at hsz
            | old => simp [roomSz] at hsz
            | lent => simp [roomSz] at hsz
            | held m => simp [roomSz] at hsz
            | round st pe tm ps as bd => simp [roomSz] at hsz
            | marks => simp [roomSz] at hsz
            | mp es => simp [roomSz] at hsz
            | room sz' zz' =>
              simp only [roomSz, Option.some.injEq, Prod.mk.injEq] at hsz
              obtain ⟨rfl, rfl⟩ := hsz
              cases hg : (Nat.beq (capBig + m) cap && Nat.beq o 0 && (Nat.beq sz' i.size && beqZL zz' z.cells.toList) && Nat.beq rcs.length (len * i.size) && Nat.ble ((len + n) * i.bytes) 140737488355328 && Nat.ble (len + n) 9223372036854775807) with
              | false => rw [hg] at hc; cases hc
              | true =>
                rw [hg] at hc
                simp only [cond_true, Option.some.injEq, Prod.mk.injEq] at hc
                obtain ⟨rfl, rfl, rfl, rfl⟩ := hc
                simp only [Bool.and_eq_true, Nat.ble_eq] at hg
                obtain ⟨⟨⟨⟨⟨g1, g2⟩, g3⟩, g4⟩, g5⟩, g6⟩ := hg
                obtain rfl := Nat.eq_of_beq_eq_true g1
                obtain rfl := Nat.eq_of_beq_eq_true g2
                have gz := beqZL_ok g3.2
                obtain rfl := Nat.eq_of_beq_eq_true g3.1
                subst gz
                have e4 := Nat.eq_of_beq_eq_true g4
                obtain ⟨b, c, vs, rest, tt, hb, hcm, hv, hblk, hrl, hcl⟩ := hR.room hl
                obtain ⟨p, c', hb', hcp, rfl⟩ := renV_slice hs
                rw [hb] at hb'
                cases hb'
                rw [cpR_big, hcm] at hcp
                cases hcp
                have hvl := renL_len hv
                have hcell : ∀ j, j < (vs ++ rest).length → w.cell? ⟨b, j, none⟩ = (vs ++ rest)[j]? := fun j hj => by
                  rw [cell_of_row w b j _ tt _ hblk]; simp
                by_cases hroom : len + n ≤ c
                · have hfit : rcs.length + news.length ≤ c * i.size := by
                    rw [e4, ← hnl, hsrc.newsLen, ← Nat.add_mul]; exact Nat.mul_le_mul_right _ hroom
                  have hrun := run_append_room_src (P := P) w t tx ty e i ht hi b (0 + 0) len c x' n vn hsrc hroom (fun j hj => by
                    have hlt2 : len * i.size + j < (vs ++ rest).length := by omega
                    rw [show 0 + 0 + len * i.size + j = len * i.size + j by omega, hcell _ hlt2, List.getElem?_eq_getElem hlt2]; rfl) (fun j hj => frozen_of_row w b _ _ tt hblk)
                  refine ⟨_, _, _, Stp.into hR hf hl hb hcm hn hfit, bindc_self, ?_⟩
                  rw [hrun, e4]
                  simp
                · have hg := app_grow (P := P) (ty := ty) hR hf ht hi hz hzs (base := some ⟨b, 0 + 0, none⟩) (sLen := len) (sCap := c) (olds := rcs) (vo := vs) (run_firstCells_some (P := P) w.drew i.size len _ len c vs (by omega) (fun j u hj => by
                    rw [addr_add]
                    show w.cell? ⟨b, 0 + 0 + j, none⟩ = some u
                    rw [show 0 + 0 + j = j by omega]
                    have hjl := (List.getElem?_eq_some_iff.1 hj).1
                    rw [hcell j (by simp; omega), List.getElem?_append_left hjl]
                    exact hj)) hv (by omega) hn hsrc (by omega) g6 g5
                  obtain ⟨σ', w', v', h1, h2, h3⟩ := hg
                  refine ⟨σ', w', v', h1.less (fun k r hk => ?_), h2, h3⟩
                  rw [lk_cons] at hk ⊢
                  split at hk
                  · rename_i e5; rw [if_pos e5]; exact hk
                  · rename_i e5
                    rw [if_neg e5]
                    rw [lk_delH] at hk
                    split at hk
                    · cases hk
                    · exact hk
          · cases hc
        · cases hc
    · cases hc
end
end Go.Proofs.Ytcahhoemlmbnaaa
