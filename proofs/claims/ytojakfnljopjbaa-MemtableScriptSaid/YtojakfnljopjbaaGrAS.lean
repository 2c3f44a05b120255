/-
  Arguments whose slices have slices in them: what they hold, at any depth; a law's call at such arguments.
-/
import Derived.Test.YtojakfnljopjbaaGrAR
import Derived.Test.YtojakfnljopjbaaGrAQ
import Derived.Test.YtojakfnljopjbaaProg
import Derived.Lib.Overlaps
namespace Go.Proofs.Ytojakfnljopjbaa
section
set_option linter.unusedSimpArgs false
set_option linter.unusedVariables false
set_option linter.unusedSectionVars false
open Go Go.ChangeShapes Go.WideShapes Go.ChangeAt Go.RowKit

inductive Sh where
 | i (k : IntKind)
 | b
 | st
 | sl (sub : List Sh)
def Iz (P : Program) (rec : TypeId → Option (List Sh)) : List Field → Nat → Option (List Sh)
 | [], _ => some []
 | f :: fs, off =>
  match rec f.type with
  | some l => if f.offset = off ∧ P.cellsOf f.type = l.length then (Iz P rec fs (off + l.length)).map (l ++ ·) else none
  | none => none
def shK (P : Program) : Nat → TypeId → Option (List Sh)
 | 0, _ => none
 | n + 1, t =>
  match P.underlying t with
  | some (.int k) => some [.i k]
  | some .bool => some [.b]
  | some .string => some [.st]
  | some (.slice e) => (shK P n e).bind fun l => if P.cellsOf e = l.length ∧ 0 < l.length then some [.sl l] else none
  | some (.struct fs) => (Iz P (shK P n) fs.toList 0).bind fun l => if P.cellsOf t = l.length then some l else none
  | some (.array m e) => (shK P n e).bind fun l => if P.cellsOf e = l.length ∧ P.cellsOf t = m * l.length then some (List.replicate m l).flatten else none
  | _ => none
mutual
def ShOk : Sh → DV → Prop
 | .i k, d => ∃ z, d = .fl (.int k z) ∧ (Lit.int k z).wf = true
 | .b, d => ∃ x, d = .fl (.bool x)
 | .st, d => ∃ x : ByteArray, d = .fl (.string x) ∧ x.size ≤ maxLen
 | .sl l, d => ∃ len cap rows, d = .sl len (some cap) (List.flatten rows) ∧ len ≤ cap ∧ cap ≤ 9223372036854775807 ∧ rows.length = len ∧ ∀ r, r ∈ rows → ShsOk l r
def ShsOk : List Sh → List DV → Prop
 | [], ds => ds = []
 | s :: l, ds => ∃ d ds', ds = d :: ds' ∧ ShOk s d ∧ ShsOk l ds'
end
theorem ShsOk.len : ∀ {l : List Sh} {ds : List DV}, ShsOk l ds → ds.length = l.length
 | [], ds, h => by simp only [ShsOk] at h; subst h; rfl
 | s :: l, ds, h => by simp only [ShsOk] at h; obtain ⟨d, ds', rfl, _, h⟩ := h; simp [h.len]
theorem ShsOk.app : ∀ {l m : List Sh} {ds es : List DV}, ShsOk l ds → ShsOk m es → ShsOk (l ++ m) (ds ++ es)
 | [], m, ds, es, h, k => by simp only [ShsOk] at h; subst h; exact k
 | s :: l, m, ds, es, h, k => by
   simp only [ShsOk] at h
   obtain ⟨d, ds', rfl, h1, h2⟩ := h
   simp only [List.cons_append, ShsOk]
   exact ⟨d, ds' ++ es, rfl, h1, h2.app k⟩
theorem DRv.len {W w : World} {F : List Nat} : ∀ {ds : List DV} {us : List Value}, DRv W w F ds us → us.length = ds.length
 | [], us, h => by simp only [DRv] at h; subst h; rfl
 | d :: ds, us, h => by simp only [DRv] at h; obtain ⟨u, us', rfl, _, h⟩ := h; simp [DRv.len h]
theorem DRv.app {W w : World} {F : List Nat} : ∀ {ds es : List DV} {us vs : List Value}, DRv W w F ds us → DRv W w F es vs → DRv W w F (ds ++ es) (us ++ vs)
 | [], es, us, vs, h, k => by simp only [DRv] at h; subst h; exact k
 | d :: ds, es, us, vs, h, k => by
   simp only [DRv] at h
   obtain ⟨u, us', rfl, h1, h2⟩ := h
   simp only [List.cons_append, DRv]
   exact ⟨u, us' ++ vs, rfl, h1, h2.app k⟩
theorem DRv.cells {W : World} {b : Nat} (hb : b < W.heap.size) : ∀ {ds : List DV} {us : List Value} {s : Nat} {es : List DV}, DRv W W [] ds us → (∀ j u, us[j]? = some u → W.cell? ⟨b, s + j, none⟩ = some u) → DRs W W [] b (s + ds.length) es → DRs W W [] b s (ds ++ es)
 | [], us, s, es, h, hc, he => by simpa using he
 | d :: ds, us, s, es, h, hc, he => by
   simp only [DRv] at h
   obtain ⟨u, us', rfl, h1, h2⟩ := h
   simp only [List.cons_append, DRs]
   refine ⟨⟨u, .inl ⟨hb, hc 0 u rfl⟩, h1⟩, DRv.cells hb h2 (fun j x hj => ?_) ?_⟩
   ·have := hc (j + 1) x (by simpa using hj)
    rwa [show s + (j + 1) = s + 1 + j by omega] at this
   ·rwa [List.length_cons, show s + (ds.length + 1) = s + 1 + ds.length by omega] at he
section
variable {H : Type} {enc : TypeId × Value → H} {P : Program} {W : World}
theorem sh_fields {n : Nat} (ih : ∀ t l, shK P n t = some l → ∀ fuel cs x, DataW.trod enc P W 0 (fun _ => true) true fuel t cs = some x → ∃ ds, ShsOk l ds ∧ DRv W W [] ds cs) {m : Nat} {cs : List Value} :
  ∀ (fs : List Field) (off : Nat) (ls : List Sh), Iz P (shK P n) fs off = some ls → off + ls.length ≤ cs.length →
   (∀ f ∈ fs, ∃ y, DataW.trod enc P W 0 (fun _ => true) true m f.type ((cs.drop f.offset).take (P.cellsOf f.type)) = some y) →
   ∃ ds, ShsOk ls ds ∧ DRv W W [] ds ((cs.drop off).take ls.length)
 | [], off, ls, h, _, _ => by
   simp only [Iz, oI] at h
   subst h
   exact ⟨[], rfl, by simp [DRv]⟩
 | f :: fs, off, ls, h, hl, hf => by
   simp only [Iz] at h
   split at h
   ·rename_i l hrec
    split at h
    ·rename_i hc
     obtain ⟨ho, hcl⟩ := hc
     simp only [Option.map_eq_some_iff] at h
     obtain ⟨l2, h2, rfl⟩ := h
     obtain ⟨y, hy⟩ := hf f (by simp)
     rw [ho, hcl] at hy
     obtain ⟨d1, hz1, hc1⟩ := ih _ _ hrec _ _ _ hy
     rw [List.length_append] at hl
     obtain ⟨d2, hz2, hc2⟩ := sh_fields ih fs (off + l.length) l2 h2 (by omega) (fun g hg => hf g (by simp [hg]))
     refine ⟨d1 ++ d2, hz1.app hz2, ?_⟩
     have := hc1.app hc2
     rwa [← List.drop_drop, ← List.take_add, ← List.length_append] at this
    ·cases h
   ·cases h
theorem sh_rows {l : List Sh} {b : Nat} (hb : b < W.heap.size) {off : Nat} : ∀ (k i : Nat), (∀ j, i ≤ j → j < i + k → ∃ ds, ShsOk l ds ∧ ∃ us, DRv W W [] ds us ∧ ∀ q u, us[q]? = some u → W.cell? ⟨b, off + (j * l.length + q), none⟩ = some u) →
  ∃ rows : List (List DV), rows.length = k ∧ ((∀ r, r ∈ rows → ShsOk l r) ∧ DRs W W [] b (off + i * l.length) rows.flatten)
 | 0, i, _ => ⟨[], rfl, (fun r h => (nomatch h)), by simp only [List.flatten_nil, DRs]; exact .inl hb⟩
 | k + 1, i, h => by
   obtain ⟨rows, h1, h2, h3⟩ := sh_rows hb k (i + 1) fun j a b => h j (by omega) (by omega)
   obtain ⟨ds, g1, us, g2, g3⟩ := h i (Nat.le_refl _) (by omega)
   refine ⟨ds :: rows, by simp [h1], fun r hr => ?_, ?_⟩
   ·rcases List.mem_cons.1 hr with rfl | hr
    ·exact g1
    ·exact h2 r hr
   ·rw [List.flatten_cons]
    refine DRv.cells hb g2 (fun j u hj => ?_) ?_
    ·rw [Nat.add_assoc]; exact g3 j u hj
    ·rwa [g1.len, show off + i * l.length + l.length = off + (i + 1) * l.length by rw [Nat.add_mul]; omega]
theorem M0 : ∀ (n : Nat) (t : TypeId) (l : List Sh), shK P n t = some l → ∀ fuel cs x, DataW.trod enc P W 0 (fun _ => true) true fuel t cs = some x → ∃ ds, ShsOk l ds ∧ DRv W W [] ds cs
 | 0, _, _, h => by simp [shK] at h
 | n + 1, t, l, h => by
   intro fuel cs x hx
   have one : ∀ {s : Sh} {d : DV} {u : Value}, ShOk s d → DR W W [] d u → ∃ ds, ShsOk [s] ds ∧ DRv W W [] ds [u] := fun h1 h2 => ⟨[_], by simp only [ShsOk]; exact ⟨_, [], rfl, h1, rfl⟩, by simp only [DRv]; exact ⟨_, [], rfl, h2, rfl⟩⟩
   simp only [shK] at h
   split at h
   ·rename_i k hk
    simp only [oI] at h
    subst h
    obtain ⟨z, rfl, _, hw⟩ := DataW.trod_int hk hx
    exact one (by simp only [ShOk]; exact ⟨z, rfl, hw⟩) (by rw [DR]; exact ⟨rfl, fun σ => rfl⟩)
   ·rename_i hk
    simp only [oI] at h
    subst h
    obtain ⟨z, rfl, _⟩ := DataW.trod_bool hk hx
    exact one (by simp only [ShOk]; exact ⟨z, rfl⟩) (by rw [DR]; exact ⟨rfl, fun σ => rfl⟩)
   ·rename_i hk
    simp only [oI] at h
    subst h
    obtain ⟨z, rfl, _, hw⟩ := DataW.trod_string hk hx
    exact one (by simp only [ShOk]; exact ⟨z, rfl, hw⟩) (by rw [DR]; exact ⟨rfl, fun σ => rfl⟩)
   ·rename_i e hk
    simp only [Option.bind_eq_some_iff] at h
    obtain ⟨sub, hsub, h⟩ := h
    split at h
    ·rename_i hc
     obtain ⟨hc1, hpos⟩ := hc
     simp only [oI] at h
     subst h
     rcases DataW.trod_slice hk hx with ⟨rfl, _⟩ | ⟨a, len, cap, elems, rest, m, _, rfl, _, _, hl, hm, hlen, hel, hre, _⟩
     ·exact one (by simp only [ShOk]; exact ⟨0, 0, [], rfl, Nat.le_refl _, by omega, rfl, fun r hr => (nomatch hr)⟩) (by rw [DR]; exact .inl ⟨rfl, rfl, .inr rfl, _, rfl⟩)
     ·have hcm : cap ≤ 9223372036854775807 := by unfold maxLen at hm; omega
      rcases Nat.eq_zero_or_pos cap with h0 | h0
      ·subst h0
       obtain rfl : len = 0 := by omega
       exact one (by simp only [ShOk]; exact ⟨0, 0, [], rfl, Nat.le_refl _, by omega, rfl, fun r hr => (nomatch hr)⟩) (by rw [DR]; exact .inl ⟨rfl, rfl, .inr rfl, _, rfl⟩)
      ·obtain ⟨hr1, hr2⟩ := hre rfl
       have ex : ∀ i, i < cap → ∃ y, (W.cells? 0 (a.add (i * P.cellsOf e)) (P.cellsOf e)).bind (DataW.trod enc P W 0 (fun _ => true) true m e) = some y := fun i hi => by
        by_cases hil : i < len
        ·exact ⟨elems[i]'(by omega), by rw [hel i hil, List.getElem?_eq_getElem]⟩
        ·have := hr2 (i - len) (by omega)
         rw [show len + (i - len) = i by omega] at this
         exact ⟨rest[i - len]'(by omega), by rw [this, List.getElem?_eq_getElem]⟩
       have spot : a.spot = none ∧ a.block < W.heap.size := by
        obtain ⟨y, hy⟩ := ex 0 h0
        rw [Option.bind_eq_some_iff] at hy
        obtain ⟨cs0, h2, _⟩ := hy
        obtain ⟨_, h4, h5⟩ := World.cells?_some h2
        have h6 := h5 0 (by omega)
        obtain ⟨u, hu⟩ : ∃ u, cs0[0]? = some u := ⟨cs0[0]'(by omega), List.getElem?_eq_getElem _⟩
        rw [hu] at h6
        obtain ⟨b, off, sp⟩ := a
        cases sp with
        | none =>
         rw [add_plain, add_plain] at h6
         exact ⟨rfl, Kv h6⟩
        | some s =>
         exfalso
         have : ((({ block := b, off := off, spot := some s } : Addr).add (0 * P.cellsOf e)).add 0).spot.isSome = true := by
          unfold Addr.add
          split <;> split <;> simp_all
         unfold World.cell? at h6
         split at h6
         ·rw [if_pos this] at h6; cases h6
         ·cases h6
       obtain ⟨b, off, sp⟩ := a
       obtain ⟨hsp, hblk⟩ := spot
       simp only at hsp hblk
       subst hsp
       obtain ⟨rows, g1, g2, g3⟩ := sh_rows (W := W) (l := sub) hblk (off := off) len 0 fun j _ hj => by
        obtain ⟨y, hy⟩ := ex j (by omega)
        rw [Option.bind_eq_some_iff] at hy
        obtain ⟨cs0, h2, h3⟩ := hy
        obtain ⟨ds, h7, h8⟩ := M0 n e sub hsub _ _ _ h3
        obtain ⟨_, h4, h5⟩ := World.cells?_some h2
        refine ⟨ds, h7, cs0, h8, fun q u hq => ?_⟩
        have hq2 := (List.getElem?_eq_some_iff.1 hq).1
        have h6 := h5 q (by omega)
        rw [add_plain, add_plain, hc1, hq, Nat.add_assoc] at h6
        exact h6
       rw [Nat.zero_mul, Nat.add_zero] at g3
       exact one (by simp only [ShOk]; exact ⟨len, cap, rows, rfl, hl, hcm, g1, g2⟩) (by rw [DR]; exact .inr ⟨b, off, cap, rfl, ⟨hl, fun k e => (by cases e; exact ⟨rfl, hl, hcm⟩)⟩, .inr g3⟩)
    ·cases h
   ·rename_i fs hs
    simp only [Option.bind_eq_some_iff] at h
    obtain ⟨l0, hl, h⟩ := h
    split at h
    ·rename_i hc
     simp only [oI] at h
     subst h
     obtain ⟨xs, m, _, _, hlen, hxl, hg⟩ := DataW.trod_struct hs hx
     have hlen' : cs.length = l0.length := by rw [hlen, hc]
     obtain ⟨ds, hz, hcs⟩ := sh_fields (M0 n) (m := m) (cs := cs) fs.toList 0 l0 hl (by omega) (fun f hf => by
      obtain ⟨i, hi, e⟩ := List.getElem_of_mem hf
      have hi' : i < fs.size := by simpa using hi
      have h1 := hg i f (by rw [Array.getElem?_eq_getElem hi']; simpa using e)
      exact ⟨xs[i]'(by omega), by rw [h1, List.getElem?_eq_getElem]⟩)
     rw [List.drop_zero, List.take_of_length_le (by omega)] at hcs
     exact ⟨ds, hz, hcs⟩
    ·cases h
   ·rename_i m e hs
    simp only [Option.bind_eq_some_iff] at h
    obtain ⟨l0, hl, h⟩ := h
    split at h
    ·rename_i hc
     obtain ⟨hc1, hc2⟩ := hc
     simp only [oI] at h
     subst h
     have key : ∃ m', cs.length = P.cellsOf t ∧ ∀ i, i < m → ∃ y, DataW.trod enc P W 0 (fun _ => true) true m' e ((cs.drop (i * P.cellsOf e)).take (P.cellsOf e)) = some y := by
      cases fuel with
      | zero => simp [DataW.trod] at hx
      | succ m' =>
       unfold DataW.trod at hx
       rw [hs] at hx
       simp only at hx
       split at hx
       ·rename_i hcl
        simp only [Option.map_eq_some_iff] at hx
        obtain ⟨xs, hxs, _⟩ := hx
        refine ⟨m', hcl, fun i hi => ?_⟩
        have h1 := mapM_some_get hxs i i (by simp [hi])
        have h2 := mapM_some_length hxs
        simp at h2
        exact ⟨xs[i]'(by omega), by rw [h1, List.getElem?_eq_getElem]⟩
       ·cases hx
     obtain ⟨m', hcl, hel⟩ := key
     rw [hc1] at hel
     rw [hc2] at hcl
     have main : ∀ j, j ≤ m → ∃ ds, ShsOk (List.replicate j l0).flatten ds ∧ DRv W W [] ds (cs.take (j * l0.length)) := by
      intro j
      induction j with
      | zero => intro _; exact ⟨[], rfl, by simp [DRv]⟩
      | succ j ihj =>
       intro hj
       obtain ⟨ds, hz, hcs⟩ := ihj (by omega)
       obtain ⟨y, hy⟩ := hel j (by omega)
       obtain ⟨ds2, hz2, hcs2⟩ := M0 n _ _ hl _ _ _ hy
       rw [List.replicate_succ', List.flatten_append]
       simp only [List.flatten_cons, List.flatten_nil, List.append_nil]
       refine ⟨ds ++ ds2, hz.app hz2, ?_⟩
       have := hcs.app hcs2
       rwa [← List.take_add, show j * l0.length + l0.length = (j + 1) * l0.length by rw [Nat.add_mul]; omega] at this
     obtain ⟨ds, hz, hcs⟩ := main m (Nat.le_refl _)
     rw [List.take_of_length_le (by omega)] at hcs
     exact ⟨ds, hz, hcs⟩
    ·cases h
   ·cases h
end

inductive DA where
 | fl (v : Value)
 | sl (xs : List Value) (len cap : Nat)
 | dl (ds : List DV) (len cap : Nat)
def daV : List DA → Nat → List Value
 | [], _ => []
 | .fl v :: l, k => v :: daV l (k + 1)
 | .sl _ len cap :: l, k => .slice (some ⟨k, 0, none⟩) len cap :: daV l (k + 1)
 | .dl _ len cap :: l, k => .slice (some ⟨k, 0, none⟩) len cap :: daV l (k + 1)
def daH : List DA → Nat → Hp
 | [], _ => []
 | .fl _ :: l, k => daH l (k + 1)
 | .sl xs _ _ :: l, k => (k, ⟨.old, xs⟩) :: daH l (k + 1)
 | .dl ds _ _ :: l, k => (k, ⟨.sd ds, []⟩) :: daH l (k + 1)
def DA.at (W : World) (u : Value) : DA → Prop
 | .fl v => u = v ∧ ∀ σ, renV σ v = some v
 | .sl xs len cap => (cap = 0 → xs = []) ∧ DR W W [] (.sl len (some cap) (xs.map DV.fl)) u
 | .dl ds len cap => (cap = 0 → ds = []) ∧ DR W W [] (.sl len (some cap) ds) u
def DAs (W : World) : List DA → List Value → Prop
 | [], [] => True
 | a :: l, u :: us => a.at W u ∧ DAs W l us
 | _, _ => False
def plV (u : Value) : (Nat × Nat) × Option (List Nat × List Nat) × Option Addr := match u with
 | .slice a _ c => bif Nat.beq c 0 then ((0, 0), none, a) else (match a with | some ad => ((ad.block, ad.off), some ([], []), none) | none => ((0, 0), none, none))
 | _ => ((0, 0), some ([], []), none)
def sgD (us : List Value) : Sg := ⟨fun n => (us[n]?).map fun u => (plV u).1, fun _ => none, fun n => match us[n]? with | some u => (plV u).2.1 | none => none, fun n => match us[n]? with | some u => (plV u).2.2 | none => none, true⟩
theorem sgD_b {us : List Value} {n : Nat} {u : Value} (h : us[n]? = some u) : (sgD us).b n = some (plV u).1 ∧ (sgD us).f n = (plV u).2.1 ∧ (sgD us).e n = (plV u).2.2 := by
 simp only [sgD, h, Option.map_some, and_self]
theorem sgD_sh (us : List Value) (n : Nat) : sh (sgD us) n = [] := by
 simp only [sh, sgD]
 split
 ·rename_i u _
  unfold plV
  split
  ·rename_i a l c _
   cases h : Nat.beq c 0
   ·simp only [h, cond_false]; split <;> rfl
   ·simp only [h, cond_true]; rfl
  ·rfl
 ·rfl
theorem sgD_ex (us : List Value) (n : Nat) : ex (sgD us) n = [] := by
 simp only [ex, sgD]
 split
 ·rename_i u _
  unfold plV
  split
  ·rename_i a l c _
   cases h : Nat.beq c 0
   ·simp only [h, cond_false]; split <;> rfl
   ·simp only [h, cond_true]; rfl
  ·rfl
 ·rfl
theorem plV_sl {W : World} {len cap : Nat} {ds : List DV} {u : Value} (h : DR W W [] (.sl len (some cap) ds) u) (h9 : cap = 0 → ds = []) {σ : Sg} {n : Nat} (hb : σ.b n = some (plV u).1) (hf : σ.f n = (plV u).2.1) (he : σ.e n = (plV u).2.2) :
  renV σ (.slice (some ⟨n, 0, none⟩) len cap) = some u ∧ (ds = [] ∨ DRs W W [] (plV u).1.1 (plV u).1.2 ds) := by
 simp only [DR] at h
 have emp : ∀ a, len = 0 → cap = 0 → u = .slice a 0 0 → renV σ (.slice (some ⟨n, 0, none⟩) len cap) = some u := fun a h1 h2 h3 => by
  subst h1; subst h2; subst h3
  have := Dl (σ := σ) (n := n) (o := 0) (l := 0) (c := 0) hb (by rw [hf]; rfl) rfl (by unfold cpR B0; rfl)
  rw [he] at this
  exact this
 rcases h with ⟨h1, h2, h3, a, h4⟩ | ⟨b, s, c, h4, h7, h8⟩
 ·have hc : cap = 0 := by
   rcases h3 with h3 | h3
   ·cases h3
   ·exact Option.some.inj h3
  exact ⟨emp a h1 hc h4, .inl h2⟩
 ·obtain ⟨rfl, h5, h6⟩ := h7.2 cap rfl
  rcases Nat.eq_zero_or_pos c with h0 | h0
  ·have hl : len = 0 := by omega
   exact ⟨emp _ hl h0 (by rw [h4, hl, h0]), .inl (h9 h0)⟩
  ·have hz : Nat.beq c 0 = false := Ca (by omega)
   subst h4
   simp only [plV, hz, cond_false] at hb hf he ⊢
   refine ⟨?_, h8⟩
   have := B5 (σ := σ) (n := n) (o := 0) (l := len) (c := c) (c' := c) hb (by unfold cpR; rw [if_pos (by unfold B0; omega)]) (by rw [hf]; intro e; cases e) (.inr h5)
   simpa using this
theorem DRs.flt {W : World} {b : Nat} : ∀ {xs : List Value} {s : Nat}, DRs W W [] b s (xs.map DV.fl) → b < W.heap.size ∧ (∀ j v, xs[j]? = some v → W.cell? ⟨b, s + j, none⟩ = some v) ∧ ∀ σ, renL σ xs = some xs
 | [], s, h => by
   simp only [List.map_nil, DRs] at h
   exact ⟨h.resolve_right (fun e => nomatch e), (fun j v e => by simp at e), fun σ => rfl⟩
 | x :: xs, s, h => by
   simp only [List.map_cons, DRs, DR] at h
   obtain ⟨⟨v, h1, rfl, h2⟩, h3⟩ := h
   obtain ⟨g1, g2, g3⟩ := DRs.flt h3
   refine ⟨g1, fun j y e => ?_, fun σ => by simp only [renL, h2 σ, g3 σ]⟩
   cases j with
   | zero =>
    simp only [List.getElem?_cons_zero, oI] at e
    subst e
    rcases h1 with h1 | h1
    ·exact h1.2
    ·exact absurd h1.1 (by simp)
   | succ j =>
    have := g2 j y (by simpa using e)
    rwa [show s + 1 + j = s + (j + 1) by omega] at this
theorem daH_lk {W : World} : ∀ {asL : List DA} {us : List Value} {k n : Nat} {r : Rw}, DAs W asL us → lk (daH asL k) n = some r → ∃ j a u, n = k + j ∧ asL[j]? = some a ∧ us[j]? = some u ∧ a.at W u ∧ ((∃ xs l c, a = .sl xs l c ∧ r = ⟨.old, xs⟩) ∨ ∃ ds l c, a = .dl ds l c ∧ r = ⟨.sd ds, []⟩)
 | [], [], k, n, r, _, h => by cases h
 | a :: asL, u :: us, k, n, r, hA, h => by
   simp only [DAs] at hA
   have up : lk (daH asL (k + 1)) n = some r → ∃ j b v, n = k + j ∧ (a :: asL)[j]? = some b ∧ (u :: us)[j]? = some v ∧ b.at W v ∧ ((∃ xs l c, b = .sl xs l c ∧ r = ⟨.old, xs⟩) ∨ ∃ ds l c, b = .dl ds l c ∧ r = ⟨.sd ds, []⟩) := fun h => by
    obtain ⟨j, b, v, h1, h2, h3, h4, h5⟩ := daH_lk hA.2 h
    exact ⟨j + 1, b, v, by omega, by simpa using h2, by simpa using h3, h4, h5⟩
   cases a with
   | fl v => exact up h
   | sl xs l c =>
    simp only [daH, B3] at h
    split at h
    ·rename_i e
     simp only [oI] at h
     subst h
     exact ⟨0, _, u, by omega, rfl, rfl, hA.1, .inl ⟨xs, l, c, rfl, rfl⟩⟩
    ·exact up h
   | dl ds l c =>
    simp only [daH, B3] at h
    split at h
    ·rename_i e
     simp only [oI] at h
     subst h
     exact ⟨0, _, u, by omega, rfl, rfl, hA.1, .inr ⟨ds, l, c, rfl, rfl⟩⟩
    ·exact up h
 | [], _ :: _, k, n, r, hA, h => by simp [DAs] at hA
 | _ :: _, [], k, n, r, hA, h => by simp [DAs] at hA
theorem da_ren {W : World} {σ : Sg} : ∀ {asL : List DA} {us : List Value} {k : Nat}, DAs W asL us → (∀ j u, us[j]? = some u → σ.b (k + j) = some (plV u).1 ∧ σ.f (k + j) = (plV u).2.1 ∧ σ.e (k + j) = (plV u).2.2) → renL σ (daV asL k) = some us
 | [], [], k, _, _ => rfl
 | a :: asL, u :: us, k, hA, hs => by
   simp only [DAs] at hA
   obtain ⟨g1, g2, g3⟩ := hs 0 u rfl
   have hrec := da_ren (k := k + 1) hA.2 fun j v e => by
    have := hs (j + 1) v (by simpa using e)
    rwa [show k + (j + 1) = k + 1 + j by omega] at this
   cases a with
   | fl v => obtain ⟨rfl, h⟩ := hA.1; simp only [daV, renL, h σ, hrec]
   | sl xs l c => obtain ⟨h0, h⟩ := hA.1; have e := (plV_sl h (fun e => by rw [h0 e]; rfl) g1 g2 g3).1; simp only [Nat.add_zero] at e; simp only [daV, renL, e, hrec]
   | dl ds l c => obtain ⟨h0, h⟩ := hA.1; have e := (plV_sl h h0 g1 g2 g3).1; simp only [Nat.add_zero] at e; simp only [daV, renL, e, hrec]
 | [], _ :: _, k, hA, _ => by simp [DAs] at hA
 | _ :: _, [], k, hA, _ => by simp [DAs] at hA
theorem DAs.len {W : World} : ∀ {asL : List DA} {us : List Value}, DAs W asL us → asL.length = us.length
 | [], [], _ => rfl
 | a :: asL, u :: us, h => by simp only [DAs] at h; simp [h.2.len]
 | [], _ :: _, h => by simp [DAs] at h
 | _ :: _, [], h => by simp [DAs] at h
theorem calls_dp {P : Program} {f : FuncId} (asL : List DA) {v : Value} (T : ∃ h' nx' d, Tri P f (daV asL 0) (daH asL 0) asL.length (v, h', nx', d)) (hv : ∀ σ, renV σ v = some v) {W : World} {us : List Value} (hA : DAs W asL us) :
  Calls P f us.toArray W fun e w' => e = .returned v ∧ Ext W w' := by
 have noOwn : ∀ n r, lk (daH asL 0) n = some r → ¬ r.own := fun n r hn ho => by
  obtain ⟨j, a, u, _, _, _, _, h⟩ := daH_lk hA hn
  rcases h with ⟨xs, l, c, _, rfl⟩ | ⟨ds, l, c, _, rfl⟩
  ·exact ho .old
  ·exact ho (.sd ds)
 have noSh : ∀ n k, k ∈ sh (sgD us) n → False := fun n k hk => by rw [sgD_sh] at hk; cases hk
 have hR : Rl W (sgD us) (daH asL 0) W := by
  refine ⟨⟨Ext.refl W, fun n r hlk => ?_, fun n m r s p q hn hm ho => (noOwn n r hn ho).elim⟩, rfl, fun n r hn ho => (noOwn n r hn ho).elim, fun n r k _ hk => (noSh n k hk).elim, fun n r k _ hk => by rw [sgD_ex] at hk; cases hk⟩
  obtain ⟨j, a, u, e1, e2, e3, e4, e5⟩ := daH_lk hA hlk
  have hn : n = j := by omega
  subst hn
  obtain ⟨g1, g2, g3⟩ := sgD_b e3
  rcases e5 with ⟨xs, l, c, rfl, rfl⟩ | ⟨ds, l, c, rfl, rfl⟩
  ·obtain ⟨h0, h⟩ := e4
   rcases (plV_sl h (fun e => by rw [h0 e]; rfl) g1 g2 g3).2 with h1 | h1
   ·obtain rfl : xs = [] := by simpa using h1
    exact ⟨_, _, [], g1, rfl, .inl rfl⟩
   ·obtain ⟨k1, k2, k3⟩ := h1.flt
    exact ⟨_, _, xs, g1, k3 _, .inr (.inl ⟨k1, k2⟩)⟩
  ·obtain ⟨h0, h⟩ := e4
   have h1 := (plV_sl h h0 g1 g2 g3).2
   refine ⟨_, _, [], g1, rfl, rfl, ?_⟩
   rw [sgD_sh]
   exact h1
 obtain ⟨h', nx', d, T⟩ := T
 refine (T.2 (fun n hn => ?_) W (sgD us) W us hR (fun n hn _ => ?_) (da_ren hA fun j u e => by rw [Nat.zero_add]; exact sgD_b e)).mono ?_
 ·cases hlk : lk (daH asL 0) n with
  | none => rfl
  | some r =>
   obtain ⟨j, a, u, e1, e2, _⟩ := daH_lk hA hlk
   have := (List.getElem?_eq_some_iff.1 e2).1
   omega
 ·have : us[n]? = none := List.getElem?_eq_none (by have := hA.len; omega)
  simp only [sgD, this, Option.map_none, and_self]
 ·rintro e w' ⟨σ', u, S, hu, rfl⟩
  rw [hv σ'] at hu
  cases hu
  exact ⟨rfl, S.rl.ext⟩
theorem open_dp {H : Type} {enc : TypeId × Value → H} {P : Program} {W : World} {t e : TypeId} {sub : List Sh} {v : Value} {d : DataW H} {ps : List MemPlace} {b0 : Nat} (ht : shK P 9 t = some [.sl sub]) (hu : P.underlying t = some (.slice e))
  (hv : Value.okWide P W .any b0 t v) (h : DataW.Trod enc P W 0 (fun _ => true) true t v d ps) :
  ∃ (rows : List (List DV)) (cap : Nat), DA.at W v (.dl rows.flatten rows.length cap) ∧ rows.length ≤ cap ∧ cap ≤ 9223372036854775807 ∧ ∀ r, r ∈ rows → ShsOk sub r := by
 obtain ⟨A, n, c, rfl⟩ := okWide_slice hu hv
 obtain ⟨fuel, hf⟩ := h
 obtain ⟨ds, h1, h2⟩ := M0 9 t _ ht _ _ _ hf
 simp only [ShsOk] at h1
 obtain ⟨d1, _, rfl, h3, rfl⟩ := h1
 simp only [ShOk] at h3
 obtain ⟨len, cap, rows, rfl, h4, h5, h7, h8⟩ := h3
 have hcs : (Value.slice A n c).cells.toList = [.slice A n c] := by simp [Value.cells]
 rw [hcs] at h2
 simp only [DRv] at h2
 obtain ⟨u, us', e1, h9, rfl⟩ := h2
 simp only [List.cons.injEq, and_true] at e1
 subst e1
 subst h7
 exact ⟨rows, cap, ⟨fun e0 => by
  have : rows = [] := List.length_eq_zero_iff.1 (by omega)
  rw [this]; rfl, h9⟩, h4, h5, h8⟩
end
set_option linter.unusedSimpArgs false
set_option linter.unusedVariables false
set_option linter.unusedSectionVars false
open Go Go.RowKit

def shFl : List Sh → Bool
 | [] => true
 | .sl _ :: _ => false
 | _ :: l => shFl l
theorem shFl_ok : ∀ {l : List Sh} {r : List DV}, shFl l = true → ShsOk l r → (r.map DV.val).map DV.fl = r
 | [], r, _, h => by simp only [ShsOk] at h; subst h; rfl
 | s :: l, r, hb, h => by
   simp only [ShsOk] at h
   obtain ⟨d, ds', rfl, h1, h2⟩ := h
   have rest : shFl l = true → (ds'.map DV.val).map DV.fl = ds' := fun e => shFl_ok e h2
   cases s with
   | i k => simp only [ShOk] at h1; obtain ⟨z, rfl, _⟩ := h1; simp only [List.map_cons, DV.val, rest hb]
   | b => simp only [ShOk] at h1; obtain ⟨z, rfl⟩ := h1; simp only [List.map_cons, DV.val, rest hb]
   | st => simp only [ShOk] at h1; obtain ⟨z, rfl, _⟩ := h1; simp only [List.map_cons, DV.val, rest hb]
   | sl sub => cases hb
theorem shFl_rows {l : List Sh} (hb : shFl l = true) : ∀ {rows : List (List DV)}, (∀ r, r ∈ rows → ShsOk l r) → (rows.flatten.map DV.val).map DV.fl = rows.flatten
 | [], _ => rfl
 | r :: rows, h => by
   rw [List.flatten_cons, List.map_append, List.map_append, shFl_ok hb (h r (List.mem_cons_self ..)), shFl_rows hb fun x hx => h x (List.mem_cons_of_mem _ hx)]
def shpB (deep : Bool) : List Value → List Sh → Bool
 | [], [] => true
 | .int k _ :: zs, .i k' :: l => decide (k = k') && shpB deep zs l
 | .bool _ :: zs, .b :: l => shpB deep zs l
 | .string _ :: zs, .st :: l => shpB deep zs l
 | .slice none _ _ :: zs, .sl sub :: l => (deep || shFl sub) && shpB deep zs l
 | _, _ => false
theorem shD_of {deep uc : Bool} {ds : List DV} {o : Nat} : ∀ {zs : List Value} {l : List Sh} {r : List DV} {j nx : Nat}, shpB deep zs l = true → ShsOk l r → (∀ q d, r[q]? = some d → ds[o + (j + q)]? = some d) → ∃ vs rs ob, shD deep uc ds o zs j nx = some (vs, rs, ob) ∧ Alls ob
 | [], [], r, j, nx, _, _, _ => ⟨_, _, _, rfl, trivial⟩
 | z :: zs, s :: l, r, j, nx, hb, h, hc => by
   simp only [ShsOk] at h
   obtain ⟨d, ds', rfl, h1, h2⟩ := h
   have h0 : ds[o + j]? = some d := hc 0 d rfl
   have hn : ∀ q e, ds'[q]? = some e → ds[o + (j + 1 + q)]? = some e := fun q e he => by
    have := hc (q + 1) e (by simpa using he)
    rwa [show j + (q + 1) = j + 1 + q by omega] at this
   unfold shpB at hb
   split at hb
   ·rename_i e1 e2; cases e1
   ·rename_i k n zs' k' l' e1 e2
    cases e1; cases e2
    simp only [Bool.and_eq_true, decide_eq_true_eq] at hb
    obtain ⟨rfl, hb⟩ := hb
    obtain ⟨vs, rs, ob, g1, g2⟩ := shD_of (uc := uc) (nx := nx) hb h2 hn
    simp only [ShOk] at h1
    obtain ⟨z, rfl, _⟩ := h1
    refine ⟨_, _, _, (by simp only [shD, g1]; rfl), ?_⟩
    refine ⟨?_, g2⟩
    unfold dInt; rw [h0]
   ·rename_i x zs' l' e1 e2
    cases e1; cases e2
    obtain ⟨vs, rs, ob, g1, g2⟩ := shD_of (uc := uc) (nx := nx) hb h2 hn
    simp only [ShOk] at h1
    obtain ⟨z, rfl⟩ := h1
    refine ⟨_, _, _, (by simp only [shD, g1]; rfl), ?_⟩
    refine ⟨?_, g2⟩
    unfold Dx; rw [h0]
   ·rename_i x zs' l' e1 e2
    cases e1; cases e2
    obtain ⟨vs, rs, ob, g1, g2⟩ := shD_of (uc := uc) (nx := nx) hb h2 hn
    simp only [ShOk] at h1
    obtain ⟨z, rfl, _⟩ := h1
    refine ⟨_, _, _, (by simp only [shD, g1]; rfl), ?_⟩
    refine ⟨?_, g2⟩
    unfold dStr; rw [h0]
   ·rename_i a b zs' sub l' e1 e2
    cases e1; cases e2
    simp only [Bool.and_eq_true] at hb
    obtain ⟨vs, rs, ob, g1, g2⟩ := shD_of (uc := uc) (nx := nx + 1) hb.2 h2 hn
    simp only [ShOk] at h1
    obtain ⟨len, cap, rows, rfl, _, _, _, hr⟩ := h1
    have e1 : dLen ds (o + j) = len := by unfold dLen; rw [h0]
    have e2 : dCap ds (o + j) = cap := by unfold dCap; rw [h0]
    have e3 : dSub ds (o + j) = rows.flatten := by unfold dSub; rw [h0]
    have e0 : ∀ sub, sub = rows.flatten → DSl ds (o + j) (dLen ds (o + j)) (bif uc then none else some (dCap ds (o + j))) sub := fun sub e => by
     subst e
     refine ⟨some cap, by rw [h0, e1], ?_⟩
     cases uc with
     | true => exact .inl rfl
     | false => exact .inr (by rw [e2]; rfl)
    refine ⟨_, _, _, (by simp only [shD, g1]; rfl), ?_⟩
    refine ⟨e0 _ ?_, g2⟩
    cases deep with
    | true => exact e3
    | false =>
     have hf : shFl sub = true := by simpa using hb.1
     simp only [cond_false]
     unfold B4
     rw [e3, shFl_rows hf hr]
   ·cases hb
 | [], _ :: _, r, j, nx, hb, _, _ => by simp [shpB] at hb
 | _ :: _, [], r, j, nx, hb, _, _ => by simp [shpB] at hb
theorem Hj {α : Type} {k : Nat} : ∀ {rows : List (List α)} {i q : Nat} {d : α}, (∀ r, r ∈ rows → r.length = k) → ∀ r, rows[i]? = some r → r[q]? = some d → rows.flatten[i * k + q]? = some d
 | [], i, q, d, _, r, h, _ => by simp at h
 | x :: rows, 0, q, d, hl, r, h, hq => by
   simp only [List.getElem?_cons_zero, oI] at h
   subst h
   rw [List.flatten_cons, Nat.zero_mul, Nat.zero_add, List.getElem?_append_left (List.getElem?_eq_some_iff.1 hq).1]
   exact hq
 | x :: rows, i + 1, q, d, hl, r, h, hq => by
   have hx := hl x (List.mem_cons_self ..)
   rw [List.flatten_cons, List.getElem?_append_right (by rw [hx, Nat.add_mul]; omega), hx, show (i + 1) * k + q - k = i * k + q by rw [Nat.add_mul]; omega]
   exact Hj (fun r hr => hl r (List.mem_cons_of_mem _ hr)) r (by simpa using h) hq
theorem shOb_of {P : Program} {t : TypeId} {deep uc : Bool} {sub : List Sh} {rows : List (List DV)} {i nx : Nat} (hb : (match P.info? t with | some i => (match i.zero with | some z => shpB deep z.cells.toList sub | none => true) | none => true) = true)
  (hr : ∀ r, r ∈ rows → ShsOk sub r) (hi : i < rows.length) : ShOb P t deep uc rows.flatten (i * sub.length) nx := by
 unfold ShOb
 split
 ·rename_i inf hinf
  rw [hinf] at hb
  simp only at hb
  split
  ·rename_i z hz
   rw [hz] at hb
   simp only at hb
   obtain ⟨vs, rs, ob, g1, g2⟩ := shD_of (uc := uc) (nx := nx) (ds := rows.flatten) (o := i * sub.length) (j := 0) hb (hr _ (List.getElem_mem hi)) fun q d hq => by
    rw [Nat.zero_add]
    exact Hj (fun r h => (hr r h).len) _ (List.getElem?_eq_getElem hi) hq
   rw [g1]
   exact g2
  ·trivial
 ·trivial
def drN (nx : Nat) : Hp → List Nat
 | [] => []
 | (n, r) :: h => bif Nat.blt n nx then drN nx h else (match r.kd with
  | .shut => n :: drN nx h
  | .old => n :: drN nx h
  | .of => n :: drN nx h
  | .lent => n :: drN nx h
  | _ => drN nx h)
def Lj : List Nat → Hp → Hp
 | [], h => h
 | n :: ns, h => Lj ns (delH h n)
theorem drN_ge {nx : Nat} : ∀ {h : Hp} {n : Nat}, n ∈ drN nx h → nx ≤ n
 | [], n, hn => by cases hn
 | (m, r) :: h, n, hn => by
   simp only [drN] at hn
   cases hb : Nat.blt m nx with
   | true => rw [hb] at hn; exact drN_ge hn
   | false =>
    rw [hb] at hn
    simp only [cond_false] at hn
    have hm : nx ≤ m := by
     rcases Nat.lt_or_ge m nx with h0 | h0
     ·have e : Nat.blt m nx = true := Nat.ble_eq_true_of_le h0
      rw [e] at hb; cases hb
     ·exact h0
    split at hn
    all_goals first
     | exact drN_ge hn
     | (rcases List.mem_cons.1 hn with rfl | hn
        ·exact hm
        ·exact drN_ge hn)
theorem Lb : ∀ {ns : List Nat} {h : Hp} {m : Nat} {r : Rw}, lk (Lj ns h) m = some r → lk h m = some r
 | [], h, m, r, e => e
 | n :: ns, h, m, r, e => by
   have := Lb (ns := ns) e
   rw [Bf] at this
   split at this
   ·cases this
   ·exact this
theorem lk_delAll_out : ∀ {ns : List Nat} {h : Hp} {m : Nat}, (∀ n, n ∈ ns → n ≠ m) → lk (Lj ns h) m = lk h m
 | [], h, m, _ => rfl
 | n :: ns, h, m, hn => by
   simp only [Lj]
   rw [lk_delAll_out fun k hk => hn k (List.mem_cons_of_mem _ hk), Bf, if_neg (hn n (List.mem_cons_self ..))]
def prjP (ks : List Nat) (nx0 : Nat) (r : Res (St5 × Tape × List Prop)) : Res (PSt × Tape × List Prop) := match prjZ ks r with
 | .ok ((x, n, l, h, nx, d, ms), tp, ob) => .ok ((x, n, l, Lj (drN nx0 h) h, nx, d, ms), tp, ob)
 | .ask b => .ask b
 | .no => .no
theorem Bb {V : Tv} {P : Program} {call : Et} (hX : XOkZ V P) (hL : LOkZ V P) (hC : COkZ P call) (hm : P.follows .mixedOrders = true) {fid : FuncId} {inr : Bool} {ks : List Nat} {c : Code} {ts : Tm} {h : Hp} {nx : Nat} {tp tp' : Tape} {o : PSt} {ob : List Prop}
  (hr : prjP ks nx (Bk V P call fid inr 100000 c ts h nx tp) = .ok (o, tp', ob)) (ho : Alls ob) : RunsL inr (fun F m Q => c.wpIn F m P Q) ts h nx o := by
 unfold prjP at hr
 split at hr
 ·rename_i x n l h1 nx1 d ms tp1 ob1 hc
  simp only [Res.ok.injEq, pI] at hr
  obtain ⟨rfl, rfl, rfl⟩ := hr
  have A := H7 hX hL hC hm hc ho
  refine ⟨⟨A.1.1, fun m hm hd => ?_, fun hB m hm => ?_⟩, fun hB W σ w a hR hf ht ds hd F m hF hr Q hQ => A.2 hB W σ w a hR hf ht ds hd F m hF hr Q fun σ' w' a' es b1 b2 b3 b4 => hQ σ' w' a' es (b1.less fun m r e => Lb e) b2 b3 b4⟩
  ·exact (lk_delAll_out fun k hk e => by have := drN_ge hk; omega).trans (A.1.2.1 m hm hd)
  ·cases e : lk (Lj (drN nx h1) h1) m with
   | none => rfl
   | some r => have := Lb e; rw [A.1.2.2 hB m hm] at this; cases this
 ·cases hr
 ·cases hr
def gTrueY : Ji := fun av tp => match av with
 | [] => some (⟨fun _ => .bool true, []⟩, tp, [])
 | _ => none
theorem gTrueY_tri {f : FuncId} (H : ∃ h' nx' d, Tri Try.prog f [] [] 0 (.bool true, h', nx', d)) : GOk Try.prog f [] gTrueY := by
 intro av tp gr tp' ob hG ho hP caps hcap
 unfold gTrueY at hG
 split at hG
 case h_2 => cases hG
 simp only [oI, pI] at hG
 obtain ⟨rfl, rfl, rfl⟩ := hG
 obtain ⟨h', nx', d, T⟩ := H
 exact ⟨_, _, _, _, fun n => n, T, GrIs.flat fun σ => rfl⟩
theorem Hd {k : IntKind} : ∀ l : List Int, all1 (l.map (Value.int k)) = true
 | [] => rfl
 | x :: l => by simp only [List.map_cons, all1, Hd l]; rfl
abbrev XFun := FuncId → List Value → Hp → Option (Value × List Prop)
def XOneZ (P : Program) (X : XFun) : Prop := ∀ f args h v ob, X f args h = some (v, ob) → Alls ob → ∀ W σ w args', Rl W σ h w → renL σ args = some args' → renV σ v = some v ∧ (callFunc f args'.toArray).run P w = .ok (.value v) w
def orXz (g k : XFun) : XFun := fun f args h => match g f args h with | some v => some v | none => k f args h
theorem orXz_ok {P : Program} {g k : XFun} (hg : XOneZ P g) (hk : XOneZ P k) : XOneZ P (orXz g k) := fun f args h v ob e => by
 unfold orXz at e
 split at e
 ·rename_i r hr; cases e; exact hg _ _ _ _ _ hr
 ·exact hk _ _ _ _ _ e
theorem XOneZ.ok {V : Tv} {P : Program} {X : XFun} (H : XOneZ P X) (h : V.X = X) : XOkZ V P := fun f args hp v ob e ho => by rw [h] at e; exact H f args hp v ob e ho
def liftX (g : FuncId → List Value → Hp → Option Value) : XFun := fun f args h => match g f args h with | some v => some (v, []) | none => none
theorem liftX_ok {P : Program} {g : FuncId → List Value → Hp → Option Value} (H : XOne P g) : XOneZ P (liftX g) := fun f args h v ob e ho => by
 unfold liftX at e
 split at e
 ·rename_i r hr; cases e; exact H _ _ _ _ hr
 ·cases e
def cmpZ : XFun := liftX (cmpX 45)
theorem cmpZ_ok : XOneZ Try.prog cmpZ := liftX_ok (cmp_one fun args w => run_callFunc_extern Try.func45 (by kernel_rfl) (by kernel_rfl) (by kernel_rfl) (e := Extern.BytealgCompare.compare) (by kernel_rfl) args w)
theorem info_size {P : Program} {t : TypeId} {n : Nat} (h0 : szB P t n = true) : ∃ i, P.info? t = some i ∧ i.size = n := by
 have h1 := szB_of h0
 cases hi : P.info? t with
 | none => rw [hi] at h1; cases h1
 | some i => rw [hi] at h1; exact ⟨i, rfl, Option.some.inj h1⟩
def ovlX : XFun := fun f args h => bif Nat.beq f 55 then (match args with
 | [.slice (some ⟨a, _, none⟩) _ _, .slice (some ⟨b, _, none⟩) _ _] => match lk h a, lk h b with
  | some ⟨.shut, _⟩, some ⟨.shut, _ :: _⟩ => bif Nat.beq a b then none else some (.bool false, [])
  | _, _ => none
 | _ => none) else none
theorem ovlX_ok : XOneZ Try.prog ovlX := by
 intro f args h v ob e ho W σ w args' hR ha
 unfold ovlX at e
 obtain ⟨hf, e1⟩ := Ba e
 clear e
 obtain rfl := Nat.eq_of_beq_eq_true hf
 clear hf
 have e := e1
 clear e1
 split at e
 case h_2 => cases e
 rename_i a oa la ca b ob' lb cb
 split at e
 case h_2 => cases e
 rename_i csa cb0 csb hla hlb
 cases hab : Nat.beq a b with
 | true => rw [hab] at e; cases e
 | false =>
  rw [hab] at e
  cases e
  refine ⟨rfl, ?_⟩
  obtain ⟨x1, l1, e1, el1, rfl⟩ := B9 ha
  obtain ⟨x2, l2, e2, el2, rfl⟩ := B9 el1
  simp only [renL, oI] at el2
  subst el2
  have na := hR.shr.1 a _ hla fun e => by cases e
  have nb := hR.shr.1 b _ hlb fun e => by cases e
  obtain ⟨p, c1, hbp, _, rfl, _⟩ : ∃ p c1, σ.b a = some p ∧ cpR σ ca = some c1 ∧ x1 = .slice (some ⟨p.1, p.2 + oa, none⟩) la c1 ∧ σ.f a ≠ none := by
   rcases B7 e1 with h | h
   ·exact h
   ·exact absurd h.1 na
  obtain ⟨q, c2, hbq, _, rfl, _⟩ : ∃ q c2, σ.b b = some q ∧ cpR σ cb = some c2 ∧ x2 = .slice (some ⟨q.1, q.2 + ob', none⟩) lb c2 ∧ σ.f b ≠ none := by
   rcases B7 e2 with h | h
   ·exact h
   ·exact absurd h.1 nb
  have hne : p.1 ≠ q.1 := fun e => by
   have := hR.inj a b _ _ p q hla hlb (fun e => by cases e) (fun e => by cases e) hbp hbq e
   subst this
   rw [Dc] at hab; cases hab
  obtain ⟨ba, sa, va, hba, hva, hs1, hs2, ta, hta⟩ := hR.row _ _ hla
  rw [hbp] at hba
  cases hba
  obtain ⟨bb, sb, vb, hbb, hvb, hs3, hs4, tb, htb⟩ := hR.row _ _ hlb
  rw [hbq] at hbb
  cases hbb
  have hvl := Bn hvb
  rw [run_callFunc_extern Try.func55 (by kernel_rfl) (by kernel_rfl) (by kernel_rfl) (e := Extern.SlicesOverlaps.overlaps #[22, 22] #[4]) (by kernel_rfl),
   Lib.run_overlaps_apart w 22 4 29 (by kernel_rfl) 3 ?_ ⟨_, _, none⟩ ⟨_, _, none⟩ la c1 lb c2 hne ta tb va.toArray.size vb.toArray.size ?_ ?_ ?_ ?_ ?_]
  ·rfl
  ·intro w'
   have hz := info_size (P := Try.prog) (t := 29) (n := 3) (by kernel_rfl)
   obtain ⟨i, hi, h3⟩ := hz
   simp [sizeOf, typeInfo, hi, h3]
  ·simp [World.shape?, hta]
  ·simp [World.shape?, htb]
  ·have : vb.length = csb.length + 1 := by simpa using hvl
   simp [this]
  ·exact frozen_of_row w _ _ _ ta hta
  ·exact frozen_of_row w _ _ _ ta hta
def mtX : XFun := orXz cmpZ ovlX
theorem mtX_ok : XOneZ Try.prog mtX := orXz_ok cmpZ_ok ovlX_ok
def BytI (n : Nat) (cs : List Value) : Prop := cs = (B1 cs).map (Value.int .u8) ∧ (∀ x ∈ B1 cs, 0 ≤ x ∧ x < 256) ∧ cs.length = n
theorem intsV_of : ∀ {l : List Int}, (∀ x ∈ l, 0 ≤ x ∧ x < 256) → Lu l.length (l.map (Value.int .u8)) = some l
 | [], _ => rfl
 | x :: l, h => by
   have ih := intsV_of (l := l) fun y hy => h y (List.mem_cons_of_mem _ hy)
   have hx := h x (List.mem_cons_self ..)
   simp only [List.length_cons, List.map_cons, Lu, hx, and_self, decide_true, cond_true, ih]
theorem BytI.bytes {h : Hp} {a n c : Nat} {r : Rw} (hl : lk h a = some r) (hb : BytI n r.cs) : Ll h (.slice (some ⟨a, 0, none⟩) n c) = some (B1 r.cs) := by
 obtain ⟨h1, h2, h3⟩ := hb
 have e : (B1 r.cs).length = n := by
  have := congrArg List.length h1
  rw [List.length_map] at this
  omega
 have := intsV_of h2
 rw [e, ← h1] at this
 simp only [Ll, hl, List.drop_zero, this]
def cmpY : XFun := fun f args h => bif Nat.beq f 45 then (match args with
 | [.slice (some ⟨a, 0, none⟩) n c, .slice (some ⟨b, 0, none⟩) m d] => match lk h a, lk h b with
  | some r, some s => some (.int .i64 (cmpI (B1 r.cs) (B1 s.cs)), [BytI n r.cs, BytI m s.cs])
  | _, _ => none
 | _ => none) else none
theorem Ei : XOneZ Try.prog cmpY := by
 intro f args h v ob e ho
 unfold cmpY at e
 obtain ⟨hf, e1⟩ := Ba e
 clear e
 split at e1
 case h_2 => cases e1
 rename_i a n c b m d
 split at e1
 case h_2 => cases e1
 rename_i r s hl hm
 simp only [oI, pI] at e1
 obtain ⟨rfl, rfl⟩ := e1
 obtain ⟨g1, g2, _⟩ := ho
 exact cmp_one (f0 := 45) (fun args w => run_callFunc_extern Try.func45 (by kernel_rfl) (by kernel_rfl) (by kernel_rfl) (e := Extern.BytealgCompare.compare) (by kernel_rfl) args w) f _ h _ (by
  simp only [cmpX, hf, cond_true, g1.bytes hl, g2.bytes hm])

def zPr : List Value := [.slice none 0 0, .slice none 0 0, .bool false]
def dpV (n : Nat) : Value := .slice (some ⟨80, 0, none⟩) n (B0 + 80)
def iV (i : Nat) : Value := .int .i64 (i : Int)
abbrev Pr : Type := List Int × List Int × Bool
def byD (l : List Int) : List DV := l.map fun x => .fl (.int .u8 x)
def byV (l : List Int) : List Value := l.map (Value.int .u8)
def prD (c1 c2 : Option Nat) (p : Pr) : List DV := [.sl p.1.length c1 (byD p.1), .sl p.2.1.length c2 (byD p.2.1), .fl (.bool p.2.2)]
def Prs : List DV → List Pr → Prop
 | ds, [] => ds = []
 | ds, p :: ps => ∃ c1 c2 r, ds = prD c1 c2 p ++ r ∧ Prs r ps
def PrOk (p : Pr) : Prop := (∀ x ∈ p.1, 0 ≤ x ∧ x < 256) ∧ ∀ x ∈ p.2.1, 0 ≤ x ∧ x < 256
theorem Prs.len : ∀ {ps : List Pr} {ds : List DV}, Prs ds ps → ds.length = ps.length * 3
 | [], ds, h => by rw [show ds = [] from h]; rfl
 | p :: ps, ds, h => by
   obtain ⟨c1, c2, r, rfl, hr⟩ := h
   rw [List.length_append, hr.len, List.length_cons]
   simp only [prD, List.length_cons, List.length_nil]
   omega
theorem Prs.at : ∀ {ps : List Pr} {ds : List DV} {i : Nat} {p : Pr}, Prs ds ps → ps[i]? = some p → ∃ c1 c2, ds[i * 3]? = some (.sl p.1.length c1 (byD p.1)) ∧ ds[i * 3 + 1]? = some (.sl p.2.1.length c2 (byD p.2.1)) ∧ ds[i * 3 + 2]? = some (.fl (.bool p.2.2))
 | [], ds, i, p, _, h => by simp at h
 | q :: ps, ds, 0, p, h, hp => by
   simp only [List.getElem?_cons_zero, oI] at hp
   subst hp
   obtain ⟨c1, c2, r, rfl, hr⟩ := h
   exact ⟨c1, c2, rfl, rfl, rfl⟩
 | q :: ps, ds, i + 1, p, h, hp => by
   obtain ⟨c1, c2, r, rfl, hr⟩ := h
   obtain ⟨d1, d2, g1, g2, g3⟩ := hr.at (by simpa using hp)
   have e : (prD c1 c2 q).length = 3 := rfl
   refine ⟨d1, d2, ?_, ?_, ?_⟩
   ·rw [List.getElem?_append_right (by rw [e]; omega), e, show (i + 1) * 3 - 3 = i * 3 by omega]; exact g1
   ·rw [List.getElem?_append_right (by rw [e]; omega), e, show (i + 1) * 3 + 1 - 3 = i * 3 + 1 by omega]; exact g2
   ·rw [List.getElem?_append_right (by rw [e]; omega), e, show (i + 1) * 3 + 2 - 3 = i * 3 + 2 by omega]; exact g3
theorem byD_val (l : List Int) : (byD l).map DV.val = byV l := by simp [byD, byV, DV.val]
theorem Hr (l : List Int) : (byV l).map DV.fl = byD l := by simp [byD, byV]
theorem Bz (l : List Int) : (byV l).length = l.length := by simp [byV]
theorem C1 (l : List Int) : B1 (byV l) = l := by
 unfold byV B1
 rw [List.map_map]
 exact (List.map_congr_left (g := id) fun x _ => rfl).trans (List.map_id l)
theorem Cm (l : List Int) (τ : Sg) : renL τ (byV l) = some (byV l) := Fl.ints .u8 l τ
theorem Ep {l : List Int} (h : ∀ x ∈ l, 0 ≤ x ∧ x < 256) : BytI l.length (byV l) := ⟨by rw [C1]; rfl, by rw [C1]; exact h, Bz l⟩
section
variable {ds : List DV} {o : Nat} {l : List Int} {c : Option Nat}
theorem Jz (h : ds[o]? = some (.sl l.length c (byD l))) : dLen ds o = l.length := by unfold dLen; rw [h]
theorem Kc (h : ds[o]? = some (.sl l.length c (byD l))) : B4 ds o = byV l := by unfold B4 dSub; rw [h]; exact byD_val l
theorem sl_ok (h : ds[o]? = some (.sl l.length c (byD l))) : DSl ds o (dLen ds o) none ((B4 ds o).map DV.fl) := ⟨c, by rw [Jz h, Kc h, Hr]; exact h, .inl rfl⟩
theorem bo_ok {b : Bool} (h : ds[o]? = some (.fl (.bool b))) : Dx ds o = b := by unfold Dx; rw [h]
end
theorem ob29 (ds : List DV) (o nx : Nat) : ShOb Try.prog 29 false true ds o nx = Alls [DSl ds (o + 0) (dLen ds (o + 0)) none ((B4 ds (o + 0)).map DV.fl), DSl ds (o + 1) (dLen ds (o + 1)) none ((B4 ds (o + 1)).map DV.fl), ds[o + 2]? = some (.fl (.bool (Dx ds (o + 2))))] := by kernel_rfl
theorem ob27 (ds : List DV) (o nx : Nat) : ShOb Try.prog 27 false true ds o nx = Alls [DSl ds (o + 0) (dLen ds (o + 0)) none ((B4 ds (o + 0)).map DV.fl)] := by kernel_rfl
theorem ob4 (ds : List DV) (o nx : Nat) : ShOb Try.prog 4 false true ds o nx = Alls [ds[o + 0]? = some (.fl (.bool (Dx ds (o + 0))))] := by kernel_rfl
structure PrAt (ds : List DV) (i : Nat) (p : Pr) : Prop where
 l0 : dLen ds (i * 3) = p.1.length
 l1 : dLen ds (i * 3 + 1) = p.2.1.length
 v0 : B4 ds (i * 3) = byV p.1
 v1 : B4 ds (i * 3 + 1) = byV p.2.1
 g : Dx ds (i * 3 + 2) = p.2.2
 o29 : ∀ nx, ShOb Try.prog 29 false true ds (i * 3) nx
 o27 : ∀ nx, ShOb Try.prog 27 false true ds (i * 3) nx
 o27' : ∀ nx, ShOb Try.prog 27 false true ds (i * 3 + 1) nx
 o4 : ∀ nx, ShOb Try.prog 4 false true ds (i * 3 + 2) nx
theorem Prs.facts {ds : List DV} {ps : List Pr} {i : Nat} {p : Pr} (h : Prs ds ps) (hp : ps[i]? = some p) : PrAt ds i p := by
 obtain ⟨c1, c2, g1, g2, g3⟩ := h.at hp
 have e3 := bo_ok g3
 refine ⟨Jz g1, Jz g2, Kc g1, Kc g2, e3, fun nx => ?_, fun nx => ?_, fun nx => ?_, fun nx => ?_⟩
 ·rw [ob29]
  exact ⟨sl_ok g1, sl_ok g2, by rw [e3]; exact g3, trivial⟩
 ·rw [ob27]; exact ⟨sl_ok g1, trivial⟩
 ·rw [ob27]; exact ⟨sl_ok g2, trivial⟩
 ·rw [ob4]; exact ⟨by simp only [Nat.add_zero]; rw [e3]; exact g3, trivial⟩
theorem Cx {lo N : Nat} {ρ : Nat → Nat} {h0 h1 : Hp} {n m : Nat} {ds : List DV} (hn : fnN lo N ρ n = some m) (hl : lk h1 m = some ⟨.sd ds, []⟩) : He lo N ρ h0 h1 n ⟨.sd ds, []⟩ := J4 hn hl trivial
theorem Ch {lo N : Nat} {ρ : Nat → Nat} {h0 h1 : Hp} {n m sz : Nat} {z : List Value} {ds : List DV} (hn : fnN lo N ρ n = some m) (hl : lk h1 m = some ⟨.dp sz z ds, []⟩) : He lo N ρ h0 h1 n ⟨.dp sz z ds, []⟩ := J4 hn hl trivial
def big (p : Pr) : Bool := decide (200 < p.1.length) || decide (200 < p.2.1.length)
def cpD (ps : List Pr) : List DV := ps.flatMap (prD none none)
theorem H2 : ∀ ps : List Pr, Prs (cpD ps) ps
 | [] => rfl
 | p :: ps => ⟨none, none, cpD ps, rfl, H2 ps⟩
theorem cpD_snoc (ps : List Pr) (p : Pr) : cpD (ps ++ [p]) = cpD ps ++ prD none none p := by simp [cpD]
theorem strEq_self (s : ByteArray) : Cp s s = true := by unfold Cp; exact beq_self_eq_true _
theorem I7 : ∀ (l m : List Int), (∀ x ∈ l, 0 ≤ x ∧ x < 256) → (∀ x ∈ m, 0 ≤ x ∧ x < 256) → Op.bytesLess (l.map fun n => UInt8.ofNat n.toNat) (m.map fun n => UInt8.ofNat n.toNat) = !decide (cmpI l m ≥ 0)
 | [], [], _, _ => rfl
 | [], _ :: _, _, _ => rfl
 | _ :: _, [], _, _ => rfl
 | a :: l, b :: m, hl, hm => by
   have ih := I7 l m (fun x h => hl x (by simp [h])) (fun x h => hm x (by simp [h]))
   have ha := hl a (by simp)
   have hb := hm b (by simp)
   have h1 := u8_lt ha hb
   have e : (UInt8.ofNat a.toNat == UInt8.ofNat b.toNat) = decide (a = b) := by
    have h2 := u8_lt hb ha
    have : (UInt8.ofNat a.toNat = UInt8.ofNat b.toNat) ↔ a = b := by
     constructor
     ·intro e
      have h3 : ¬ (a < b) := by rw [← h1]; show ¬ (UInt8.ofNat a.toNat < UInt8.ofNat b.toNat); rw [e]; exact fun h => absurd (UInt8.lt_iff_toNat_lt.1 h) (Nat.lt_irrefl _)
      have h4 : ¬ (b < a) := by rw [← h2]; show ¬ (UInt8.ofNat b.toNat < UInt8.ofNat a.toNat); rw [e]; exact fun h => absurd (UInt8.lt_iff_toNat_lt.1 h) (Nat.lt_irrefl _)
      omega
     ·intro e; rw [e]
    by_cases h : a = b
    ·simp [h]
    ·have h' : ¬ (UInt8.ofNat a.toNat = UInt8.ofNat b.toNat) := fun e => h (this.1 e)
     simp [h, h']
   have h1' : (UInt8.ofNat a.toNat < UInt8.ofNat b.toNat) = (a < b) := h1
   simp only [List.map_cons, Op.bytesLess, cmpI, e, h1', ih]
   by_cases h2 : a < b
   ·simp [h2]
   ·by_cases h3 : b < a
    ·have : ¬ a = b := by omega
     simp [h2, h3, this]
    ·have : a = b := by omega
     simp [h2, h3, this]
def asc : List Pr → Bool
 | p :: q :: l => !decide (cmpI p.1 q.1 ≥ 0) && asc (q :: l)
 | _ => true
end Go.Proofs.Ytojakfnljopjbaa
