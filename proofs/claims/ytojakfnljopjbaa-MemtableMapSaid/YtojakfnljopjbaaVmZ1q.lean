/-
  The told machine, part Za: operations at data that is not known cell by cell; what they ask for is handed back, to be proved afterwards.
-/
import Derived.Test.YtojakfnljopjbaaVmTq
import Derived.IntWalk
import Derived.Laws.Bits64
namespace Go.Proofs.Ytojakfnljopjbaa
set_option linter.unusedSimpArgs false
set_option linter.unusedVariables false
set_option linter.unusedSectionVars false
open Go Go.RowKit

/-- A run's end: none; it asks for a test; its value. -/
inductive Res (α : Type) where
  | no
  | ask (b : Bool)
  | ok (a : α)
/-- What is to be proved. -/
def Alls : List Prop → Prop
  | [] => True
  | p :: l => p ∧ Alls l
theorem Alls_app : ∀ {a b : List Prop}, Alls (a ++ b) ↔ Alls a ∧ Alls b
  | [], b => by simp [Alls]
  | p :: a, b => by simp [Alls, Alls_app, and_assoc]

/-! ### sums and the like, short where one side is known -/
def mlN (n s : Nat) : Nat := bif Nat.beq s 1 then n else n * s
def adN (o m : Nat) : Nat := bif Nat.beq o 0 then m else o + m
def sbN (h l : Nat) : Nat := bif Nat.beq l 0 then h else h - l
def tkD {α : Type} (o m : Nat) (cs : List α) : List α := bif Nat.beq o 0 then cs.take m else (cs.drop o).take m
theorem mlN_eq (n s : Nat) : mlN n s = n * s := by
  unfold mlN
  cases h : Nat.beq s 1
  · rfl
  · rw [Nat.eq_of_beq_eq_true h]; simp
theorem adN_eq (o m : Nat) : adN o m = o + m := by
  unfold adN
  cases h : Nat.beq o 0
  · rfl
  · rw [Nat.eq_of_beq_eq_true h]; simp
theorem sbN_eq (o m : Nat) : sbN o m = o - m := by
  unfold sbN
  cases h : Nat.beq m 0
  · rfl
  · rw [Nat.eq_of_beq_eq_true h]; simp
theorem tkD_eq {α : Type} (o m : Nat) (cs : List α) : tkD o m cs = (cs.drop o).take m := by
  unfold tkD
  cases h : Nat.beq o 0
  · rfl
  · rw [Nat.eq_of_beq_eq_true h]; simp
/-! ### cells by their place -/
def intAt (cs : List Value) (o : Nat) : Int := match cs[o]? with | some (.int _ n) => n | _ => 0
def boolAt (cs : List Value) (o : Nat) : Bool := match cs[o]? with | some (.bool b) => b | _ => false
def strAt (cs : List Value) (o : Nat) : ByteArray := match cs[o]? with | some (.string s) => s | _ => ByteArray.empty
def shp : Value → List Value → Nat → Option Value
  | .int k _, cs, o => some (.int k (intAt cs o))
  | .bool _, cs, o => some (.bool (boolAt cs o))
  | .string _, cs, o => some (.string (strAt cs o))
  | .slice none _ _, cs, o => some (cs.getD o undef)
  | _, _, _ => none
def shpL : List Value → List Value → Nat → Option (List Value)
  | [], _, _ => some []
  | z :: zs, cs, o => match shp z cs o, shpL zs cs (o + 1) with | some v, some l => some (v :: l) | _, _ => none
def ldZ (P : Program) (t : TypeId) (cs : List Value) (o : Nat) : Option (Value × Prop) :=
  match P.underlying t, P.info? t with
  | some d, some i => match i.zero with
    | some z => bif d.isRow then (match shpL z.cells.toList cs o with
        | some l => bif Nat.beq l.length i.size then some (.agg ⟨l⟩, (cs.drop o).take i.size = l) else none
        | none => none)
      else (match shp z cs o with | some v => some (v, cs[o]? = some v) | none => none)
    | none => none
  | _, _ => none
theorem ldZ_ok {P : Program} {t : TypeId} {cs : List Value} {o : Nat} {v : Value} {p : Prop} (h : ldZ P t cs o = some (v, p)) (hp : p) : loadV P t cs o = some v ∧ partV P t cs o = some v := by
  unfold ldZ at h
  unfold loadV partV
  split at h
  · rename_i d i hu hi
    rw [hu]
    simp only [hi]
    split at h
    · rename_i z hz
      rcases bif_or h with ⟨hd, h⟩ | ⟨hd, h⟩
      · rw [hd]
        simp only [cond_true]
        split at h
        · rename_i l hl
          obtain ⟨hb, h⟩ := bif_of h
          simp only [Option.some.injEq, Prod.mk.injEq] at h
          obtain ⟨rfl, rfl⟩ := h
          simp only [frc_eq, hp, hb, cond_true, and_self]
        · cases h
      · rw [hd]
        simp only [cond_false]
        split at h
        · simp only [Option.some.injEq, Prod.mk.injEq] at h
          obtain ⟨rfl, rfl⟩ := h
          exact ⟨hp, hp⟩
        · cases h
    · cases h
  · cases h

/-- As ldZ; a slice is nil. -/
def shpN : Value → List Value → Nat → Option Value
  | .int k _, cs, o => some (.int k (intAt cs o))
  | .bool _, cs, o => some (.bool (boolAt cs o))
  | .string _, cs, o => some (.string (strAt cs o))
  | .slice none _ _, _, _ => some (.slice none 0 0)
  | _, _, _ => none
def shpNL : List Value → List Value → Nat → Option (List Value)
  | [], _, _ => some []
  | z :: zs, cs, o => match shpN z cs o, shpNL zs cs (o + 1) with | some v, some l => some (v :: l) | _, _ => none
def ldN (P : Program) (t : TypeId) (cs : List Value) (o : Nat) : Option (Value × Prop) :=
  match P.underlying t, P.info? t with
  | some d, some i => match i.zero with
    | some z => bif d.isRow then (match shpNL z.cells.toList cs o with
        | some l => bif Nat.beq l.length i.size then some (.agg ⟨l⟩, (cs.drop o).take i.size = l) else none
        | none => none)
      else (match shpN z cs o with | some v => some (v, cs[o]? = some v) | none => none)
    | none => none
  | _, _ => none
theorem ldN_ok {P : Program} {t : TypeId} {cs : List Value} {o : Nat} {v : Value} {p : Prop} (h : ldN P t cs o = some (v, p)) (hp : p) : loadV P t cs o = some v ∧ partV P t cs o = some v := by
  unfold ldN at h
  unfold loadV partV
  split at h
  · rename_i d i hu hi
    rw [hu]
    simp only [hi]
    split at h
    · rename_i z hz
      rcases bif_or h with ⟨hd, h⟩ | ⟨hd, h⟩
      · rw [hd]
        simp only [cond_true]
        split at h
        · rename_i l hl
          obtain ⟨hb, h⟩ := bif_of h
          simp only [Option.some.injEq, Prod.mk.injEq] at h
          obtain ⟨rfl, rfl⟩ := h
          simp only [frc_eq, hp, hb, cond_true, and_self]
        · cases h
      · rw [hd]
        simp only [cond_false]
        split at h
        · simp only [Option.some.injEq, Prod.mk.injEq] at h
          obtain ⟨rfl, rfl⟩ := h
          exact ⟨hp, hp⟩
        · cases h
    · cases h
  · cases h
def ldM (P : Program) (md : Nat) (t : TypeId) (cs : List Value) (o : Nat) : Option (Value × Prop) := bif Nat.beq md 5 then ldN P t cs o else ldZ P t cs o
theorem ldM_ok {P : Program} {md : Nat} {t : TypeId} {cs : List Value} {o : Nat} {v : Value} {p : Prop} (h : ldM P md t cs o = some (v, p)) (hp : p) : loadV P t cs o = some v ∧ partV P t cs o = some v := by
  unfold ldM at h
  rcases bif_or h with ⟨_, h⟩ | ⟨_, h⟩
  · exact ldN_ok h hp
  · exact ldZ_ok h hp

/-! ### bounds -/
def bdZ (v : Option Value) (d top : Nat) : Option (Nat × List Prop) :=
  match v with
  | none => some (d, [])
  | some (.int _ i) => some (i.toNat, [0 ≤ i ∧ i ≤ (top : Int)])
  | _ => none
theorem bdZ_ok {v : Option Value} {d top r : Nat} {ob : List Prop} (h : bdZ v d top = some (r, ob)) (ho : Alls ob) : bdV v d top = some r := by
  unfold bdZ at h
  unfold bdV
  split at h
  · simp only [Option.some.injEq, Prod.mk.injEq] at h; simp [h.1]
  · rename_i k i
    simp only [Option.some.injEq, Prod.mk.injEq] at h
    obtain ⟨rfl, rfl⟩ := h
    simp only [decide_eq_true ho.1, cond_true]
  · cases h
def bdsZ (len cap : Nat) (lo hi mx : Option Value) : Option ((Nat × Nat × Nat) × List Prop) :=
  match bdZ mx cap cap with
  | none => none
  | some (m, o1) => match hi, mx with
    | none, some _ => none
    | _, _ => match bdZ hi len m with
      | none => none
      | some (h, o2) => match bdZ lo 0 h with
        | none => none
        | some (l, o3) => some ((l, h, m), o1 ++ (o2 ++ o3))
theorem bdsZ_ok {len cap : Nat} {lo hi mx : Option Value} {q : Nat × Nat × Nat} {ob : List Prop} (h : bdsZ len cap lo hi mx = some (q, ob)) (ho : Alls ob) : bdsV len cap lo hi mx = some q := by
  unfold bdsZ at h
  unfold bdsV
  split at h
  · cases h
  · rename_i m o1 h1
    split at h
    · cases h
    · rename_i hno
      split at h
      · cases h
      · rename_i hh o2 h2
        split at h
        · cases h
        · rename_i l o3 h3
          simp only [Option.some.injEq, Prod.mk.injEq] at h
          obtain ⟨rfl, rfl⟩ := h
          obtain ⟨a1, a2⟩ := Alls_app.1 ho
          obtain ⟨a2, a3⟩ := Alls_app.1 a2
          have e2 := bdZ_ok h2 a2
          have e3 := bdZ_ok h3 a3
          rw [bdZ_ok h1 a1]
          cases hi with
          | none =>
            cases mx with
            | none => simp only [e2, e3]
            | some x => exact (hno _ rfl rfl).elim
          | some y => simp only [e2, e3]
/-- Where a cut begins. -/
def slO (o l m s : Nat) : Nat := bif Nat.beq m l then o else o + l * s
theorem slO_ad {n o l m s : Nat} : adAdd n o l m s = ⟨n, slO o l m s, none⟩ := by
  unfold adAdd slO
  cases Nat.beq m l <;> rfl
def loO (lo : Option Value) (o l m s : Nat) : Nat := match lo with | none => o | some _ => slO o l m s
theorem loO_eq {lo : Option Value} {o l m s : Nat} (h : lo = none → l = 0) : slO o l m s = loO lo o l m s := by
  cases lo with
  | none => rw [h rfl]; unfold slO loO; cases Nat.beq m 0 <;> simp
  | some _ => rfl
theorem bdsV_lo {len cap l h m : Nat} {hi mx : Option Value} (hb : bdsV len cap none hi mx = some (l, h, m)) : l = 0 := by
  unfold bdsV at hb
  split at hb
  · cases hb
  · split at hb
    · cases hb
    · split at hb
      · cases hb
      · split at hb
        · cases hb
        · rename_i h3
          simp only [Option.some.injEq, Prod.mk.injEq] at hb
          have := bdV_none h3
          omega
theorem blt_of {a b : Nat} (h : a < b) : Nat.blt a b = true := Nat.ble_eq_true_of_le h
def slZ (P : Program) (t : TypeId) (x : Value) (lo hi mx : Option Value) : Option (Value × List Prop) :=
  match P.underlying t, x with
  | some (.slice e), .slice a len cap => match P.info? e with
    | none => none
    | some i => match bdsZ len cap lo hi mx with
      | none => none
      | some ((l, h, m), ob) => match a with
        | none => some (.slice none (sbN h l) (sbN m l), (cap < capBig) :: ob)
        | some ⟨n, o, none⟩ => some (.slice (some ⟨n, loO lo o l m i.size, none⟩) (sbN h l) (sbN m l), (cap < capBig) :: ob)
        | _ => none
  | some .string, .string s => match mx with
    | some _ => none
    | none => match bdsZ s.data.toList.length s.data.toList.length lo hi none with
      | none => none
      | some ((l, h, _), ob) => some (.string ⟨((s.data.toList.drop l).take (h - l)).toArray⟩, ob)
  | some (.array n e), .pointer (some ⟨b, o, none⟩) => match P.info? e with
    | none => none
    | some i => match bdsZ n n lo hi mx with
      | none => none
      | some ((l, h, m), ob) => bif Nat.blt n capBig then some (.slice (some ⟨b, loO lo o l m i.size, none⟩) (sbN h l) (sbN m l), ob) else none
  | _, _ => none
theorem slZ_ok {P : Program} {t : TypeId} {x v : Value} {lo hi mx : Option Value} {ob : List Prop} (h : slZ P t x lo hi mx = some (v, ob)) (ho : Alls ob) : slV P t x lo hi mx = some v := by
  unfold slZ at h
  unfold slV
  split at h
  · rename_i e a len cap hu
    rw [hu]
    simp only
    split at h
    · cases h
    · rename_i i hi
      rw [hi]
      simp only
      split at h
      · cases h
      · rename_i l hh m ob' hb
        split at h
        · simp only [Option.some.injEq, Prod.mk.injEq] at h
          obtain ⟨rfl, rfl⟩ := h
          rw [bdsZ_ok hb ho.2, blt_of ho.1]
          simp only [cond_true, sbN_eq]
        · rename_i n o
          simp only [Option.some.injEq, Prod.mk.injEq] at h
          obtain ⟨rfl, rfl⟩ := h
          have hbv := bdsZ_ok hb ho.2
          rw [hbv, blt_of ho.1]
          simp only [cond_true, slO_ad, sbN_eq]
          rw [loO_eq (lo := lo) (fun e => by subst e; exact bdsV_lo hbv)]
        · cases h
  · rename_i s hu
    rw [hu]
    simp only
    split at h
    · cases h
    · split at h
      · cases h
      · rename_i l hh m ob' hb
        simp only [Option.some.injEq, Prod.mk.injEq] at h
        obtain ⟨rfl, rfl⟩ := h
        rw [bdsZ_ok hb ho]
  · rename_i n e b o hu
    rw [hu]
    simp only
    split at h
    · cases h
    · rename_i i hi
      rw [hi]
      simp only
      split at h
      · cases h
      · rename_i l hh m ob' hb
        obtain ⟨hc, h⟩ := bif_of h
        simp only [Option.some.injEq, Prod.mk.injEq] at h
        obtain ⟨rfl, rfl⟩ := h
        have hbv := bdsZ_ok hb ho
        rw [hbv, hc]
        simp only [cond_true, slO_ad, sbN_eq]
        rw [loO_eq (lo := lo) (fun e => by subst e; exact bdsV_lo hbv)]
  · cases h

/-! ### what a slice yields -/
def intsOf (cs : List Value) : List Int := cs.map fun | .int _ n => n | _ => 0
theorem bytesOf_map : ∀ ns : List Int, bytesOf (ns.map (Value.int .u8)) = some ns
  | [] => rfl
  | n :: ns => by simp only [List.map_cons, bytesOf, byOf, bytesOf_map ns]
def srcZ (P : Program) (h : Hp) (size : Nat) (tx : TypeId) (x : Value) : Option (Nat × List Value × List Prop) :=
  match P.underlying tx, x with
  | some (.slice _), .slice none n _ => bif Nat.beq n 0 then some (0, [], []) else none
  | some (.slice _), .slice (some ⟨m, o, none⟩) n _ => match lk h m with
    | some r => some (n, tkD o (mlN n size) r.cs, [adN o (mlN n size) ≤ r.cs.length, all1 (tkD o (mlN n size) r.cs) = true])
    | none => none
  | some .string, .string s => bif Nat.beq size 1 then some (s.data.toList.length, s.data.toList.map fun b => Value.int .u8 b.toNat, []) else none
  | _, _ => none
theorem cellsAt_of {h : Hp} {n o len : Nat} {r : Rw} (hl : lk h n = some r) (hle : o + len ≤ r.cs.length) : cellsAt h n o len = some ((r.cs.drop o).take len) := by
  unfold cellsAt
  rw [hl]
  simp only [Nat.ble_eq_true_of_le hle, cond_true]
theorem srcZ_ok {P : Program} {h : Hp} {size : Nat} {tx : TypeId} {x : Value} {n : Nat} {cs : List Value} {ob : List Prop} (hs : srcZ P h size tx x = some (n, cs, ob)) (ho : Alls ob) : srcV P h size tx x = some (n, cs) := by
  unfold srcZ at hs
  unfold srcV
  split at hs
  · rename_i e n' c hu
    rw [hu]
    obtain ⟨hb, hs⟩ := bif_of hs
    simp only [Option.some.injEq, Prod.mk.injEq] at hs
    obtain ⟨rfl, rfl, rfl⟩ := hs
    simp only [hb, cond_true]
  · rename_i e m o n' c hu
    rw [hu]
    simp only
    split at hs
    · rename_i r hl
      simp only [Option.some.injEq, Prod.mk.injEq] at hs
      obtain ⟨rfl, rfl, rfl⟩ := hs
      have h1 := ho.1
      have h2 := ho.2.1
      simp only [adN_eq, mlN_eq, tkD_eq] at h1 h2 ⊢
      rw [cellsAt_of hl h1]
      simp only [h2, cond_true]
    · cases hs
  · rename_i s hu
    rw [hu]
    obtain ⟨hb, hs⟩ := bif_of hs
    simp only [Option.some.injEq, Prod.mk.injEq] at hs
    obtain ⟨rfl, rfl, rfl⟩ := hs
    simp only [hb, cond_true]
  · cases hs

/-! ### append, copy -/
/-- Modes: 0 (nil and something, or a row that has grown), 1 (within the capacity), 2 (beyond it), 4 (nil and nothing). -/
def apZ (P : Program) (md : Nat) (h : Hp) (nx : Nat) (t tx : TypeId) (s x : Value) : Option (Out × List Prop) :=
  match P.underlying t with
  | some (.slice e) => match P.info? e with
    | some i => match srcZ P h i.size tx x with
      | some (n, news, ob) => match i.zero with
        | some z => bif Nat.beq z.cells.toList.length i.size && Nat.ble 1 i.size then (match s with
          | .slice none len cap => bif Nat.beq len 0 && Nat.beq cap 0 then (bif Nat.beq md 4 then some ((.slice none 0 0, h, nx, []), (n = 0) :: ob) else
              some ((.slice (some ⟨nx, 0, none⟩) n (capBig + nx), (nx, ⟨.room i.size z.cells.toList, news⟩) :: h, nx + 1, []), (n ≠ 0) :: (n * i.bytes ≤ 140737488355328 ∧ n ≤ 9223372036854775807) :: ob)) else none
          | .slice (some ⟨m, o, none⟩) len cap => match lk h m with
            | some r => bif Nat.beq md 1 then
                some ((.slice (some ⟨m, o, none⟩) (len + n) cap, setH h m ⟨r.kd, splice r.cs (adN o (mlN len i.size)) news⟩, nx, [m]), (cap < capBig) :: (len + n ≤ cap) :: (isOwn r.kd = true) :: (adN o (mlN len i.size) + news.length ≤ r.cs.length) :: ob)
              else bif Nat.beq md 2 then
                some ((.slice (some ⟨nx, 0, none⟩) (len + n) (capBig + nx), (nx, ⟨.room i.size z.cells.toList, tkD o (mlN len i.size) r.cs ++ news⟩) :: h, nx + 1, []), (cap < capBig) :: (cap < len + n) :: (adN o (mlN len i.size) ≤ r.cs.length) :: ((len + n) * i.bytes ≤ 140737488355328 ∧ len + n ≤ 9223372036854775807) :: ob)
              else match roomSz r.kd with
                | some (sz, zz) => bif Nat.beq o 0 && (Nat.beq sz i.size && beqZL zz z.cells.toList) then some ((.slice (some ⟨nx, 0, none⟩) (len + n) (capBig + nx), (nx, ⟨.room i.size z.cells.toList, r.cs ++ news⟩) :: delH h m, nx + 1, [m]), (cap = capBig + m) :: (r.cs.length = mlN len i.size) :: ((len + n) * i.bytes ≤ 140737488355328 ∧ len + n ≤ 9223372036854775807) :: ob) else none
                | none => none
            | none => none
          | _ => none) else none
        | none => none
      | none => none
    | none => none
  | _ => none
theorem nbeq_rfl (a : Nat) : Nat.beq a a = true := nbeq_eq rfl
theorem nbeq_false {a b : Nat} (h : a ≠ b) : Nat.beq a b = false := nbeq_ne h
theorem nble_false {a b : Nat} (h : b < a) : Nat.ble a b = false := by
  cases hb : Nat.ble a b with
  | false => rfl
  | true => exact absurd (Nat.le_of_ble_eq_true hb) (by omega)
theorem apZ_ok {P : Program} {md : Nat} {h : Hp} {nx : Nat} {t tx : TypeId} {s x : Value} {out : Out} {ob : List Prop} (hs : apZ P md h nx t tx s x = some (out, ob)) (ho : Alls ob) : appV P h nx t tx s x = some out := by
  unfold apZ at hs
  unfold appV
  split at hs
  case h_2 => cases hs
  rename_i e hu
  rw [hu]
  simp only
  split at hs
  case h_2 => cases hs
  rename_i i hi
  rw [hi]
  simp only
  split at hs
  case h_2 => cases hs
  rename_i n news ob' hsrc
  split at hs
  case h_2 => cases hs
  rename_i z hz
  obtain ⟨hg, hs⟩ := bif_of hs
  split at hs
  · rename_i len cap
    obtain ⟨hg2, hs⟩ := bif_of hs
    rcases bif_or hs with ⟨_, hs⟩ | ⟨_, hs⟩
    · simp only [Option.some.injEq, Prod.mk.injEq] at hs
      obtain ⟨rfl, rfl⟩ := hs
      rw [srcZ_ok hsrc ho.2]
      have h0 : n = 0 := ho.1
      subst h0
      simp only [hz, hg, hg2, cond_true, nbeq_rfl]
    · simp only [Option.some.injEq, Prod.mk.injEq] at hs
      obtain ⟨rfl, rfl⟩ := hs
      rw [srcZ_ok hsrc ho.2.2]
      simp only [hz, hg, hg2, cond_true, nbeq_false ho.1, cond_false, Nat.ble_eq_true_of_le ho.2.1.1, Nat.ble_eq_true_of_le ho.2.1.2, Bool.and_self]
  · rename_i m o len cap hs0
    clear hs0
    split at hs
    case h_2 => cases hs
    rename_i r hl
    rcases bif_or hs with ⟨_, hs⟩ | ⟨_, hs⟩
    · simp only [Option.some.injEq, Prod.mk.injEq] at hs
      obtain ⟨rfl, rfl⟩ := hs
      obtain ⟨h1, h2, h3, h4, h5⟩ := ho
      rw [srcZ_ok hsrc h5]
      simp only [adN_eq, mlN_eq] at h4 ⊢
      simp only [hz, hg, cond_true, blt_of h1, Nat.ble_eq_true_of_le h2, hl, h3, Nat.ble_eq_true_of_le h4, Bool.and_self]
    · rcases bif_or hs with ⟨_, hs⟩ | ⟨_, hs⟩
      · simp only [Option.some.injEq, Prod.mk.injEq] at hs
        obtain ⟨rfl, rfl⟩ := hs
        obtain ⟨h1, h2, h3, h4, h5⟩ := ho
        rw [srcZ_ok hsrc h5]
        simp only [adN_eq, mlN_eq, tkD_eq] at h3 ⊢
        simp only [hz, hg, cond_true, blt_of h1, nble_false h2, cond_false, cellsAt_of hl h3, Nat.ble_eq_true_of_le h4.1, Nat.ble_eq_true_of_le h4.2, Bool.and_self]
      · split at hs
        case h_2 => cases hs
        rename_i sz zz hsz
        obtain ⟨hg2, hs⟩ := bif_of hs
        simp only [Option.some.injEq, Prod.mk.injEq] at hs
        obtain ⟨rfl, rfl⟩ := hs
        obtain ⟨h1, h2, h4, h5⟩ := ho
        rw [srcZ_ok hsrc h5]
        subst h1
        rw [mlN_eq] at h2
        simp only [Bool.and_eq_true] at hg2
        have hb : Nat.blt (capBig + m) capBig = false := nble_false (by omega)
        simp only [hz, hg, cond_true, hb, cond_false, hl, hsz, nbeq_rfl, hg2.1, hg2.2.1, hg2.2.2, h2, Nat.ble_eq_true_of_le h4.1, Nat.ble_eq_true_of_le h4.2, Bool.and_self]
  · cases hs
def cpZ (P : Program) (h : Hp) (nx : Nat) (t tx : TypeId) (d x : Value) : Option (Out × List Prop) :=
  match P.underlying t, d with
  | some (.slice e), .slice (some ⟨n, o, none⟩) dl _ => match P.info? e, lk h n with
    | some i, some r => match srcZ P h i.size tx x with
      | some (m, cs, ob) => bif isOwn r.kd then some ((.int .i64 (Nat.min m dl : Nat), setH h n ⟨r.kd, splice r.cs o (cs.take (mlN (Nat.min m dl) i.size))⟩, nx, [n]), (adN o (cs.take (mlN (Nat.min m dl) i.size)).length ≤ r.cs.length) :: ob) else none
      | none => none
    | _, _ => none
  | _, _ => none
theorem cpZ_ok {P : Program} {h : Hp} {nx : Nat} {t tx : TypeId} {d x : Value} {out : Out} {ob : List Prop} (hs : cpZ P h nx t tx d x = some (out, ob)) (ho : Alls ob) : ∃ v h' dd, copyV P h t tx d x = some (v, h', dd) ∧ out = (v, h', nx, dd) := by
  unfold cpZ at hs
  unfold copyV
  split at hs
  case h_2 => cases hs
  rename_i e n o dl c hu
  rw [hu]
  simp only
  split at hs
  case h_2 => cases hs
  rename_i i r hi hl
  rw [hi, hl]
  simp only
  split at hs
  case h_2 => cases hs
  rename_i m cs ob' hsrc
  obtain ⟨h1, hs⟩ := bif_of hs
  simp only [Option.some.injEq, Prod.mk.injEq] at hs
  obtain ⟨rfl, rfl⟩ := hs
  obtain ⟨h2, h3⟩ := ho
  rw [srcZ_ok hsrc h3]
  simp only [adN_eq, mlN_eq] at h2 ⊢
  refine ⟨_, _, _, ?_, rfl⟩
  simp only [h1, Nat.ble_eq_true_of_le h2, Bool.and_self, cond_true]

/-- clear of a slice. -/
def clZ (P : Program) (h : Hp) (nx : Nat) (t : TypeId) (x : Value) : Option (Out × List Prop) :=
  match P.underlying t, x with
  | some (.slice e), .slice (some ⟨m, o, none⟩) n _ => match P.info? e, lk h m with
    | some i, some r => match i.zero with
      | some z => bif isOwn r.kd && noAdL z.cells.toList && Nat.blt 0 z.cells.toList.length && all1 z.cells.toList then some ((.tuple ⟨[]⟩, setH h m ⟨r.kd, splice r.cs o (zrep z.cells.toList (mlN n z.cells.toList.length))⟩, nx, [m]), [n ≠ 0, adN o (mlN n z.cells.toList.length) ≤ r.cs.length]) else none
      | none => none
    | _, _ => none
  | _, _ => none
theorem clZ_ok {P : Program} {ev : Operand → Option Value} {h : Hp} {nx : Nat} {t : TypeId} {x : Value} {args : Array Operand} {ts : Array TypeId} {out : Out} {ob : List Prop} (hs : clZ P h nx t x = some (out, ob)) (ho : Alls ob) (h1 : ts.toList = [t]) (h2 : evL ev args.toList = some [x]) : opV P ev h nx (.call ⟨.builtin .clear, args, ts⟩) = some out := by
  unfold clZ at hs
  split at hs
  case h_2 => cases hs
  rename_i e m o n c hu
  split at hs
  case h_2 => cases hs
  rename_i i r hi hl
  split at hs
  case h_2 => cases hs
  rename_i z hz
  obtain ⟨hb, hs⟩ := bif_of hs
  simp only [Option.some.injEq, Prod.mk.injEq] at hs
  obtain ⟨rfl, rfl⟩ := hs
  obtain ⟨hn, hle, _⟩ := ho
  simp only [adN_eq, mlN_eq] at hle ⊢
  have hp : pureV P ev h (.call ⟨.builtin .clear, args, ts⟩) = none := by
    simp only [pureV, h2]
    cases ts[0]? <;> rfl
  have hnw : newV P ev (.call ⟨.builtin .clear, args, ts⟩) = none := rfl
  have hb0 : Nat.beq n 0 = false := nbeq_ne hn
  simp only [opV, hp, hnw, extV, h1, h2, hu, hb0, cond_false, hi, hl, hz, hb, Nat.ble_eq_true_of_le hle, Bool.and_true, cond_true]

/-! ### one operation -/
def lenOf : Value → Nat
  | .slice _ n _ => n
  | _ => 0
def isSl : Value → Bool
  | .slice _ _ _ => true
  | _ => false
def chAt (s : ByteArray) (i : Nat) : Nat := ((s.data.toList[i]?).getD 0).toNat
/-! numbers that do not wrap -/
def rg : IntKind → Int → Prop
  | .i8, r => -128 ≤ r ∧ r ≤ 127
  | .i16, r => -32768 ≤ r ∧ r ≤ 32767
  | .i32, r => -2147483648 ≤ r ∧ r ≤ 2147483647
  | .i64, r => -9223372036854775808 ≤ r ∧ r ≤ 9223372036854775807
  | .u8, r => 0 ≤ r ∧ r ≤ 255
  | .u16, r => 0 ≤ r ∧ r ≤ 65535
  | .u32, r => 0 ≤ r ∧ r ≤ 4294967295
  | .u64, r => 0 ≤ r ∧ r ≤ 18446744073709551615
theorem rg_wrap {k : IntKind} {r : Int} (h : rg k r) : k.wrap r = r := by
  cases k
  · exact IntWalk.i8_in r h
  · exact IntWalk.i16_in r h
  · exact IntWalk.i32_in r h
  · exact IntWalk.i64_in r h
  · exact IntWalk.u8_in r h
  · exact IntWalk.u16_in r h
  · exact IntWalk.u32_in r h
  · exact IntWalk.u64_in r h
def adI : Int → Int → Int
  | .ofNat x, .ofNat y => .ofNat (x + y)
  | a, b => a + b
def mlI : Int → Int → Int
  | .ofNat x, .ofNat y => .ofNat (x * y)
  | a, b => a * b
def dvI : Int → Int → Int
  | .ofNat x, .ofNat y => .ofNat (x / y)
  | a, b => a / b
def mdI : Int → Int → Int
  | .ofNat x, .ofNat y => .ofNat (x % y)
  | a, b => a % b
def slI : Int → Int → Int
  | .ofNat x, .ofNat y => .ofNat (x * 2 ^ y)
  | a, b => a * 2 ^ b.toNat
def srI : Int → Int → Int
  | .ofNat x, .ofNat y => .ofNat (x / 2 ^ y)
  | a, b => a / 2 ^ b.toNat
theorem adI_eq (a b : Int) : adI a b = a + b := by cases a <;> cases b <;> rfl
theorem mlI_eq (a b : Int) : mlI a b = a * b := by cases a <;> cases b <;> rfl
theorem dvI_eq (a b : Int) : dvI a b = a / b := by cases a <;> cases b <;> rfl
theorem mdI_eq (a b : Int) : mdI a b = a % b := by cases a <;> cases b <;> rfl
theorem slI_eq (a b : Int) : slI a b = a * 2 ^ b.toNat := by
  cases a <;> cases b <;> rfl
theorem srI_eq (a b : Int) : srI a b = a / 2 ^ b.toNat := by
  cases a <;> cases b <;> rfl
/-- A number in fewer digits. -/
def lowI (k : IntKind) (n : Int) : Int := mdI n (2 ^ k.bits)
theorem low_eq {k : IntKind} (hk : k.signed = false) (n : Int) : k.wrap n = lowI k n := by
  unfold lowI
  rw [mdI_eq]
  cases k <;> simp [IntKind.signed] at hk <;> simp [IntKind.wrap, IntKind.signed, IntKind.bits]
/-- Modes: 8 leaves a number that wraps as it is; 7 is 'or' of numbers of no common digit, 'and' with all of the lowest digits. -/
def biZ (md : Nat) (op : BinOp) (x y : Value) : Option (Value × List Prop) :=
  match op, x, y with
  | .add, .int k a, .int k' b => bif decide (k = k') && !(Nat.beq md 8) then some (.int k (adI a b), [rg k (adI a b)]) else none
  | .sub, .int k a, .int k' b => bif decide (k = k') && !(Nat.beq md 8) then some (.int k (a - b), [rg k (a - b)]) else none
  | .mul, .int k a, .int k' b => bif decide (k = k') && !(Nat.beq md 8) then some (.int k (mlI a b), [rg k (mlI a b)]) else none
  | .quo, .int k a, .int k' b => bif decide (k = k') then some (.int k (dvI a b), [0 ≤ a ∧ 0 < b ∧ rg k a]) else none
  | .rem, .int k a, .int k' b => bif decide (k = k') then some (.int k (mdI a b), [0 ≤ a ∧ 0 < b]) else none
  | .or, .int k a, .int k' b => bif decide (k = k') && Nat.beq md 7 then some (.int k (adI a b), [k.wrap (BitVec.ofInt k.bits a ||| BitVec.ofInt k.bits b).toNat = adI a b]) else none
  | .and, .int k a, .int k' b => bif decide (k = k') && Nat.beq md 7 then some (.int k (mdI a (adI b 1)), [k.wrap (BitVec.ofInt k.bits a &&& BitVec.ofInt k.bits b).toNat = mdI a (adI b 1)]) else none
  | .shl, .int k a, .int _ b => bif Nat.beq md 8 then none else some (.int k (slI a b), [0 ≤ b ∧ b ≤ (k.bits : Int) ∧ rg k (slI a b)])
  | .shr, .int k a, .int _ b => some (.int k (srI a b), [0 ≤ b ∧ b ≤ (k.bits : Int)])
  | .add, .string a, .string b => some (.string ⟨(a.data.toList ++ b.data.toList).toArray⟩, [a.data.toList.length + b.data.toList.length ≤ 9223372036854775807])
  | _, _, _ => none
theorem rg_quo {k : IntKind} {a b : Int} (h0 : 0 ≤ a) (h1 : 0 < b) (h2 : rg k a) : rg k (a / b) := by
  have e1 : 0 ≤ a / b := Int.ediv_nonneg h0 (Int.le_of_lt h1)
  have e2 : a / b ≤ a := Int.ediv_le_self b h0
  cases k <;> simp only [rg] at h2 ⊢ <;> omega
theorem biZ_ok {P : Program} {md : Nat} {op : BinOp} {t : TypeId} {x y v : Value} {ob : List Prop} (hs : biZ md op x y = some (v, ob)) (ho : Alls ob) : binV P op t x y = some v := by
  unfold biZ at hs
  unfold binV
  split at hs
  · obtain ⟨hk, hs⟩ := bif_of hs
    simp only [Bool.and_eq_true] at hk
    simp only [Option.some.injEq, Prod.mk.injEq] at hs
    obtain ⟨rfl, rfl⟩ := hs
    simp only [hk.1, cond_true, binI]
    rw [← adI_eq, rg_wrap ho.1]
  · obtain ⟨hk, hs⟩ := bif_of hs
    simp only [Bool.and_eq_true] at hk
    simp only [Option.some.injEq, Prod.mk.injEq] at hs
    obtain ⟨rfl, rfl⟩ := hs
    simp only [hk.1, cond_true, binI]
    rw [rg_wrap ho.1]
  · obtain ⟨hk, hs⟩ := bif_of hs
    simp only [Bool.and_eq_true] at hk
    simp only [Option.some.injEq, Prod.mk.injEq] at hs
    obtain ⟨rfl, rfl⟩ := hs
    simp only [hk.1, cond_true, binI]
    rw [← mlI_eq, rg_wrap ho.1]
  · obtain ⟨hk, hs⟩ := bif_of hs
    simp only [Option.some.injEq, Prod.mk.injEq] at hs
    obtain ⟨rfl, rfl⟩ := hs
    obtain ⟨h1, h2, h3⟩ := ho.1
    have hb : decide (_ = (0 : Int)) = false := decide_eq_false (Int.ne_of_gt h2)
    simp only [hk, cond_true, binI, hb, cond_false]
    rw [Int.tdiv_eq_ediv_of_nonneg h1, rg_wrap (rg_quo h1 h2 h3), dvI_eq]
  · obtain ⟨hk, hs⟩ := bif_of hs
    simp only [Option.some.injEq, Prod.mk.injEq] at hs
    obtain ⟨rfl, rfl⟩ := hs
    obtain ⟨h1, h2⟩ := ho.1
    have hb : decide (_ = (0 : Int)) = false := decide_eq_false (Int.ne_of_gt h2)
    simp only [hk, cond_true, binI, hb, cond_false]
    rw [Int.tmod_eq_emod_of_nonneg h1, mdI_eq]
  · obtain ⟨hk, hs⟩ := bif_of hs
    simp only [Bool.and_eq_true] at hk
    simp only [Option.some.injEq, Prod.mk.injEq] at hs
    obtain ⟨rfl, rfl⟩ := hs
    simp only [hk.1, cond_true, binI]
    rw [ho.1]
  · obtain ⟨hk, hs⟩ := bif_of hs
    simp only [Bool.and_eq_true] at hk
    simp only [Option.some.injEq, Prod.mk.injEq] at hs
    obtain ⟨rfl, rfl⟩ := hs
    simp only [hk.1, cond_true, binI]
    rw [ho.1]
  · rcases bif_or hs with ⟨_, hs⟩ | ⟨_, hs⟩
    · cases hs
    simp only [Option.some.injEq, Prod.mk.injEq] at hs
    obtain ⟨rfl, rfl⟩ := hs
    obtain ⟨h1, h2, h3⟩ := ho.1
    have : ¬ ((_ : Int) < 0) := Int.not_lt.2 h1
    simp only [shV, decide_eq_false this, cond_false]
    rw [Nat.min_eq_left (by omega), ← slI_eq, rg_wrap h3]
  · simp only [Option.some.injEq, Prod.mk.injEq] at hs
    obtain ⟨rfl, rfl⟩ := hs
    obtain ⟨h1, h2⟩ := ho.1
    have : ¬ ((_ : Int) < 0) := Int.not_lt.2 h1
    simp only [shV, decide_eq_false this, cond_false]
    rw [Nat.min_eq_left (by omega), srI_eq, Int.fdiv_eq_ediv_of_nonneg _ (Int.le_of_lt (Int.pow_pos (by decide)))]
  · simp only [Option.some.injEq, Prod.mk.injEq] at hs
    obtain ⟨rfl, rfl⟩ := hs
    simp only [binS, Nat.ble_eq_true_of_le ho.1, cond_true]
  · cases hs
/-- A place in a row. -/
def ixO (o i s : Nat) : Nat := bif Nat.beq o 0 then (bif Nat.beq s 1 then i else i * s) else (bif Nat.beq s 1 then o + i else o + i * s)
theorem ixO_eq (o i s : Nat) : ixO o i s = o + i * s := by
  unfold ixO
  cases h1 : Nat.beq o 0 <;> cases h2 : Nat.beq s 1 <;> simp only [cond_true, cond_false]
  · rw [Nat.eq_of_beq_eq_true h2]; omega
  · rw [Nat.eq_of_beq_eq_true h1]; omega
  · rw [Nat.eq_of_beq_eq_true h1, Nat.eq_of_beq_eq_true h2]; omega
/-- A number of another kind: in fewer digits, or as it is. -/
def cvZ (k0 k : IntKind) (n : Int) : Value × List Prop :=
  bif !k.signed && Nat.blt k.bits k0.bits then (.int k (lowI k n), []) else (.int k n, [rg k n])
theorem cvZ_ok {k0 k : IntKind} {n : Int} {v : Value} {ob : List Prop} (h : cvZ k0 k n = (v, ob)) (ho : Alls ob) : Value.int k (k.wrap n) = v := by
  unfold cvZ at h
  rcases bif_or h with ⟨hb, h⟩ | ⟨_, h⟩
  · simp only [Prod.mk.injEq] at h
    obtain ⟨rfl, rfl⟩ := h
    simp only [Bool.and_eq_true, Bool.not_eq_true'] at hb
    rw [low_eq hb.1]
  · simp only [Prod.mk.injEq] at h
    obtain ⟨rfl, rfl⟩ := h
    rw [rg_wrap ho.1]
/-- Is a slice that has elements nil? -/
def eqSZ (P : Program) (op : BinOp) (t : TypeId) (a b : Value) : Option (Value × List Prop) := match a, b with
  | .slice (some ad) l c, .slice none 0 0 => (match op, P.underlying t with
    | .eql, some (.slice _) => bif guardFree P t (.slice (some ad) l c) then some (.bool false, [0 < l]) else none
    | _, _ => none)
  | _, _ => none
theorem eqSZ_ok {P : Program} {op : BinOp} {t : TypeId} {x y v : Value} {ob : List Prop} (hs : eqSZ P op t x y = some (v, ob)) (ho : Alls ob) : binV P op t x y = some v := by
  unfold eqSZ at hs
  split at hs
  case h_2 => cases hs
  rename_i ad l c
  split at hs
  case h_2 => cases hs
  rename_i e hu
  obtain ⟨hg, hs⟩ := bif_of hs
  simp only [Option.some.injEq, Prod.mk.injEq] at hs
  obtain ⟨rfl, rfl⟩ := hs
  have hl : Nat.blt 0 l = true := blt_of ho.1
  simp only [binV, hg, cond_true, eqV, hu, hl]
def biY (P : Program) (md : Nat) (op : BinOp) (t : TypeId) (x y : Value) : Option (Value × List Prop) := match eqSZ P op t x y with
  | some r => some r
  | none => biZ md op x y
theorem biY_ok {P : Program} {md : Nat} {op : BinOp} {t : TypeId} {x y v : Value} {ob : List Prop} (hs : biY P md op t x y = some (v, ob)) (ho : Alls ob) : binV P op t x y = some v := by
  unfold biY at hs
  split at hs
  · rename_i r hr
    cases hs
    exact eqSZ_ok hr ho
  · exact biZ_ok hs ho
def pl1 (h : Hp) (nx : Nat) : Option (Value × List Prop) → Option (Out × List Prop)
  | some (v, ob) => some ((v, h, nx, []), ob)
  | none => none
def opZ (P : Program) (md : Nat) (ev : Operand → Option Value) (h : Hp) (nx : Nat) : Op → Option (Out × List Prop)
  | .load t x => match ev x with
    | some (.pointer (some ⟨n, o, none⟩)) => match lk h n with
      | some r => match ldM P md t r.cs o with
        | some (v, p) => some ((v, h, nx, []), [p])
        | none => none
      | none => none
    | _ => none
  | .indexAddr t x i => match ev x, ev i with
    | some (.slice (some ⟨n, o, none⟩) len _), some (.int _ iv) => match P.underlying t with
      | some (.slice e) => match P.info? e with
        | some ie => some ((.pointer (some ⟨n, ixO o iv.toNat ie.size, none⟩), h, nx, []), [0 ≤ iv ∧ iv < (len : Int)])
        | none => none
      | _ => none
    | some (.pointer (some ⟨n, o, none⟩)), some (.int _ iv) => match P.underlying t with
      | some (.array k e) => match P.info? e with
        | some ie => some ((.pointer (some ⟨n, ixO o iv.toNat ie.size, none⟩), h, nx, []), [0 ≤ iv ∧ iv < (k : Int)])
        | none => none
      | _ => none
    | _, _ => none
  | .index t x i => match ev x, ev i with
    | some (.string s), some (.int _ iv) => match P.underlying t with
      | some .string => some ((.int .u8 (chAt s iv.toNat), h, nx, []), [0 ≤ iv ∧ iv.toNat < s.data.toList.length])
      | _ => none
    | some (.agg cs), some (.int _ iv) => match P.underlying t with
      | some (.array k e) => match P.info? e with
        | some ie => match ldZ P e cs.toList (ixO 0 iv.toNat ie.size) with
          | some (v, p) => some ((v, h, nx, []), [0 ≤ iv ∧ iv < (k : Int), p])
          | none => none
        | none => none
      | _ => none
    | _, _ => none
  | .slice t x lo hi mx => match ev x, evO ev lo, evO ev hi, evO ev mx with
    | some v, some l, some u, some m => pl1 h nx (slZ P t v l u m)
    | _, _, _, _ => none
  | .makeSlice t l c => match P.underlying t with
    | some (.slice e) => match P.info? e, ev l, ev c with
      | some i, some (.int _ l), some (.int _ c) => match i.zero with
        | some z => bif noAdL z.cells.toList && Nat.ble 1 z.cells.toList.length then some ((.slice (some ⟨nx, 0, none⟩) l.toNat c.toNat, (nx, ⟨.shut, zrep z.cells.toList (mlN c.toNat i.size)⟩) :: h, nx + 1, []), [0 ≤ l ∧ l ≤ c ∧ (i.bytes : Int) * c ≤ 281474976710656 ∧ c ≤ 9223372036854775807]) else none
        | none => none
      | _, _, _ => none
    | _ => none
  | .store t x y => match ev x, ev y with
    | some (.pointer (some ⟨n, o, none⟩)), some v => match lk h n, P.info? t with
      | some r, some i => bif Nat.beq v.cells.toList.length i.size && isOwn r.kd then (bif Nat.beq md 9 then some ((undef, setH h n ⟨r.kd, splice r.cs o v.cells.toList⟩, nx, [n]), [all1 v.cells.toList = true, o + v.cells.toList.length ≤ r.cs.length]) else bif all1 v.cells.toList then some ((undef, setH h n ⟨r.kd, splice r.cs o v.cells.toList⟩, nx, [n]), [o + v.cells.toList.length ≤ r.cs.length]) else none) else none
      | _, _ => none
    | _, _ => none
  | .convert s d x => match P.underlying s, P.underlying d, ev x with
    | some (.int k0), some (.int k), some (.int _ n) => match cvZ k0 k n with | (v, ob) => some ((v, h, nx, []), ob)
    | some (.slice e), some .string, some (.slice (some ⟨n, o, none⟩) len _) => match P.underlying e, lk h n with
      | some (.int .u8), some r => some ((.string (strOfI (intsOf (tkD o len r.cs))), h, nx, []), [adN o len ≤ r.cs.length, tkD o len r.cs = (intsOf (tkD o len r.cs)).map (Value.int .u8)])
      | _, _ => none
    | _, _, _ => none
  | .binOp op t x y _ => match ev x, ev y with
    | some a, some b => pl1 h nx (biY P md op t a b)
    | _, _ => none
  | .call ⟨.builtin .append, args, ts⟩ => match ts.toList, evL ev args.toList with
    | [t, tx], some [s, x] => apZ P md h nx t tx s x
    | _, _ => none
  | .call ⟨.builtin .copy, args, ts⟩ => match ts.toList, evL ev args.toList with
    | [t, tx], some [d, x] => cpZ P h nx t tx d x
    | _, _ => none
  | .call ⟨.builtin .clear, args, ts⟩ => match ts.toList, evL ev args.toList with
    | [t], some [x] => clZ P h nx t x
    | _, _ => none
  | .call ⟨.builtin .len, args, ts⟩ => match evL ev args.toList, ts[0]? with
    | some [x], some t => match P.underlying t with
      | some (.slice _) => bif Nat.beq md 9 then some ((.int .i64 (lenOf x : Nat), h, nx, []), [isSl x = true]) else none
      | _ => none
    | _, _ => none
  | .call ⟨.builtin .cap, args, ts⟩ => match evL ev args.toList, ts[0]? with
    | some [.slice (some _) _ n], some t => match P.underlying t with
      | some (.slice _) => some ((.int .i64 (n : Nat), h, nx, []), [n < capBig])
      | _ => none
    | _, _ => none
  | _ => none
theorem opV_pure {P : Program} {ev : Operand → Option Value} {h : Hp} {nx : Nat} {op : Op} {v : Value} (hp : pureV P ev h op = some v) : opV P ev h nx op = some (v, h, nx, []) := by
  unfold opV
  split
  · simp [pureV] at hp
  · rename_i args ts
    simp only [pureV] at hp
    split at hp
    · rename_i vs _; cases vs with
      | nil => simp [biV] at hp
      | cons a l => cases l with
        | nil => simp [biV] at hp
        | cons b l => cases l <;> simp [biV] at hp
    · cases hp
  · rename_i args ts
    simp only [pureV] at hp
    split at hp
    · rename_i vs _; cases vs with
      | nil => simp [biV] at hp
      | cons a l => cases l with
        | nil => simp [biV] at hp
        | cons b l => cases l <;> simp [biV] at hp
    · cases hp
  · rw [hp]
  · rw [hp]
theorem opZ_ok {P : Program} {md : Nat} {ev : Operand → Option Value} {h : Hp} {nx : Nat} {op : Op} {out : Out} {ob : List Prop} (hs : opZ P md ev h nx op = some (out, ob)) (ho : Alls ob) : opV P ev h nx op = some out := by
  cases op with
  | load t x =>
    simp only [opZ] at hs
    split at hs
    case h_2 => cases hs
    rename_i n o hx
    split at hs
    case h_2 => cases hs
    rename_i r hl
    split at hs
    case h_2 => cases hs
    rename_i v p hv
    simp only [Option.some.injEq, Prod.mk.injEq] at hs
    obtain ⟨rfl, rfl⟩ := hs
    exact opV_pure (by simp only [pureV, hx, hl]; exact (ldM_ok hv ho.1).1)
  | indexAddr t x i =>
    simp only [opZ] at hs
    split at hs
    · rename_i n o len c k iv hx hi
      split at hs
      case h_2 => cases hs
      rename_i e hu
      split at hs
      case h_2 => cases hs
      rename_i ie hie
      simp only [Option.some.injEq, Prod.mk.injEq] at hs
      obtain ⟨rfl, rfl⟩ := hs
      refine opV_pure ?_
      simp only [pureV, hx, hi, iaV, hu, ixV, hie, decide_eq_true ho.1, cond_true, ixO_eq]
    · rename_i n o k iv hx hi
      split at hs
      case h_2 => cases hs
      rename_i k e hu
      split at hs
      case h_2 => cases hs
      rename_i ie hie
      simp only [Option.some.injEq, Prod.mk.injEq] at hs
      obtain ⟨rfl, rfl⟩ := hs
      refine opV_pure ?_
      simp only [pureV, hx, hi, iaV, hu, ixV, hie, decide_eq_true ho.1, cond_true, ixO_eq]
    · cases hs
  | index t x i =>
    simp only [opZ] at hs
    split at hs
    · rename_i s k iv hx hi
      split at hs
      case h_2 => cases hs
      rename_i hu
      simp only [Option.some.injEq, Prod.mk.injEq] at hs
      obtain ⟨rfl, rfl⟩ := hs
      refine opV_pure ?_
      have h2 := ho.1.2
      simp only [pureV, hx, hi, indexV, hu, decide_eq_true ho.1.1, cond_true, List.getElem?_eq_getElem h2, chAt, Option.getD_some]
    · rename_i cs k iv hx hi
      split at hs
      case h_2 => cases hs
      rename_i k e hu
      split at hs
      case h_2 => cases hs
      rename_i ie hie
      split at hs
      case h_2 => cases hs
      rename_i v p hv
      simp only [Option.some.injEq, Prod.mk.injEq] at hs
      obtain ⟨rfl, rfl⟩ := hs
      refine opV_pure ?_
      simp only [pureV, hx, hi, indexV, hu, ixV, hie, decide_eq_true ho.1, cond_true]
      have := (ldZ_ok hv ho.2.1).2
      rwa [ixO_eq, Nat.zero_add] at this
    · cases hs
  | slice t x lo hi mx =>
    simp only [opZ] at hs
    split at hs
    case h_2 => cases hs
    rename_i v l u m h1 h2 h3 h4
    unfold pl1 at hs
    split at hs
    case h_2 => cases hs
    rename_i r ob' hr
    simp only [Option.some.injEq, Prod.mk.injEq] at hs
    obtain ⟨rfl, rfl⟩ := hs
    refine opV_pure ?_
    simp only [pureV, h1, h2, h3, h4, slZ_ok hr ho]
  | makeSlice t l c =>
    simp only [opZ] at hs
    split at hs
    case h_2 => cases hs
    rename_i e hu
    split at hs
    case h_2 => cases hs
    rename_i i kl l' kc c' hi h1 h2
    split at hs
    case h_2 => cases hs
    rename_i z hz
    obtain ⟨hb, hs⟩ := bif_of hs
    simp only [Option.some.injEq, Prod.mk.injEq] at hs
    obtain ⟨rfl, rfl⟩ := hs
    simp only [opV, pureV, newV, hu, hi, h1, h2, hz, hb, decide_eq_true ho.1, Bool.and_self, cond_true, mlN_eq]
    rfl
  | store t x y =>
    simp only [opZ] at hs
    split at hs
    case h_2 => cases hs
    rename_i n o v h1 h2
    split at hs
    case h_2 => cases hs
    rename_i r i hl hi
    obtain ⟨hb, hs⟩ := bif_of hs
    simp only [Bool.and_eq_true] at hb
    rcases bif_or hs with ⟨_, hs⟩ | ⟨_, hs⟩
    · simp only [Option.some.injEq, Prod.mk.injEq] at hs
      obtain ⟨rfl, rfl⟩ := hs
      obtain ⟨a2, a3, _⟩ := ho
      simp only [opV, h1, h2, storeV, hl, hi, hb.1, hb.2, a2, Nat.ble_eq_true_of_le a3, Bool.and_self, cond_true, frc_eq]
    · obtain ⟨a2, hs⟩ := bif_of hs
      simp only [Option.some.injEq, Prod.mk.injEq] at hs
      obtain ⟨rfl, rfl⟩ := hs
      obtain ⟨a3, _⟩ := ho
      simp only [opV, h1, h2, storeV, hl, hi, hb.1, hb.2, a2, Nat.ble_eq_true_of_le a3, Bool.and_self, cond_true, frc_eq]
  | convert s d x =>
    simp only [opZ] at hs
    split at hs
    case h_1 =>
      rename_i k0 k kk n h1 h2 h3
      simp only [Option.some.injEq, Prod.mk.injEq] at hs
      obtain ⟨rfl, rfl⟩ := hs
      refine opV_pure ?_
      simp only [pureV, h3, cvV, h1, h2]
      rw [cvZ_ok (v := (cvZ k0 k n).1) (ob := (cvZ k0 k n).2) rfl ho]
    case h_3 => cases hs
    rename_i e n o len c h1 h2 h3
    split at hs
    case h_2 => cases hs
    rename_i r hu hl
    simp only [Option.some.injEq, Prod.mk.injEq] at hs
    obtain ⟨rfl, rfl⟩ := hs
    refine opV_pure ?_
    obtain ⟨g1, g2, _⟩ := ho
    simp only [adN_eq, tkD_eq] at g1 g2 ⊢
    simp only [pureV, h3, cvV, h1, h2, hu, cellsAt_of hl g1]
    rw [g2, bytesOf_map, ← g2]
  | binOp op t x y p =>
    simp only [opZ] at hs
    split at hs
    case h_2 => cases hs
    rename_i a b h1 h2
    unfold pl1 at hs
    split at hs
    case h_2 => cases hs
    rename_i r ob' hr
    simp only [Option.some.injEq, Prod.mk.injEq] at hs
    obtain ⟨rfl, rfl⟩ := hs
    refine opV_pure ?_
    simp only [pureV, h1, h2, biY_ok hr ho]
  | call c =>
    obtain ⟨cal, args, ts⟩ := c
    cases cal with
    | builtin b =>
      cases b <;> simp only [opZ] at hs <;> (try cases hs)
      case append =>
        split at hs
        case h_2 => cases hs
        rename_i t tx s x h1 h2
        simp only [opV, builtV, h1, h2]
        rw [apZ_ok hs ho]
      case copy =>
        split at hs
        case h_2 => cases hs
        rename_i t tx s x h1 h2
        obtain ⟨v, h', dd, e1, rfl⟩ := cpZ_ok hs ho
        simp only [opV, builtV, h1, h2, e1]
      case clear =>
        split at hs
        case h_2 => cases hs
        rename_i t x h1 h2
        exact clZ_ok hs ho h1 h2
      case len =>
        split at hs
        case h_2 => cases hs
        rename_i x t h1 h2
        split at hs
        case h_2 => cases hs
        rename_i e hu
        obtain ⟨_, hs⟩ := bif_of hs
        simp only [Option.some.injEq, Prod.mk.injEq] at hs
        obtain ⟨rfl, rfl⟩ := hs
        have hx := ho.1
        refine opV_pure ?_
        cases x <;> simp only [isSl] at hx <;> (try cases hx)
        simp only [pureV, h1, biV, h2, lenV, hu, lenOf]
      case cap =>
        split at hs
        case h_2 => cases hs
        rename_i a l n t h1 h2
        split at hs
        case h_2 => cases hs
        rename_i e hu
        simp only [Option.some.injEq, Prod.mk.injEq] at hs
        obtain ⟨rfl, rfl⟩ := hs
        refine opV_pure ?_
        simp only [pureV, h1, biV, h2, capV, hu, blt_of ho.1, cond_true]
    | _ => simp [opZ] at hs
  | _ => simp [opZ] at hs
end Go.Proofs.Ytojakfnljopjbaa
/-
  The told machine, part Zq: what is read of rows whose cells are slices; each slice gets a name of its own.
-/
namespace Go.Proofs.Ytojakfnljopjbaa
set_option linter.unusedSimpArgs false
set_option linter.unusedVariables false
set_option linter.unusedSectionVars false
open Go Go.RowKit

/-! ### what stands at a place -/
def dInt (ds : List DV) (o : Nat) : Int := match ds[o]? with | some (.fl (.int _ n)) => n | _ => 0
def dBool (ds : List DV) (o : Nat) : Bool := match ds[o]? with | some (.fl (.bool b)) => b | _ => false
def dStr (ds : List DV) (o : Nat) : ByteArray := match ds[o]? with | some (.fl (.string s)) => s | _ => ByteArray.empty
def dLen (ds : List DV) (o : Nat) : Nat := match ds[o]? with | some (.sl n _ _) => n | _ => 0
def dCap (ds : List DV) (o : Nat) : Nat := match ds[o]? with | some (.sl _ (some c) _) => c | _ => 0
def dSub (ds : List DV) (o : Nat) : List DV := match ds[o]? with | some (.sl _ _ l) => l | _ => []
def DV.val : DV → Value
  | .fl v => v
  | _ => undef
def dVals (ds : List DV) (o : Nat) : List Value := (dSub ds o).map DV.val
/-- A slice stands there; its cells are no slices. -/
def DSl (ds : List DV) (o len : Nat) (cap : Option Nat) (l : List DV) : Prop := ∃ c, ds[o]? = some (.sl len c l) ∧ (cap = none ∨ c = cap)
/-- The cells of a value, the rows of its slices, what is asked for. -/
def shD (deep uc : Bool) (ds : List DV) (o : Nat) : List Value → Nat → Nat → Option (List Value × List Rw × List Prop)
  | [], _, _ => some ([], [], [])
  | .int k _ :: zs, j, nx => match shD deep uc ds o zs (j + 1) nx with
    | some (l, rs, ob) => some (.int k (dInt ds (o + j)) :: l, rs, (ds[o + j]? = some (.fl (.int k (dInt ds (o + j))))) :: ob)
    | none => none
  | .bool _ :: zs, j, nx => match shD deep uc ds o zs (j + 1) nx with
    | some (l, rs, ob) => some (.bool (dBool ds (o + j)) :: l, rs, (ds[o + j]? = some (.fl (.bool (dBool ds (o + j))))) :: ob)
    | none => none
  | .string _ :: zs, j, nx => match shD deep uc ds o zs (j + 1) nx with
    | some (l, rs, ob) => some (.string (dStr ds (o + j)) :: l, rs, (ds[o + j]? = some (.fl (.string (dStr ds (o + j))))) :: ob)
    | none => none
  | .slice none _ _ :: zs, j, nx => match shD deep uc ds o zs (j + 1) (nx + 1) with
    | some (l, rs, ob) => some (.slice (some ⟨nx, 0, none⟩) (dLen ds (o + j)) (bif uc then capBig + nx else dCap ds (o + j)) :: l, (bif deep then ⟨.sd (dSub ds (o + j)), []⟩ else ⟨.old, dVals ds (o + j)⟩) :: rs,
        (DSl ds (o + j) (dLen ds (o + j)) (bif uc then none else some (dCap ds (o + j))) (bif deep then dSub ds (o + j) else (dVals ds (o + j)).map DV.fl)) :: ob)
    | none => none
  | _, _, _ => none
def rowsU : List Rw → Nat → Hp → Hp
  | [], _, h => h
  | r :: rs, nx, h => rowsU rs (nx + 1) ((nx, r) :: h)
/-- All that is asked for. -/
def ShOb (P : Program) (t : TypeId) (deep uc : Bool) (ds : List DV) (o nx : Nat) : Prop := match P.info? t with
  | some i => (match i.zero with
    | some z => (match shD deep uc ds o z.cells.toList 0 nx with | some (_, _, ob) => Alls ob | none => True)
    | none => True)
  | none => True
def mdD (md : Nat) : Bool := bif Nat.beq md 31 then true else Nat.beq md 33
def mdU (md : Nat) : Bool := bif Nat.beq md 32 then true else Nat.beq md 33
/-- The cells of a row whose cells may be slices. -/
def deepOf : Kd → Option (List DV)
  | .sd ds => some ds
  | .dp _ _ ds => some ds
  | .df _ _ ds => some ds
  | .sw ds => some ds
  | _ => none
/-- Modes: 30 (slices of what is no slice), 31 (others), 32, 33 (their capacities are not known). -/
def odL (P : Program) (md : Nat) (ev : Operand → Option Value) (h : Hp) (nx : Nat) : Op → Option (Out × List Prop)
  | .load t x => match ev x with
    | some (.pointer (some ⟨n, o, none⟩)) => match lk h n with
      | some r => match deepOf r.kd, P.underlying t, P.info? t with
        | some ds, some d, some i => match i.zero with
          | some z => match shD (mdD md) (mdU md) ds o z.cells.toList 0 nx with
            | some (l, rs, _) => bif Nat.beq l.length i.size then (bif d.isRow then some ((.agg ⟨l⟩, rowsU rs nx h, nx + rs.length, []), [ShOb P t (mdD md) (mdU md) ds o nx]) else (match l with
                | [v] => some ((v, rowsU rs nx h, nx + rs.length, []), [ShOb P t (mdD md) (mdU md) ds o nx])
                | _ => none)) else none
            | none => none
          | none => none
        | _, _, _ => none
      | none => none
    | _ => none
  | _ => none
section
variable {P : Program} {W : World} {σ : Sg} {h : Hp} {w : World}
theorem DRs.get {F : List Nat} : ∀ {ds : List DV} {b s : Nat}, DRs W w F b s ds → ∀ j d, ds[j]? = some d → ∃ v, ((b < W.heap.size ∧ W.cell? ⟨b, s + j, none⟩ = some v) ∨ (b ∈ F ∧ w.cell? ⟨b, s + j, none⟩ = some v)) ∧ DR W w F d v
  | [], b, s, _, j, d, h => by simp at h
  | x :: ds, b, s, hd, j, d, h => by
      simp only [DRs] at hd
      cases j with
      | zero => simp only [List.getElem?_cons_zero, Option.some.injEq] at h; subst h; exact hd.1
      | succ j =>
        have := DRs.get hd.2 j d (by simpa using h)
        rwa [show s + 1 + j = s + (j + 1) by omega] at this
theorem DRs.blk {F : List Nat} : ∀ {ds : List DV} {b s : Nat}, DRs W w F b s ds → b < W.heap.size ∨ b ∈ F
  | [], b, s, hd => by simpa only [DRs] using hd
  | x :: ds, b, s, hd => by simp only [DRs] at hd; exact DRs.blk hd.2
/-- The cells of a slice whose cells are no slices. -/
theorem DRs.flat {F : List Nat} {X : List Value} {b s : Nat} (hx : Ext W w) (hd : DRs W w F b s (X.map DV.fl)) : (∀ σ, renL σ X = some X) ∧ ((b < W.heap.size ∧ ∀ j v, X[j]? = some v → W.cell? ⟨b, s + j, none⟩ = some v) ∨ (b ∈ F ∧ ∀ j v, X[j]? = some v → w.cell? ⟨b, s + j, none⟩ = some v)) := by
  have key : ∀ j v, X[j]? = some v → (∀ σ, renV σ v = some v) ∧ ((b < W.heap.size ∧ W.cell? ⟨b, s + j, none⟩ = some v) ∨ (b ∈ F ∧ w.cell? ⟨b, s + j, none⟩ = some v)) := fun j v hj => by
    obtain ⟨u, h1, h2⟩ := hd.get j (.fl v) (by simp [hj])
    simp only [DR] at h2
    obtain ⟨rfl, h2⟩ := h2
    exact ⟨h2, h1⟩
  refine ⟨fun σ => ?_, ?_⟩
  · have : ∀ l : List Value, (∀ v ∈ l, renV σ v = some v) → renL σ l = some l := by
      intro l
      induction l with
      | nil => intro _; rfl
      | cons x l ih => intro hl; exact renL_mk (hl x (List.mem_cons_self ..)) (ih fun v hv => hl v (List.mem_cons_of_mem _ hv))
    refine this X fun v hv => ?_
    obtain ⟨j, hj⟩ := List.getElem?_of_mem hv
    exact (key j v hj).1 σ
  · by_cases hb : b < W.heap.size
    · refine .inl ⟨hb, fun j v hj => ?_⟩
      rcases (key j v hj).2 with ⟨_, h2⟩ | ⟨_, h2⟩
      · exact h2
      · rw [← hx.cell b (s + j) hb]; exact h2
    · rcases hd.blk with h1 | h1
      · exact absurd h1 hb
      · refine .inr ⟨h1, fun j v hj => ?_⟩
        rcases (key j v hj).2 with ⟨h2, _⟩ | ⟨_, h2⟩
        · exact absurd h2 hb
        · exact h2
/-- A name for a slice, with its capacity. -/
def Sg.vwc (σ : Sg) (n : Nat) (p : Nat × Nat) (c : Nat) (F : Option (List Nat)) (E : Option Addr) : Sg := ⟨fun m => if m = n then some p else σ.b m, fun m => if m = n then some c else σ.c m, fun m => if m = n then F else σ.f m, fun m => if m = n then E else σ.e m⟩
/-- A new name for what is shared already, or for nothing. -/
theorem Stp.viewc (hR : Rl W σ h w) {nx : Nat} (hf : Fresh σ nx (nx + 1)) {r : Rw} (p : Nat × Nat) (c : Nat) (F : Option (List Nat)) (E : Option Addr) (hF : ∀ k, k ∈ F.getD [] → ∃ m s, lk h m = some s ∧ k ∈ sh σ m) (hs : ShKd r.kd) (hr : RowOk W (σ.vwc nx p c F E) w nx r) :
    Stp W nx (nx + 1) σ h w (σ.vwc nx p c F E) ((nx, r) :: h) w := by
  have hf0 := hf nx (Nat.le_refl _) (by omega)
  have hne : ∀ k x, lk h k = some x → k ≠ nx := fun k x hk e => by
    subst e
    obtain ⟨b', s', vs', hb', _⟩ := hR.row _ _ hk
    rw [hf0.1] at hb'
    cases hb'
  have hbs : ∀ k, k ≠ nx → (σ.vwc nx p c F E).b k = σ.b k ∧ (σ.vwc nx p c F E).c k = σ.c k ∧ (σ.vwc nx p c F E).f k = σ.f k ∧ (σ.vwc nx p c F E).e k = σ.e k := fun k hk => by simp only [Sg.vwc]; rw [if_neg hk, if_neg hk, if_neg hk, if_neg hk]; exact ⟨rfl, rfl, rfl, rfl⟩
  have hle : σ.le (σ.vwc nx p c F E) := by
    refine ⟨fun m q e => ?_, fun m k e => ?_, fun m q e => ?_⟩
    · have hm : m ≠ nx := fun e2 => by subst e2; rw [hf0.1] at e; cases e
      rw [(hbs m hm).1]; exact e
    · have hm : m ≠ nx := fun e2 => by subst e2; rw [hf0.2] at e; cases e
      rw [(hbs m hm).2.1]; exact e
    · have hm : m ≠ nx := fun e2 => by subst e2; rw [hf0.1] at e; cases e
      exact (hbs m hm).2
  have cls : ∀ m s, lk ((nx, r) :: h) m = some s → s.own → lk h m = some s := fun m s hm ho => by
    rw [lk_cons] at hm
    split at hm
    · cases hm; exact absurd hs ho
    · exact hm
  refine Stp0.up ⟨hle, fun m hm => ?_, ⟨hR.ext, fun m s hm => ?_, fun m k s t q q' hm hk hs' ht hq hq' e => ?_⟩, Nat.le_refl _, fun _ _ _ => rfl, fun m s q hm hs' hq => ?_⟩ hR.shr fun m s hm => ?_
  · exact ⟨(hbs m (by omega)).1, (hbs m (by omega)).2.1⟩
  · rw [lk_cons] at hm
    split at hm
    · rename_i e; cases hm; subst e; exact hr
    · exact hR.keepA hm hle fun _ _ => rfl
  · have hm := cls m s hm hs'
    have hk := cls k t hk ht
    rw [(hbs m (hne m s hm)).1] at hq
    rw [(hbs k (hne k t hk)).1] at hq'
    exact hR.inj m k s t q q' hm hk hs' ht hq hq' e
  · have hm := cls m s hm hs'
    rw [(hbs m (hne m s hm)).1] at hq
    exact .inr ⟨m, s, q, hm, hs', hq, rfl⟩
  · refine ⟨fun ho => ?_, fun k hk => ?_⟩
    · have hm := cls m s hm ho
      rw [(hbs m (hne m s hm)).2.2.1]
      exact hR.shr.1 m s hm ho
    · rw [lk_cons] at hm
      split at hm
      · rename_i e
        subst e
        refine hF k ?_
        simpa only [sh, Sg.vwc, if_true] using hk
      · have hm2 := hne m s hm
        refine ⟨m, s, hm, ?_⟩
        unfold sh at hk ⊢
        rw [(hbs m hm2).2.2.1] at hk
        exact hk
theorem lk_rowsU : ∀ {rs : List Rw} {nx n : Nat} {h : Hp}, lk (rowsU rs nx h) n = if nx ≤ n ∧ n < nx + rs.length then rs[n - nx]? else lk h n
  | [], nx, n, h => by simp only [rowsU, List.length_nil, Nat.add_zero]; rw [if_neg (by omega)]
  | r :: rs, nx, n, h => by
      simp only [rowsU]
      rw [lk_rowsU, lk_cons]
      simp only [List.length_cons]
      by_cases h1 : nx = n
      · subst h1
        rw [if_neg (by omega), if_pos rfl, if_pos (by omega)]; simp
      · by_cases h2 : nx + 1 ≤ n ∧ n < nx + 1 + rs.length
        · rw [if_pos h2, if_pos (by omega), show n - nx = (n - (nx + 1)) + 1 by omega, List.getElem?_cons_succ]
        · rw [if_neg h2, if_neg h1, if_neg (by omega)]
/-- What stands in the cells of a deep row. -/
theorem deep_get (hR : Rl W σ h w) {n : Nat} {r : Rw} {ds : List DV} {b s : Nat} (hl : lk h n = some r) (hd : deepOf r.kd = some ds) (hb : σ.b n = some (b, s)) : ∀ j d, ds[j]? = some d → ∃ u, w.cell? ⟨b, s + j, none⟩ = some u ∧ DR W w (sh σ n) d u := by
  obtain ⟨b', s', vs, h1, h2, h3⟩ := hR.row n r hl
  rw [hb] at h1
  cases h1
  unfold deepOf at hd
  intro j d hj
  have fin : ∀ (us rest : List Value) (t : TypeId), s = 0 → w.heap[b]? = some (.cells (us ++ rest).toArray t (0, 0)) → DRv W w (sh σ n) ds us → ds[j]? = some d → ∃ u, w.cell? ⟨b, s + j, none⟩ = some u ∧ DR W w (sh σ n) d u := fun us rest t hs hc hv hj => by
    subst hs
    have key : ∀ {ds : List DV} {us : List Value} {j : Nat} {d : DV}, DRv W w (sh σ n) ds us → ds[j]? = some d → ∃ u, us[j]? = some u ∧ DR W w (sh σ n) d u := by
      intro ds
      induction ds with
      | nil => intro us j d _ h; simp at h
      | cons x ds ih =>
        intro us j d h hj
        simp only [DRv] at h
        obtain ⟨u, us', rfl, h1, h2⟩ := h
        cases j with
        | zero => simp only [List.getElem?_cons_zero, Option.some.injEq] at hj; subst hj; exact ⟨u, rfl, h1⟩
        | succ j =>
          obtain ⟨v, g1, g2⟩ := ih h2 (by simpa using hj)
          exact ⟨v, by simpa using g1, g2⟩
    obtain ⟨u, hu, hdr⟩ := key hv hj
    refine ⟨u, ?_, hdr⟩
    have hj2 : (us ++ rest)[j]? = some u := by rw [List.getElem?_append_left (List.getElem?_eq_some_iff.1 hu).1]; exact hu
    simp only [World.cell?, hc, Nat.zero_add]
    simpa using hj2
  split at hd
  · rename_i ds' hk
    cases hd
    rw [hk] at h3
    rcases h3.2 with h4 | h4
    · subst h4; simp at hj
    · obtain ⟨u, hu, hdr⟩ := h4.get j d hj
      refine ⟨u, ?_, hdr⟩
      rcases hu with ⟨g1, g2⟩ | ⟨_, g2⟩
      · exact (hR.ext.cell b (s + j) g1).trans g2
      · exact g2
  · rename_i sz z ds' hk
    cases hd
    rw [hk] at h3
    obtain ⟨rfl, _, _, us, t, rest, c, _, hc, _, _, _, hv⟩ := h3
    exact fin us rest t rfl hc hv hj
  · rename_i sz z ds' hk
    cases hd
    rw [hk] at h3
    obtain ⟨_, rfl, _, _, us, t, rest, c, _, hc, _, _, _, hv⟩ := h3
    exact fin us rest t rfl hc (hv W) hj
  · rename_i ds' hk
    cases hd
    rw [hk] at h3
    rcases h3.2.2 with h4 | h4
    · subst h4; simp at hj
    · obtain ⟨u, hu, hdr⟩ := h4.get j d hj
      refine ⟨u, ?_, by rw [h3.1]; exact hdr⟩
      rcases hu with ⟨g1, g2⟩ | ⟨_, g2⟩
      · exact (hR.ext.cell b (s + j) g1).trans g2
      · exact g2
  · cases hd
/-- What is read, cell by cell. -/
theorem shD_ok {deep uc : Bool} {n : Nat} {r0 : Rw} {ds : List DV} {F : List Nat} {b s : Nat} {o0 : Nat} (hget : ∀ j d, ds[j]? = some d → ∃ u, w.cell? ⟨b, s + j, none⟩ = some u ∧ DR W w F d u) :
    ∀ {zs : List Value} {j0 nx : Nat} {l : List Value} {rs : List Rw} {ob : List Prop} {σ : Sg} {h : Hp}, shD deep uc ds o0 zs j0 nx = some (l, rs, ob) → Alls ob → Rl W σ h w → Fresh σ nx (nx + rs.length) → lk h n = some r0 → σ.b n = some (b, s) → sh σ n = F →
    ∃ σ' us, Stp W nx (nx + rs.length) σ h w σ' (rowsU rs nx h) w ∧ renL σ' l = some us ∧ ∀ j u, us[j]? = some u → w.cell? ⟨b, s + (o0 + j0) + j, none⟩ = some u
  | [], j0, nx, l, rs, ob, σ, h, hs, ho, hR, hf, hl, hb, hsh => by
      simp only [shD, Option.some.injEq, Prod.mk.injEq] at hs
      obtain ⟨rfl, rfl, rfl⟩ := hs
      exact ⟨σ, [], Stp.refl hR nx, rfl, fun j u hj => by simp at hj⟩
  | z :: zs, j0, nx, l, rs, ob, σ, h, hs, ho, hR, hf, hl, hb, hsh => by
      -- a cell that is no slice
      have plain : ∀ (v : Value) {l' : List Value} {rs' : List Rw} {ob' : List Prop}, shD deep uc ds o0 zs (j0 + 1) nx = some (l', rs', ob') → l = v :: l' → rs = rs' → ob = (ds[(o0 + j0)]? = some (.fl v)) :: ob' →
          ∃ σ' us, Stp W nx (nx + rs.length) σ h w σ' (rowsU rs nx h) w ∧ renL σ' l = some us ∧ ∀ j u, us[j]? = some u → w.cell? ⟨b, s + (o0 + j0) + j, none⟩ = some u := by
        intro v l' rs' ob' hh e1 e2 e3
        subst e1; subst e2; subst e3
        obtain ⟨h1, h2⟩ := ho
        obtain ⟨σ', us, S, hv, hc⟩ := shD_ok hget hh h2 hR hf hl hb hsh
        obtain ⟨u, hu, hdr⟩ := hget (o0 + j0) _ h1
        simp only [DR] at hdr
        obtain ⟨rfl, hfl⟩ := hdr
        refine ⟨σ', u :: us, S, renL_mk (hfl σ') hv, fun j x hj => ?_⟩
        cases j with
        | zero =>
          simp only [List.getElem?_cons_zero, Option.some.injEq] at hj
          subst hj
          rw [Nat.add_zero]; exact hu
        | succ j =>
          have := hc j x (by simpa using hj)
          rwa [show s + (o0 + (j0 + 1)) + j = s + (o0 + j0) + (j + 1) by omega] at this
      -- a slice
      have slice : ∀ (r : Rw) (sub : List DV) (cc : Nat) {l' : List Value} {rs' : List Rw} {ob' : List Prop}, shD deep uc ds o0 zs (j0 + 1) (nx + 1) = some (l', rs', ob') → l = .slice (some ⟨nx, 0, none⟩) (dLen ds (o0 + j0)) (bif uc then capBig + nx else cc) :: l' → rs = r :: rs' → ob = (DSl ds (o0 + j0) (dLen ds (o0 + j0)) (bif uc then none else some cc) sub) :: ob' → ShKd r.kd →
          (∀ (τ : Sg) (b' s' : Nat), τ.b nx = some (b', s') → (sub = [] ∨ DRs W w (sh τ nx) b' s' sub) → RowOk W τ w nx r) →
          ∃ σ' us, Stp W nx (nx + rs.length) σ h w σ' (rowsU rs nx h) w ∧ renL σ' l = some us ∧ ∀ j u, us[j]? = some u → w.cell? ⟨b, s + (o0 + j0) + j, none⟩ = some u := by
        intro r sub cc l' rs' ob' hh e1 e2 e3 hk hro
        subst e1; subst e2; subst e3
        simp only [List.length_cons] at hf ⊢
        obtain ⟨⟨c0, h1, hc0⟩, h2⟩ := ho
        obtain ⟨u, hu, hdr⟩ := hget (o0 + j0) _ h1
        have hf1 : Fresh σ nx (nx + 1) := hf.low (by omega)
        have step : ∃ p c F' E, Stp W nx (nx + 1) σ h w (σ.vwc nx p c F' E) ((nx, r) :: h) w ∧ renV (σ.vwc nx p c F' E) (.slice (some ⟨nx, 0, none⟩) (dLen ds (o0 + j0)) (bif uc then capBig + nx else cc)) = some u := by
          have cps : ∀ {p c F' E}, (∀ k, c0 = some k → c = k ∧ k ≤ 9223372036854775807) → cpR (σ.vwc nx p c F' E) (bif uc then capBig + nx else cc) = some c := fun {p c F' E} hk => by
            cases uc with
            | true => simp only [cond_true]; unfold cpR; rw [if_neg (by omega), Nat.add_sub_cancel_left]; simp [Sg.vwc]
            | false =>
              simp only [cond_false] at hc0 ⊢
              rcases hc0 with hc0 | hc0
              · cases hc0
              · obtain ⟨this, hc9⟩ := hk cc hc0
                subst this
                unfold cpR; rw [if_pos (by unfold capBig; omega)]
          simp only [DR] at hdr
          rcases hdr with ⟨g1, g2, g3, ea, rfl⟩ | ⟨b1, s1, c, rfl, g3, g4⟩
          · refine ⟨(b, s), 0, none, ea, Stp.viewc hR hf1 _ _ _ _ (fun k hk => by cases hk) hk (hro _ b s (by simp [Sg.vwc]) (.inl g2)), ?_⟩
            have hcp := cps (p := (b, s)) (c := 0) (F' := none) (E := ea) (fun k hk => by
              rcases g3 with g3 | g3
              · rw [g3] at hk; cases hk
              · rw [g3] at hk; cases hk; exact ⟨rfl, by omega⟩)
            rw [g1]
            have := renV_nil (σ := σ.vwc nx (b, s) 0 none ea) (n := nx) (o := 0) (l := 0) (c := bif uc then capBig + nx else cc) (p := (b, s)) (by simp [Sg.vwc]) (by simp [Sg.vwc]) rfl hcp
            rw [show (σ.vwc nx (b, s) 0 none ea).e nx = ea by simp [Sg.vwc]] at this
            exact this
          · refine ⟨(b1, s1), c, some F, none, Stp.viewc hR hf1 _ _ _ _ (fun k hk => ⟨n, r0, hl, by rw [hsh]; exact hk⟩) hk (hro _ b1 s1 (by simp [Sg.vwc]) ?_), ?_⟩
            · have : sh (σ.vwc nx (b1, s1) c (some F) none) nx = F := by simp [sh, Sg.vwc]
              rw [this]; exact g4
            · have hcp := cps (p := (b1, s1)) (c := c) (F' := some F) (E := none) fun k hk => ⟨(g3 k hk).1, (g3 k hk).2.2⟩
              have := renV_slice_mk (σ := σ.vwc nx (b1, s1) c (some F) none) (n := nx) (o := 0) (l := dLen ds (o0 + j0)) (c := bif uc then capBig + nx else cc) (c' := c) (p := (b1, s1)) (by simp [Sg.vwc]) hcp (by simp [Sg.vwc])
              simpa using this
        obtain ⟨p, c, F', E, S1, hv1⟩ := step
        have hne : n ≠ nx := fun e => by
          subst e
          rw [(hf1 n (Nat.le_refl _) (by omega)).1] at hb
          cases hb
        obtain ⟨σ', us, S2, hv, hc⟩ := shD_ok hget (σ := σ.vwc nx p c F' E) (h := (nx, r) :: h) hh h2 S1.rl (by
          intro k h1 h2
          have := hf k (by omega) (by omega)
          simp only [Sg.vwc]
          rw [if_neg (by omega), if_neg (by omega)]
          exact this) (by rw [lk_cons, if_neg (Ne.symm hne)]; exact hl) (by simp only [Sg.vwc]; rw [if_neg hne]; exact hb) (by
          unfold sh at hsh ⊢
          simp only [Sg.vwc]
          rw [if_neg hne]; exact hsh)
        have hS := S1.trans S2 (by omega) (by omega)
        rw [show nx + 1 + rs'.length = nx + (rs'.length + 1) by omega] at hS
        refine ⟨σ', u :: us, hS, renL_mk (renV_le S2.le _ _ hv1) hv, fun j x hj => ?_⟩
        cases j with
        | zero =>
          simp only [List.getElem?_cons_zero, Option.some.injEq] at hj
          subst hj
          rw [Nat.add_zero]; exact hu
        | succ j =>
          have := hc j x (by simpa using hj)
          rwa [show s + (o0 + (j0 + 1)) + j = s + (o0 + j0) + (j + 1) by omega] at this
      cases z with
      | int k i =>
        simp only [shD] at hs
        split at hs
        · rename_i l' rs' ob' hh
          simp only [Option.some.injEq, Prod.mk.injEq] at hs
          exact plain _ hh hs.1.symm hs.2.1.symm hs.2.2.symm
        · cases hs
      | bool x =>
        simp only [shD] at hs
        split at hs
        · rename_i l' rs' ob' hh
          simp only [Option.some.injEq, Prod.mk.injEq] at hs
          exact plain _ hh hs.1.symm hs.2.1.symm hs.2.2.symm
        · cases hs
      | string x =>
        simp only [shD] at hs
        split at hs
        · rename_i l' rs' ob' hh
          simp only [Option.some.injEq, Prod.mk.injEq] at hs
          exact plain _ hh hs.1.symm hs.2.1.symm hs.2.2.symm
        · cases hs
      | slice a ll cc =>
        cases a with
        | some a => simp [shD] at hs
        | none =>
          simp only [shD] at hs
          split at hs
          · rename_i l' rs' ob' hh
            simp only [Option.some.injEq, Prod.mk.injEq] at hs
            obtain ⟨rfl, rfl, rfl⟩ := hs
            cases deep with
            | true => exact slice ⟨.sd (dSub ds (o0 + j0)), []⟩ _ _ hh rfl rfl rfl (.sd _) fun τ b' s' e1 e2 => ⟨b', s', [], e1, rfl, rfl, e2⟩
            | false =>
              refine slice ⟨.old, dVals ds (o0 + j0)⟩ _ _ hh rfl rfl rfl .old fun τ b' s' e1 e2 => ?_
              simp only [cond_false] at e2
              rcases e2 with e2 | e2
              · have : dVals ds (o0 + j0) = [] := by
                  cases hv : dVals ds (o0 + j0) with
                  | nil => rfl
                  | cons x y => rw [hv] at e2; cases e2
                rw [this]
                exact ⟨b', s', [], e1, rfl, .inl rfl⟩
              · obtain ⟨g1, g2⟩ := e2.flat hR.ext
                exact ⟨b', s', _, e1, g1 τ, .inr g2⟩
          · cases hs
      | _ => simp [shD] at hs
theorem odL_tidy {md : Nat} {ev : Operand → Option Value} {nx : Nat} {op : Op} {v : Value} {h' : Hp} {nx' : Nat} {d : List Nat} {ob : List Prop} (hs : odL P md ev h nx op = some ((v, h', nx', d), ob)) : Tidy h nx h' nx' d := by
  have key : ∀ rs : List Rw, Tidy h nx (rowsU rs nx h) (nx + rs.length) [] := fun rs =>
    ⟨Nat.le_add_right _ _, fun n hn _ => by rw [lk_rowsU, if_neg (by omega)], fun hB n hn => by rw [lk_rowsU, if_neg (by omega)]; exact hB n (by omega)⟩
  unfold odL at hs
  split at hs
  case h_2 => cases hs
  split at hs
  case h_2 => cases hs
  split at hs
  case h_2 => cases hs
  split at hs
  case h_2 => cases hs
  split at hs
  case h_2 => cases hs
  split at hs
  case h_2 => cases hs
  obtain ⟨_, hs⟩ := bif_of hs
  rcases bif_or hs with ⟨_, hs⟩ | ⟨_, hs⟩
  · simp only [Option.some.injEq, Prod.mk.injEq] at hs
    obtain ⟨⟨rfl, rfl, rfl, rfl⟩, _⟩ := hs
    exact key _
  · split at hs
    · simp only [Option.some.injEq, Prod.mk.injEq] at hs
      obtain ⟨⟨rfl, rfl, rfl, rfl⟩, _⟩ := hs
      exact key _
    · cases hs
theorem odL_ok {a : Act} (hR : Rl W σ h w) {md : Nat} {ev : Operand → Option Value} {nx nx' : Nat} (hf : Fresh σ nx nx') (H : Evs σ ev a) {o : Oper} {v : Value} {h' : Hp} {d : List Nat} {ob : List Prop} (hs : odL P md ev h nx o.op = some ((v, h', nx', d), ob)) (ho : Alls ob) :
    ∃ σ' w' v', Stp W nx nx' σ h w σ' h' w' ∧ renV σ' v = some v' ∧ Ends P a o w v' w' := by
  unfold odL at hs
  split at hs
  case h_2 => cases hs
  rename_i t x hop
  split at hs
  case h_2 => cases hs
  rename_i n off hx
  split at hs
  case h_2 => cases hs
  rename_i r0 hl
  split at hs
  case h_2 => cases hs
  rename_i ds dd i hdeep hu hi
  split at hs
  case h_2 => cases hs
  rename_i z hz
  split at hs
  case h_2 => cases hs
  rename_i l rs ob' hd
  obtain ⟨hlen, hs⟩ := bif_of hs
  have hob : ShOb P t (mdD md) (mdU md) ds off nx → Alls ob' := fun e => by unfold ShOb at e; simpa only [hi, hz, hd] using e
  have hx' := H x _ hx
  obtain ⟨p, hb, hp, hnn⟩ := renV_ptr hx'
  -- the value
  have main : ∀ v0, loadV P t l 0 = some v0 → nx' = nx + rs.length → h' = rowsU rs nx h → v = v0 → Alls ob' → ∃ σ' w' v', Stp W nx nx' σ h w σ' h' w' ∧ renV σ' v = some v' ∧ Ends P a o w v' w' := by
    intro v0 hld e1 e2 e3 ho'
    subst e1; subst e2; subst e3
    obtain ⟨σ', us, S, hv, hc⟩ := shD_ok (deep_get hR hl hdeep (b := p.1) (s := p.2) hb) hd ho' hR hf hl hb rfl
    obtain ⟨v', h4, h5⟩ := loadV_ok (P := P) hv hc hld
    refine ⟨σ', w, v', S, h4, .inl ?_⟩
    unfold execOp
    rw [hop]
    simp only [hp, Instr.loadAt, Instr.sureAddr, Sem.run_bind, Sem.run_pure, Result.andThen_ok]
    simp only [Nat.add_zero] at h5
    rw [h5]
    rfl
  rcases bif_or hs with ⟨hrow, hs⟩ | ⟨hrow, hs⟩
  · simp only [Option.some.injEq, Prod.mk.injEq] at hs
    obtain ⟨⟨rfl, rfl, rfl, rfl⟩, rfl⟩ := hs
    refine main _ ?_ rfl rfl rfl (hob ho.1)
    unfold loadV
    rw [hu]
    simp only [hrow, cond_true, hi, frc_eq, List.drop_zero]
    have e := Nat.eq_of_beq_eq_true hlen
    rw [List.take_of_length_le (by omega), hlen]
    rfl
  · split at hs
    · simp only [Option.some.injEq, Prod.mk.injEq] at hs
      obtain ⟨⟨rfl, rfl, rfl, rfl⟩, rfl⟩ := hs
      refine main _ ?_ rfl rfl rfl (hob ho.1)
      unfold loadV
      rw [hu]
      simp only [hrow, cond_false]
      rfl
    · cases hs
end

/-! ### maps whose entries are not known -/
def keyEq : Value → Value → Bool
  | .agg ⟨[.int a x, .int b y]⟩, .agg ⟨[.int c u, .int d v]⟩ => (decide (a = c) && (x == u)) && (decide (b = d) && (y == v))
  | _, _ => false
theorem keyEq_ok {k k' : Value} (h : keyEq k k' = true) : k = k' := by
  unfold keyEq at h
  split at h
  · simp only [Bool.and_eq_true, decide_eq_true_eq, beq_iff_eq] at h
    obtain ⟨⟨rfl, rfl⟩, rfl, rfl⟩ := h
    rfl
  · cases h
def upE (k v : Value) : List (Value × Value) → List (Value × Value)
  | [] => [(k, v)]
  | (k', u) :: es => bif keyEq k k' then (k, v) :: es else (k', u) :: upE k v es
def fdE (k : Value) : List (Value × Value) → Option Value
  | [] => none
  | (k', u) :: es => bif keyEq k k' then some u else fdE k es
def bE (k : Value) (es : List (Value × Value)) : Bool := match fdE k es with | some (.bool b) => b | _ => false
/-- The keys are such that two of them can be compared. -/
def KeysOk (P : Program) (t : TypeId) (k : Value) (es : List (Value × Value)) : Prop := ∀ e ∈ es, fixK e.1 = true ∧ eqV P 10000 t k e.1 = some (keyEq k e.1)
def BoolsOk (es : List (Value × Value)) : Prop := ∀ e ∈ es, ∃ b, e.2 = .bool b
theorem KeysOk.find {P : Program} {t : TypeId} {k : Value} : ∀ {es : List (Value × Value)}, KeysOk P t k es → findV P t k es = some (fdE k es)
  | [], _ => rfl
  | (k', u) :: es, h => by
      obtain ⟨h1, h2⟩ := h (k', u) (List.mem_cons_self ..)
      have ih := KeysOk.find (es := es) fun e he => h e (List.mem_cons_of_mem _ he)
      simp only at h1 h2
      simp only [findV, fdE, h1, cond_true, h2]
      cases keyEq k k' with
      | true => rfl
      | false => simpa using ih
theorem BoolsOk.find {k : Value} : ∀ {es : List (Value × Value)}, BoolsOk es → fdE k es = none ∨ ∃ b, fdE k es = some (.bool b)
  | [], _ => .inl rfl
  | (k', u) :: es, h => by
      obtain ⟨b, hb⟩ := h (k', u) (List.mem_cons_self ..)
      simp only at hb
      subst hb
      simp only [fdE]
      cases keyEq k k' with
      | true => exact .inr ⟨b, rfl⟩
      | false => exact BoolsOk.find fun e he => h e (List.mem_cons_of_mem _ he)
section
variable {P : Program} {W : World} {σ : Sg} {h : Hp} {w : World}
theorem ask_up {t : TypeId} {k v : Value} (hk : fixK k = true) : ∀ (A : List MapEntry) (j : Nat), KeysOk P t k (A.map fun e => (e.key, e.val)) →
    ((Instr.findAsking t k A j).run P w = .ok none w ∧ upE k v (A.map fun e => (e.key, e.val)) = (A.map fun e => (e.key, e.val)) ++ [(k, v)]) ∨
    ∃ i u e, (Instr.findAsking t k A j).run P w = .ok (some (j + i, u)) w ∧ A[i]? = some e ∧ e.key = k ∧ upE k v (A.map fun e => (e.key, e.val)) = ((A.modify i fun e => { e with key := k, val := v }).map fun e => (e.key, e.val))
  | [], j, _ => .inl ⟨rfl, rfl⟩
  | a :: A, j, h => by
      obtain ⟨hf, he⟩ := h (a.key, a.val) (by simp)
      have ih := ask_up (v := v) hk A (j + 1) fun e he => h e (by simp only [List.map_cons]; exact List.mem_cons_of_mem _ he)
      simp only at hf he
      have e2 : (Op.equal t k a.key).run P w = .ok (keyEq k a.key) w := eqV_ok (P := P) (σ := ⟨fun _ => none, fun _ => none, fun _ => none, fun _ => none⟩) (w := w) 10000 t k a.key k a.key _ he (fixK_ren _ hk) (fixK_ren _ hf)
      cases hb : keyEq k a.key with
      | true =>
        rw [hb] at e2
        refine .inr ⟨0, a.val, a, by simp [Instr.findAsking, e2], rfl, (keyEq_ok hb).symm, ?_⟩
        simp only [List.map_cons, upE, hb, cond_true, List.modify_zero_cons]
      | false =>
        rw [hb] at e2
        rcases ih with ⟨h1, h2⟩ | ⟨i, u, e, h1, h2, h3, h4⟩
        · refine .inl ⟨by simpa [Instr.findAsking, e2] using h1, ?_⟩
          simp only [List.map_cons, upE, hb, cond_false, h2, List.cons_append]
        · refine .inr ⟨i + 1, u, e, ?_, by simpa using h2, h3, ?_⟩
          · rw [show j + (i + 1) = j + 1 + i by omega]
            simpa [Instr.findAsking, e2] using h1
          · simp only [List.map_cons, upE, hb, cond_false, h4, List.modify_succ_cons]
theorem find_up {t : TypeId} (ht : keyT P t = true) {k v : Value} (hk : fixK k = true) {A : List MapEntry} (h : KeysOk P t k (A.map fun e => (e.key, e.val))) :
    ((Instr.findKey t k A).run P w = .ok none w ∧ upE k v (A.map fun e => (e.key, e.val)) = (A.map fun e => (e.key, e.val)) ++ [(k, v)]) ∨
    ∃ i u e, (Instr.findKey t k A).run P w = .ok (some (i, u)) w ∧ A[i]? = some e ∧ e.key = k ∧ upE k v (A.map fun e => (e.key, e.val)) = ((A.modify i fun e => { e with key := k, val := v }).map fun e => (e.key, e.val)) := by
  obtain ⟨e, kk, i, h1, h2, h3, h4⟩ := keyT_ok ht
  have key : (Instr.findKey t k A).run P w = (Instr.findAsking t k A 0).run P w := by
    cases A with
    | nil => simp [Instr.findKey, run_underlying h1, Instr.findNow, Instr.findAsking]
    | cons a A => simp [Instr.findKey, run_underlying h1, Instr.findNow, Instr.sameNow]
  have := ask_up (P := P) (w := w) (v := v) hk A 0 h
  rw [key]
  simpa only [Nat.zero_add] using this
theorem fix_bits {k : Value} (hk : fixK k = true) : Instr.sameBits 10000 k k = true := by
  unfold fixK at hk
  split at hk
  · simp [Instr.sameBits]
  · cases hk
/-- Mode 40. -/
def mpZ (P : Program) (ev : Operand → Option Value) (h : Hp) (nx : Nat) : Op → Option (Out × List Prop)
  | .lookup t x i false => match ev x, ev i, P.underlying t with
    | some x', some i', some (.map kt et) => match mapEs h x', P.info? et with
      | some es, some inf => match inf.zero with
        | some (.bool false) => bif keyT P kt && fixK i' then some ((.bool (bE i' es), h, nx, []), [KeysOk P kt i' es, BoolsOk es]) else none
        | _ => none
      | _, _ => none
    | _, _, _ => none
  | .mapUpdate t m k v => match P.underlying t, ev m, ev k, ev v with
    | some (.map kt _), some (.map (some n)), some k', some v' => match lk h n with
      | some ⟨.mp es, _⟩ => bif keyT P kt && fixK k' && noAd v' then some ((undef, setH h n ⟨.mp (upE k' v' es), []⟩, nx, [n]), [KeysOk P kt k' es]) else none
      | _ => none
    | _, _, _, _ => none
  | _ => none
theorem mpZ_tidy {ev : Operand → Option Value} {nx : Nat} {op : Op} {v : Value} {h' : Hp} {nx' : Nat} {d : List Nat} {ob : List Prop} (hs : mpZ P ev h nx op = some ((v, h', nx', d), ob)) : Tidy h nx h' nx' d := by
  unfold mpZ at hs
  split at hs
  · split at hs
    case h_2 => cases hs
    split at hs
    case h_2 => cases hs
    split at hs
    case h_2 => cases hs
    obtain ⟨_, hs⟩ := bif_of hs
    simp only [Option.some.injEq, Prod.mk.injEq] at hs
    obtain ⟨⟨rfl, rfl, rfl, rfl⟩, _⟩ := hs
    exact ⟨Nat.le_refl _, fun _ _ _ => rfl, fun hB => hB⟩
  · split at hs
    case h_2 => cases hs
    split at hs
    case h_2 => cases hs
    rename_i n k' v' _ _ _ _ _ es cs hl
    obtain ⟨_, hs⟩ := bif_of hs
    simp only [Option.some.injEq, Prod.mk.injEq] at hs
    obtain ⟨⟨rfl, rfl, rfl, rfl⟩, _⟩ := hs
    have tdy : ∀ m, m ≠ n → lk (setH h n ⟨.mp (upE k' v' es), []⟩) m = lk h m := fun m hm => by rw [lk_setH, if_neg (Ne.symm hm)]
    refine ⟨Nat.le_refl _, fun m _ hm => tdy m (by simpa using hm), fun hB m hm => ?_⟩
    rw [tdy m (fun e => by subst e; rw [hB m hm] at hl; cases hl)]
    exact hB m hm
  · cases hs
theorem mpZ_ok {a : Act} (hR : Rl W σ h w) {ev : Operand → Option Value} {nx nx' : Nat} (hf : Fresh σ nx nx') (H : Evs σ ev a) {o : Oper} {v : Value} {h' : Hp} {d : List Nat} {ob : List Prop} (hs : mpZ P ev h nx o.op = some ((v, h', nx', d), ob)) (ho : Alls ob) :
    ∃ σ' w' v', Stp W nx nx' σ h w σ' h' w' ∧ renV σ' v = some v' ∧ Ends P a o w v' w' := by
  unfold mpZ at hs
  split at hs
  · rename_i t x i hop
    split at hs
    case h_2 => cases hs
    rename_i x' i' kt et hx hi hu
    split at hs
    case h_2 => cases hs
    rename_i es inf hes hinf
    split at hs
    case h_2 => cases hs
    rename_i hz
    obtain ⟨hg, hs⟩ := bif_of hs
    simp only [Option.some.injEq, Prod.mk.injEq] at hs
    obtain ⟨⟨rfl, rfl, rfl, rfl⟩, rfl⟩ := hs
    obtain ⟨g1, g2, _⟩ := ho
    have hl : lookV P h t x' i' false = some (.bool (bE i' es)) := by
      unfold lookV
      simp only [hu, hes, hinf, hg, cond_true, g1.find, hz]
      unfold bE
      rcases BoolsOk.find (k := i') g2 with e | ⟨b, e⟩
      · rw [e]; rfl
      · rw [e]; rfl
    obtain ⟨h1, h2⟩ := lookV_ok hR hl (H x _ hx) (H i _ hi)
    refine ⟨σ, w, _, Stp.refl hR nx, h1, .inl ?_⟩
    unfold execOp
    rw [hop]
    simp only [h2, Sem.run_bind, Result.andThen_ok, Sem.run_pure]
  · rename_i t m k v0 hop
    split at hs
    case h_2 => cases hs
    rename_i kt et n k' v' hu hm hk hv0
    split at hs
    case h_2 => cases hs
    rename_i es cs hl
    obtain ⟨hg, hs⟩ := bif_of hs
    simp only [Option.some.injEq, Prod.mk.injEq] at hs
    obtain ⟨⟨rfl, rfl, rfl, rfl⟩, rfl⟩ := hs
    simp only [Bool.and_eq_true] at hg
    obtain ⟨⟨g1, g2⟩, g3⟩ := hg
    obtain ⟨hKO, _⟩ := ho
    have hm' := H m _ hm
    have hk' := H k _ hk
    have hv' := H v0 _ hv0
    rw [fixK_ren σ g2] at hk'
    rw [noAd_ren σ g3] at hv'
    obtain ⟨b, s, vs, hb, hvs, h1, h2, h3, A, kk, hA, hAe⟩ := hR.row _ _ hl
    simp only [renV, hb, Option.some.injEq] at hm'
    have hck := check_ok (P := P) (w := w) g1 g2 false
    have hlt := hR.lt hl (fun e => by cases e) hb
    have step : ∀ (A' : Array MapEntry) (kk' : Nat), A'.toList.map (fun e => (e.key, e.val)) = upE k' v' es → Stp W nx nx σ h w σ (setH h n ⟨.mp (upE k' v' es), []⟩) (w.putObj b (.map A' kk')) := fun A' kk' e =>
      Stp.turn hR hl (fun e => by cases e) hb (.map A' kk') (.mp (upE k' v' es)) (fun e => by cases e) ⟨h1, h2, rfl, _, _, World.putObj_heap_same hlt, e⟩ nx
    rw [← hAe] at hKO
    rcases find_up (P := P) (w := w) (v := v') g1 g2 hKO with ⟨f1, f2⟩ | ⟨i, u, e, f1, f2, f3, f4⟩
    · refine ⟨σ, _, undef, step (A.push { key := k', val := v', born := kk }) (kk + 1) (by rw [← hAe, f2]; simp), rfl, .inr ⟨?_, rfl⟩⟩
      unfold execOp
      rw [hop]
      have hset := MapKept.run_setObj_map (P := P) (.map (A.push { key := k', val := v', born := kk }) (kk + 1)) hA
      simp only [← hm', ← Option.some.inj hk', ← Option.some.inj hv', Instr.mapUpdate, Sem.run_bind, run_underlying hu, Result.andThen_ok, MapKept.run_getObj_map hA, hck, f1, hset, Sem.run_pure]
      rfl
    · have hA2 : A[i]? = some e := by rw [← f2]; simp
      refine ⟨σ, _, undef, step (A.modify i fun e => { e with key := k', val := v' }) kk (by rw [← hAe, f4]; simp), rfl, .inr ⟨?_, rfl⟩⟩
      unfold execOp
      rw [hop]
      have hset := MapKept.run_setObj_map (P := P) (.map (A.modify i fun e => { e with key := k', val := v' }) kk) hA
      simp only [← hm', ← Option.some.inj hk', ← Option.some.inj hv', Instr.mapUpdate, Sem.run_bind, run_underlying hu, Result.andThen_ok, MapKept.run_getObj_map hA, hck, f1, hA2, Option.map_some, Option.getD_some, f3, Instr.keyThatStays, fix_bits g2, if_true, hset, Sem.run_pure]
      rfl
  · cases hs
/-- append of a make, where there is no room (mode 41). -/
def anZ (P : Program) (ev : Operand → Option Value) (h : Hp) (nx : Nat) : Op → Option (Out × List Prop)
  | .call ⟨.builtin .append, args, ts⟩ => match ts.toList, evL ev args.toList with
    | [t, tx], some [.slice (some ⟨m, o, none⟩) len cap, .int kq k] => match P.underlying t, P.underlying tx with
      | some (.slice e), some (.int _) => match P.info? e, lk h m with
        | some i, some r => match i.zero with
          | some z => bif noAdL z.cells.toList && Nat.beq z.cells.toList.length i.size && Nat.ble 1 i.size then
              some ((.slice (some ⟨nx, 0, none⟩) (len + k.toNat) (capBig + nx), (nx, ⟨.room i.size z.cells.toList, tkD o (mlN len i.size) r.cs ++ zrep z.cells.toList (mlN k.toNat i.size)⟩) :: h, nx + 1, []), [0 < k ∧ cap < capBig ∧ cap < len + k.toNat, (len + k.toNat) * i.bytes ≤ 140737488355328 ∧ len + k.toNat ≤ 9223372036854775807, adN o (mlN len i.size) ≤ r.cs.length]) else none
          | none => none
        | _, _ => none
      | _, _ => none
    | _, _ => none
  | _ => none
theorem anZ_app {ev : Operand → Option Value} {nx : Nat} {args : Array Operand} {ts : Array TypeId} {out : Out} {ob : List Prop} (hs : anZ P ev h nx (.call ⟨.builtin .append, args, ts⟩) = some (out, ob)) (ho : Alls ob) :
    ∃ t tx s x, ts.toList = [t, tx] ∧ evL ev args.toList = some [s, x] ∧ appN P h nx t tx s x = some out := by
  simp only [anZ] at hs
  split at hs
  case h_2 => cases hs
  rename_i t tx m o len cap kq k ht hev
  split at hs
  case h_2 => cases hs
  rename_i e kk hu hux
  split at hs
  case h_2 => cases hs
  rename_i i r hi hl
  split at hs
  case h_2 => cases hs
  rename_i z hz
  obtain ⟨hg, hs⟩ := bif_of hs
  simp only [Option.some.injEq, Prod.mk.injEq] at hs
  obtain ⟨rfl, rfl⟩ := hs
  simp only [Bool.and_eq_true] at hg
  obtain ⟨⟨g1, g2⟩, g3⟩ := hg
  obtain ⟨⟨k1, k2, k3⟩, ⟨k4, k5⟩, k6, _⟩ := ho
  refine ⟨t, tx, _, _, ht, hev, ?_⟩
  simp only [adN_eq, mlN_eq, tkD_eq] at k6 ⊢
  unfold appN
  simp only [hu, hux, hi, hz, cellsAt_of hl k6, g1, g2, g3, decide_eq_true k1, blt_of k2, blt_of k3, Nat.ble_eq_true_of_le k4, Nat.ble_eq_true_of_le k5, Bool.and_self, cond_true, if_true]
theorem anZ_call {ev : Operand → Option Value} {nx : Nat} {op : Op} {x : Out × List Prop} (hs : anZ P ev h nx op = some x) : ∃ args ts, op = .call ⟨.builtin .append, args, ts⟩ := by
  unfold anZ at hs
  split at hs
  · exact ⟨_, _, rfl⟩
  · cases hs
theorem anZ_tidy {ev : Operand → Option Value} {nx : Nat} {op : Op} {v : Value} {h' : Hp} {nx' : Nat} {d : List Nat} {ob : List Prop} (hs : anZ P ev h nx op = some ((v, h', nx', d), ob)) : Tidy h nx h' nx' d := by
  unfold anZ at hs
  split at hs
  case h_2 => cases hs
  split at hs
  case h_2 => cases hs
  split at hs
  case h_2 => cases hs
  split at hs
  case h_2 => cases hs
  split at hs
  case h_2 => cases hs
  obtain ⟨_, hs⟩ := bif_of hs
  simp only [Option.some.injEq, Prod.mk.injEq] at hs
  obtain ⟨⟨rfl, rfl, rfl, rfl⟩, _⟩ := hs
  exact ⟨Nat.le_succ _, fun n hn _ => by rw [lk_cons, if_neg (by omega)], fun hB n hn => by rw [lk_cons, if_neg (by omega)]; exact hB n (by omega)⟩
theorem anZ_ok {a : Act} (hR : Rl W σ h w) {ev : Operand → Option Value} {nx nx' : Nat} (hf : Fresh σ nx nx') (H : Evs σ ev a) {o : Oper} {v : Value} {h' : Hp} {d : List Nat} {ob : List Prop} (hs : anZ P ev h nx o.op = some ((v, h', nx', d), ob)) (ho : Alls ob) :
    ∃ σ' w' v', Stp W nx nx' σ h w σ' h' w' ∧ renV σ' v = some v' ∧ Ends P a o w v' w' := by
  obtain ⟨args, ts, hop⟩ := anZ_call hs
  rw [hop] at hs
  obtain ⟨t, tx, s, x, hte, hev, hc⟩ := anZ_app hs ho
  obtain ⟨s', l, hs', hl, e1⟩ := renL_cons (evL_ok H hev)
  obtain ⟨x', l', hx', hl', rfl⟩ := renL_cons hl
  simp only [renL, Option.some.injEq] at hl'
  subst hl'
  have hargs : args.map a.eval = #[s', x'] := by apply Array.toList_inj.1; rw [Array.toList_map, e1]
  have hts' : ts = #[t, tx] := by apply Array.toList_inj.1; simpa using hte
  obtain ⟨σ', w', v', h1, h2, h3⟩ := appN_ok (P := P) (ty := o.type) hR hc hf hs' hx'
  refine ⟨σ', w', v', h1, h2, .inl ?_⟩
  unfold execOp
  simp only [hop, resolve, Sem.run_bind, Sem.run_pure, Result.andThen_ok, invoke, builtin, hargs, hts', h3]
/-- s[lo:] of a grown row, ahead of its end (mode 42): what is left of the capacity gets a name. -/
def saZ (P : Program) (ev : Operand → Option Value) (h : Hp) (nx : Nat) : Op → Option (Out × List Prop)
  | .slice t x (some lo) none none => match P.underlying t, ev x, ev lo with
    | some (.slice e), some (.slice (some ⟨n, o, none⟩) len cap), some (.int _ l) => match P.info? e, lk h n with
      | some i, some ⟨.room sz _, cs⟩ => bif Nat.beq sz i.size && Nat.blt 0 sz then
          some ((.slice (some ⟨n, ixO o l.toNat sz, none⟩) (sbN len l.toNat) (capBig + nx), h, nx + 1, []), [cap = capBig + n, 0 ≤ l ∧ l < (len : Int), len * sz ≤ cs.length]) else none
      | _, _ => none
    | _, _, _ => none
  | _ => none
theorem saZ_slc {ev : Operand → Option Value} {nx : Nat} {op : Op} {out : Out} {ob : List Prop} (hs : saZ P ev h nx op = some (out, ob)) (ho : Alls ob) : slcN P ev h nx op = some out := by
  unfold saZ at hs
  split at hs
  case h_2 => cases hs
  rename_i t x lo
  split at hs
  case h_2 => cases hs
  rename_i e n o len cap kl l hu hx hl
  split at hs
  case h_2 => cases hs
  rename_i i sz z cs hi hlk
  obtain ⟨hg, hs⟩ := bif_of hs
  simp only [Option.some.injEq, Prod.mk.injEq] at hs
  obtain ⟨rfl, rfl⟩ := hs
  obtain ⟨rfl, ⟨k1, k2⟩, k3, _⟩ := ho
  simp only [Bool.and_eq_true] at hg
  have hsz : 0 < sz := Nat.le_of_ble_eq_true hg.2
  have hd : len ≤ cs.length / sz := (Nat.le_div_iff_mul_le hsz).2 k3
  have hlt : l.toNat < cs.length / sz := by omega
  have hb : bdsV len (cs.length / sz) (some (.int kl l)) none none = some (l.toNat, len, cs.length / sz) := by
    have e : bdV (some (Value.int kl l)) 0 len = some l.toNat := by
      have : (0 ≤ l ∧ l ≤ (len : Int)) := ⟨k1, by omega⟩
      simp only [bdV, decide_eq_true this, cond_true]
    exact bdsV_eq (m := 0) rfl rfl e fun _ => rfl
  unfold slcN
  simp only [hu, hx, evO, hl, hi, Nat.add_sub_cancel_left, hlk, hb, hg.1, hg.2, Nat.ble_eq_true_of_le (Nat.le_add_right capBig n), Nat.beq_refl, Bool.and_self, cond_true, blt_of hlt, ixO_eq, sbN_eq]
theorem saZ_tidy {ev : Operand → Option Value} {nx : Nat} {op : Op} {v : Value} {h' : Hp} {nx' : Nat} {d : List Nat} {ob : List Prop} (hs : saZ P ev h nx op = some ((v, h', nx', d), ob)) : Tidy h nx h' nx' d := by
  unfold saZ at hs
  split at hs
  case h_2 => cases hs
  split at hs
  case h_2 => cases hs
  split at hs
  case h_2 => cases hs
  obtain ⟨_, hs⟩ := bif_of hs
  simp only [Option.some.injEq, Prod.mk.injEq] at hs
  obtain ⟨⟨rfl, rfl, rfl, rfl⟩, _⟩ := hs
  exact ⟨Nat.le_succ _, fun n _ _ => rfl, fun hB n hn => hB n (by omega)⟩
theorem saZ_ok {a : Act} (hR : Rl W σ h w) {ev : Operand → Option Value} {nx nx' : Nat} (hf : Fresh σ nx nx') (H : Evs σ ev a) {o : Oper} {v : Value} {h' : Hp} {d : List Nat} {ob : List Prop} (hs : saZ P ev h nx o.op = some ((v, h', nx', d), ob)) (ho : Alls ob) :
    ∃ σ' w' v', Stp W nx nx' σ h w σ' h' w' ∧ renV σ' v = some v' ∧ Ends P a o w v' w' := by
  obtain ⟨σ', w', v', h1, h2, h3⟩ := slcN_ok hR hf H (saZ_slc hs ho)
  exact ⟨σ', w', v', h1, h2, .inl h3⟩
def odY (P : Program) (md : Nat) (ev : Operand → Option Value) (h : Hp) (nx : Nat) (op : Op) : Option (Out × List Prop) := bif Nat.beq md 40 then mpZ P ev h nx op else bif Nat.beq md 41 then anZ P ev h nx op else bif Nat.beq md 42 then saZ P ev h nx op else odL P md ev h nx op
theorem odY_tidy {md : Nat} {ev : Operand → Option Value} {nx : Nat} {op : Op} {v : Value} {h' : Hp} {nx' : Nat} {d : List Nat} {ob : List Prop} (hs : odY P md ev h nx op = some ((v, h', nx', d), ob)) : Tidy h nx h' nx' d := by
  unfold odY at hs
  rcases bif_or hs with ⟨_, hs⟩ | ⟨_, hs⟩
  · exact mpZ_tidy hs
  rcases bif_or hs with ⟨_, hs⟩ | ⟨_, hs⟩
  · exact anZ_tidy hs
  rcases bif_or hs with ⟨_, hs⟩ | ⟨_, hs⟩
  · exact saZ_tidy hs
  · exact odL_tidy hs
theorem odY_ok {a : Act} (hR : Rl W σ h w) {md : Nat} {ev : Operand → Option Value} {nx nx' : Nat} (hf : Fresh σ nx nx') (H : Evs σ ev a) {o : Oper} {v : Value} {h' : Hp} {d : List Nat} {ob : List Prop} (hs : odY P md ev h nx o.op = some ((v, h', nx', d), ob)) (ho : Alls ob) :
    ∃ σ' w' v', Stp W nx nx' σ h w σ' h' w' ∧ renV σ' v = some v' ∧ Ends P a o w v' w' := by
  unfold odY at hs
  rcases bif_or hs with ⟨_, hs⟩ | ⟨_, hs⟩
  · exact mpZ_ok hR hf H hs ho
  rcases bif_or hs with ⟨_, hs⟩ | ⟨_, hs⟩
  · exact anZ_ok hR hf H hs ho
  rcases bif_or hs with ⟨_, hs⟩ | ⟨_, hs⟩
  · exact saZ_ok hR hf H hs ho
  · exact odL_ok hR hf H hs ho
end
end Go.Proofs.Ytojakfnljopjbaa
/-
  The told machine, part Zr: lists that are made and never written again: they are shared from the beginning.
-/
namespace Go.Proofs.Ytojakfnljopjbaa
set_option linter.unusedSimpArgs false
set_option linter.unusedVariables false
set_option linter.unusedSectionVars false
open Go Go.RowKit

section
variable {P : Program} {W : World} {lo hi : Nat} {σ σ' : Sg} {h h' : Hp} {w w' : World}
/-- A row of its own is shared from now on, under another name. -/
theorem Stp.freeze (S : Stp W lo hi σ h w σ' h' w') {NX : Nat} (h1 : lo ≤ NX) (h2 : hi ≤ NX) (hf : Fresh σ lo (NX + 1)) {k b c : Nat} {r : Rw} {cs : List Value} (hl : lk h' k = some r) (ho : r.own) (hb : σ'.b k = some (b, 0)) (hF : ∀ τ, renL τ cs = some cs)
    (hw : ∀ j v, cs[j]? = some v → w'.cell? ⟨b, 0 + j, none⟩ = some v) (hfk : FOk W w' [b]) :
    Stp W lo (NX + 1) σ h w (σ'.vwc NX (b, 0) c (some [b]) none) ((NX, ⟨.of, cs⟩) :: delH h' k) w' := by
  have hN : σ'.b NX = none ∧ σ'.c NX = none := by
    obtain ⟨e1, e2⟩ := S.only NX (.inr h2)
    obtain ⟨e3, e4⟩ := hf NX h1 (by omega)
    exact ⟨e1.trans e3, e2.trans e4⟩
  have hne : ∀ n r, lk h' n = some r → n ≠ NX := fun n r hl e => by
    subst e
    obtain ⟨b', s', vs', hb', _⟩ := S.rl.row _ _ hl
    rw [hN.1] at hb'
    cases hb'
  have hbs : ∀ m, m ≠ NX → (σ'.vwc NX (b, 0) c (some [b]) none).b m = σ'.b m ∧ (σ'.vwc NX (b, 0) c (some [b]) none).c m = σ'.c m ∧ (σ'.vwc NX (b, 0) c (some [b]) none).f m = σ'.f m ∧ (σ'.vwc NX (b, 0) c (some [b]) none).e m = σ'.e m := fun m hm => by simp only [Sg.vwc]; rw [if_neg hm, if_neg hm, if_neg hm, if_neg hm]; exact ⟨rfl, rfl, rfl, rfl⟩
  have hle : σ'.le (σ'.vwc NX (b, 0) c (some [b]) none) := by
    refine ⟨fun m q e => ?_, fun m k e => ?_, fun m q e => ?_⟩
    · have hm : m ≠ NX := fun e2 => by subst e2; rw [hN.1] at e; cases e
      rw [(hbs m hm).1]; exact e
    · have hm : m ≠ NX := fun e2 => by subst e2; rw [hN.2] at e; cases e
      rw [(hbs m hm).2.1]; exact e
    · have hm : m ≠ NX := fun e2 => by subst e2; rw [hN.1] at e; cases e
      exact (hbs m hm).2
  have cls : ∀ n s, lk ((NX, (⟨.of, cs⟩ : Rw)) :: delH h' k) n = some s → (n = NX ∧ s = ⟨.of, cs⟩) ∨ (n ≠ NX ∧ n ≠ k ∧ lk h' n = some s) := fun n s e => by
    rw [lk_cons] at e
    split at e
    · rename_i e1; cases e; exact .inl ⟨e1.symm, rfl⟩
    · rename_i e1
      rw [lk_delH] at e
      split at e
      · cases e
      · rename_i e2; exact .inr ⟨Ne.symm e1, Ne.symm e2, e⟩
  have hsh : sh (σ'.vwc NX (b, 0) c (some [b]) none) NX = [b] := by simp [sh, Sg.vwc]
  have noO : ¬ (⟨.of, cs⟩ : Rw).own := fun e => e .of
  have shs : ∀ n, n ≠ NX → sh (σ'.vwc NX (b, 0) c (some [b]) none) n = sh σ' n := fun n hn => by unfold sh; rw [(hbs n hn).2.2.1]
  refine ⟨S.le.trans hle, fun n hn => ?_, ⟨⟨S.rl.ext, fun n s hn => ?_, fun n m r1 r2 p q hn hm hr hs hp hq e => ?_⟩, fun n s hn hs => ?_, fun n s kk hn hk => ?_⟩, S.size, S.fr, fun n s p hn hs hp => ?_, fun n s kk hn hk => ?_⟩
  · have e0 : n ≠ NX := by omega
    obtain ⟨a1, a2⟩ := S.only n (by omega)
    exact ⟨(hbs n e0).1.trans a1, (hbs n e0).2.1.trans a2⟩
  · rcases cls n s hn with ⟨rfl, rfl⟩ | ⟨e1, e2, e3⟩
    · refine ⟨b, 0, cs, by simp [Sg.vwc], hF _, ?_, .inr ⟨?_, hw⟩⟩
      · rw [hsh]; exact hfk
      · rw [hsh]; exact List.mem_singleton.2 rfl
    · exact S.rl.keepA e3 hle fun _ _ => rfl
  · rcases cls n r1 hn with ⟨rfl, rfl⟩ | ⟨e1, e2, e3⟩
    · exact absurd hr noO
    rcases cls m r2 hm with ⟨e4, e5⟩ | ⟨e4, e5, e6⟩
    · subst e5; exact absurd hs noO
    rw [(hbs n e1).1] at hp
    rw [(hbs m e4).1] at hq
    exact S.rl.inj n m r1 r2 p q e3 e6 hr hs hp hq e
  · rcases cls n s hn with ⟨rfl, rfl⟩ | ⟨e1, e2, e3⟩
    · exact absurd hs noO
    · rw [(hbs n e1).2.2.1]; exact S.rl.shr.1 n s e3 hs
  · have own_ : ∀ m s q, lk ((NX, (⟨.of, cs⟩ : Rw)) :: delH h' k) m = some s → s.own → (σ'.vwc NX (b, 0) c (some [b]) none).b m = some q → m ≠ k ∧ lk h' m = some s ∧ σ'.b m = some q := fun m s q hm hs hq => by
      rcases cls m s hm with ⟨rfl, rfl⟩ | ⟨e1, e2, e3⟩
      · exact absurd hs noO
      · rw [(hbs m e1).1] at hq; exact ⟨e2, e3, hq⟩
    rcases cls n s hn with ⟨rfl, rfl⟩ | ⟨e1, e2, e3⟩
    · rw [hsh] at hk
      obtain rfl := List.mem_singleton.1 hk
      refine ⟨S.rl.lt hl ho hb, fun m s q hm hs hq e => ?_⟩
      obtain ⟨a1, a2, a3⟩ := own_ m s q hm hs hq
      exact a1 (S.rl.inj m k s r q (kk, 0) a2 hl hs ho a3 hb e)
    · rw [shs n e1] at hk
      obtain ⟨g1, g2⟩ := S.rl.shr.2 n s kk e3 hk
      refine ⟨g1, fun m s q hm hs hq => ?_⟩
      obtain ⟨a1, a2, a3⟩ := own_ m s q hm hs hq
      exact g2 m s q a2 hs a3
  · rcases cls n s hn with ⟨rfl, rfl⟩ | ⟨e1, e2, e3⟩
    · exact absurd hs noO
    · rw [(hbs n e1).1] at hp
      exact S.src n s p e3 hs hp
  · rcases cls n s hn with ⟨rfl, rfl⟩ | ⟨e1, e2, e3⟩
    · rw [hsh] at hk
      obtain rfl := List.mem_singleton.1 hk
      rcases S.src k r (kk, 0) hl ho hb with h3 | ⟨m, s, q, a1, a2, a3, a4⟩
      · exact .inl h3
      · exact .inr (.inl ⟨m, s, q, a1, a2, a3, a4⟩)
    · rw [shs n e1] at hk
      exact S.ssrc n s kk e3 hk

/-! ### append to nothing: a list of its own that is shared from now on (mode 43) -/
def frZ (P : Program) (ev : Operand → Option Value) (h : Hp) (nx : Nat) : Op → Option (Out × List Prop)
  | .call ⟨.builtin .append, args, ts⟩ => match ts.toList, evL ev args.toList with
    | [t, tx], some [.slice A 0 0, x] => match P.underlying t with
      | some (.slice e) => match P.info? e with
        | some i => match srcZ P h i.size tx x, i.zero with
          | some (n, news, ob), some z => bif Nat.beq z.cells.toList.length i.size && Nat.ble 1 i.size && (match A with | none => true | some ⟨m, 0, none⟩ => (match lk h m with | some ⟨.shut, []⟩ => true | _ => false) | _ => false) then
              some ((.slice (some ⟨nx + 1, 0, none⟩) n (capBig + (nx + 1)), (nx + 1, ⟨.of, news⟩) :: h, nx + 2, []), (n * i.bytes ≤ 140737488355328 ∧ n ≤ 9223372036854775807) :: (news.length = n * i.size) :: (∀ τ, renL τ news = some news) :: ob) else none
          | _, _ => none
        | none => none
      | _ => none
    | _, _ => none
  | _ => none
theorem frZ_call {ev : Operand → Option Value} {nx : Nat} {op : Op} {x : Out × List Prop} (hs : frZ P ev h nx op = some x) : ∃ args ts, op = .call ⟨.builtin .append, args, ts⟩ := by
  unfold frZ at hs
  split at hs
  · exact ⟨_, _, rfl⟩
  · cases hs
theorem Stp.low {lo0 : Nat} (S : Stp W lo hi σ h w σ' h' w') (h0 : lo0 ≤ lo) : Stp W lo0 hi σ h w σ' h' w' :=
  ⟨S.le, fun n hn => S.only n (by omega), S.rl, S.size, S.fr, S.src, S.ssrc⟩
theorem frZ_tidy {ev : Operand → Option Value} {nx : Nat} {op : Op} {v : Value} {h' : Hp} {nx' : Nat} {d : List Nat} {ob : List Prop} (hs : frZ P ev h nx op = some ((v, h', nx', d), ob)) : Tidy h nx h' nx' d := by
  unfold frZ at hs
  split at hs
  case h_2 => cases hs
  split at hs
  case h_2 => cases hs
  split at hs
  case h_2 => cases hs
  split at hs
  case h_2 => cases hs
  split at hs
  case h_2 => cases hs
  obtain ⟨_, hs⟩ := bif_of hs
  simp only [Option.some.injEq, Prod.mk.injEq] at hs
  obtain ⟨⟨rfl, rfl, rfl, rfl⟩, _⟩ := hs
  exact ⟨by omega, fun n hn _ => by rw [lk_cons, if_neg (by omega)], fun hB n hn => by rw [lk_cons, if_neg (by omega)]; exact hB n (by omega)⟩
/-- A name for nothing. -/
theorem Stp.nilName (S : Stp W lo hi σ h w σ' h' w') {NX : Nat} (h1 : lo ≤ NX) (h2 : hi ≤ NX) (hf : Fresh σ lo (NX + 1)) (E : Option Addr) : Stp W lo (NX + 1) σ h w (σ'.vwc NX (0, 0) 0 none E) ((NX, ⟨.of, []⟩) :: h') w' := by
  have hN : Fresh σ' NX (NX + 1) := fun n a b => by
    obtain ⟨e1, e2⟩ := S.only n (.inr (by omega))
    obtain ⟨e3, e4⟩ := hf n (by omega) b
    exact ⟨e1.trans e3, e2.trans e4⟩
  have T := Stp.viewc S.rl hN (r := ⟨.of, []⟩) (0, 0) 0 none E (fun k hk => by cases hk) .of ⟨0, 0, [], by simp [Sg.vwc], rfl, (fun k hk => by simp [sh, Sg.vwc] at hk), .inl rfl⟩
  refine ⟨S.le.trans T.le, fun n hn => ?_, T.rl, Nat.le_trans S.size T.size, fun b hb hno => ?_, fun n r p hl ho hp => ?_, fun n r k hl hk => ?_⟩
  · obtain ⟨a1, a2⟩ := T.only n (by omega)
    obtain ⟨b1, b2⟩ := S.only n (by omega)
    exact ⟨a1.trans b1, a2.trans b2⟩
  · exact S.fr b hb hno
  · rw [lk_cons] at hl
    split at hl
    · cases hl; exact absurd .of ho
    · rename_i e
      simp only [Sg.vwc] at hp
      rw [if_neg (Ne.symm e)] at hp
      exact S.src n r p hl ho hp
  · rw [lk_cons] at hl
    split at hl
    · rename_i e
      subst e
      simp [sh, Sg.vwc] at hk
    · rename_i e
      refine S.ssrc n r k hl ?_
      unfold sh at hk ⊢
      simp only [Sg.vwc] at hk
      rwa [if_neg (Ne.symm e)] at hk
theorem nilName_ren (σ : Sg) (NX : Nat) (E : Option Addr) : renV (σ.vwc NX (0, 0) 0 none E) (.slice (some ⟨NX, 0, none⟩) 0 (capBig + NX)) = some (.slice E 0 0) := by
  have := renV_nil (σ := σ.vwc NX (0, 0) 0 none E) (n := NX) (o := 0) (l := 0) (c := capBig + NX) (p := (0, 0)) (by simp [Sg.vwc]) (by simp [Sg.vwc]) rfl (by unfold cpR; rw [if_neg (by omega), Nat.add_sub_cancel_left]; simp [Sg.vwc])
  rw [show (σ.vwc NX (0, 0) 0 none E).e NX = E by simp [Sg.vwc]] at this
  exact this
theorem frZ_ok {a : Act} (hR : Rl W σ h w) {ev : Operand → Option Value} {nx nx' : Nat} (hf : Fresh σ nx nx') (H : Evs σ ev a) {o : Oper} {v : Value} {h' : Hp} {d : List Nat} {ob : List Prop} (hs : frZ P ev h nx o.op = some ((v, h', nx', d), ob)) (ho : Alls ob) :
    ∃ σ' w' v', Stp W nx nx' σ h w σ' h' w' ∧ renV σ' v = some v' ∧ Ends P a o w v' w' := by
  obtain ⟨args, ts, hop⟩ := frZ_call hs
  rw [hop] at hs
  simp only [frZ] at hs
  split at hs
  case h_2 => cases hs
  rename_i t tx A x hte hev
  split at hs
  case h_2 => cases hs
  rename_i e hu
  split at hs
  case h_2 => cases hs
  rename_i i hi
  split at hs
  case h_2 => cases hs
  rename_i n news ob' z hsrc hz
  obtain ⟨hg, hs⟩ := bif_of hs
  simp only [Option.some.injEq, Prod.mk.injEq] at hs
  obtain ⟨⟨rfl, rfl, rfl, rfl⟩, rfl⟩ := hs
  obtain ⟨⟨k1, k2⟩, k3, k4, k5⟩ := ho
  simp only [Bool.and_eq_true] at hg
  obtain ⟨⟨g1, g2⟩, g3⟩ := hg
  have hsV := srcZ_ok hsrc k5
  obtain ⟨s', l, hs', hl, e1⟩ := renL_cons (evL_ok H hev)
  obtain ⟨x', l', hx', hl', rfl⟩ := renL_cons hl
  simp only [renL, Option.some.injEq] at hl'
  subst hl'
  have hargs : args.map a.eval = #[s', x'] := by apply Array.toList_inj.1; rw [Array.toList_map, e1]
  have hts' : ts = #[t, tx] := by apply Array.toList_inj.1; simpa using hte
  have fin : ∀ {v' w'}, (Builtin.append_ #[t, tx] o.type #[s', x']).run P w = .ok v' w' → Ends P a o w v' w' := fun h3 => by
    refine .inl ?_
    unfold execOp
    simp only [hop, resolve, Sem.run_bind, Sem.run_pure, Result.andThen_ok, invoke, builtin, hargs, hts', h3]
  -- what comes of a list that is not empty
  have grown : ∀ {hh : Hp}, (∀ n r, lk hh n = some r → lk h n = some r) → (∀ n r, lk h n = some r → lk hh n = some r) → appV P h nx t tx (.slice A 0 0) x = some (.slice (some ⟨nx, 0, none⟩) n (capBig + nx), (nx, ⟨.room i.size z.cells.toList, news⟩) :: hh, nx + 1, []) →
      ∃ σ' w' v', Stp W nx (nx + 2) σ h w σ' ((nx + 1, ⟨.of, news⟩) :: h) w' ∧ renV σ' (.slice (some ⟨nx + 1, 0, none⟩) n (capBig + (nx + 1))) = some v' ∧ Ends P a o w v' w' := by
    intro hh q1 q2 hc
    obtain ⟨σ', w', v', S, h2, h3⟩ := appV_ok (P := P) (ty := o.type) hR hc (hf.low (by omega)) hs' hx'
    have hl0 : lk ((nx, (⟨.room i.size z.cells.toList, news⟩ : Rw)) :: hh) nx = some ⟨.room i.size z.cells.toList, news⟩ := by rw [lk_cons, if_pos rfl]
    obtain ⟨b, s, vs, hb, hv, hk1, hk2, tt, rest, c, hc1, hc2, hc3, hc4, hc5⟩ := S.rl.row nx _ hl0
    subst hk1
    have hvs : vs = news := by
      have := k4 σ'
      simp only at hv
      rw [this] at hv
      exact (Option.some.inj hv).symm
    subst hvs
    have hcell := fun j v hj => (S.rl.cell hl0).elim fun p hp => by
      obtain ⟨us, a1, a2, a3⟩ := hp
      rw [hb] at a1
      cases a1
      simp only at a2
      rw [k4 σ'] at a2
      cases a2
      exact a3 j v hj
    have T := S.freeze (NX := nx + 1) (c := c) (by omega) (Nat.le_refl _) (hf.low (by omega)) hl0 (fun e => by cases e) hb k4 hcell (fun q hq => by
      obtain rfl := List.mem_singleton.1 hq
      exact ⟨hk2, _, _, hc2⟩)
    refine ⟨_, w', v', T.less fun m r hm => ?_, ?_, fin h3⟩
    · rw [lk_cons] at hm ⊢
      split
      · rename_i e; rw [if_pos e] at hm; exact hm
      · rename_i e
        rw [if_neg e] at hm
        have hne : m ≠ nx := fun e2 => by
          subst e2
          obtain ⟨b', s', vs', hb', _⟩ := hR.row _ _ hm
          rw [(hf m (Nat.le_refl _) (by omega)).1] at hb'
          cases hb'
        rw [lk_delH, if_neg (Ne.symm hne), lk_cons, if_neg (Ne.symm hne)]
        exact q2 m r hm
    · have e1 : cpR σ' (capBig + nx) = some c := by unfold cpR; rw [if_neg (by omega), Nat.add_sub_cancel_left]; exact hc1
      rw [renV_slice_mk (o := 0) hb e1 (S.rl.shr.1 nx _ hl0 fun e => by cases e)] at h2
      rw [← h2]
      exact renV_slice_mk (o := 0) (p := (b, 0)) (by simp [Sg.vwc]) (by unfold cpR; rw [if_neg (by omega), Nat.add_sub_cancel_left]; simp [Sg.vwc]) (by simp [Sg.vwc])
  -- nothing
  have empty : ∀ {vv : Value} {hh : Hp} {dd : List Nat}, n = 0 → (∀ m r, lk h m = some r → lk hh m = some r) → appV P h nx t tx (.slice A 0 0) x = some (vv, hh, nx, dd) → (∀ σ' v', σ.le σ' → renV σ' vv = some v' → ∃ E, v' = .slice E 0 0) →
      ∃ σ' w' v', Stp W nx (nx + 2) σ h w σ' ((nx + 1, ⟨.of, news⟩) :: h) w' ∧ renV σ' (.slice (some ⟨nx + 1, 0, none⟩) n (capBig + (nx + 1))) = some v' ∧ Ends P a o w v' w' := by
    intro vv hh dd hn q1 hc hE
    subst hn
    obtain rfl : news = [] := List.eq_nil_of_length_eq_zero (by rw [k3, Nat.zero_mul])
    obtain ⟨σ', w', v', S, h2, h3⟩ := appV_ok (P := P) (ty := o.type) hR hc (hf.low (by omega)) hs' hx'
    obtain ⟨E, rfl⟩ := hE σ' v' S.le h2
    have T := S.nilName (NX := nx + 1) (by omega) (by omega) (hf.low (by omega)) E
    refine ⟨_, w', _, T.less fun m r hm => ?_, nilName_ren σ' (nx + 1) E, fin h3⟩
    rw [lk_cons] at hm ⊢
    split
    · rename_i e; rw [if_pos e] at hm; exact hm
    · rename_i e; rw [if_neg e] at hm; exact q1 m r hm
  rcases Nat.eq_zero_or_pos n with hn0 | hn0
  · have hnews : news = [] := List.eq_nil_of_length_eq_zero (by rw [k3, hn0, Nat.zero_mul])
    cases A with
    | none =>
      refine empty hn0 (fun m r hm => hm) (vv := .slice none 0 0) (dd := []) ?_ fun σ' v' _ hv => ⟨none, by simpa only [renV, Option.some.injEq] using hv.symm⟩
      unfold appV
      simp only [hu, hi, hsV, hz, g1, g2, hn0, Bool.and_self, cond_true, nbeq_rfl]
    | some ad =>
      obtain ⟨m, off, sp⟩ := ad
      split at g3
      · rename_i e1; cases e1
      · rename_i m' e1
        cases e1
        split at g3
        case h_2 => cases g3
        rename_i hlm
        refine empty hn0 (hh := setH h m ⟨.shut, []⟩) (vv := .slice (some ⟨m, 0, none⟩) 0 0) (dd := [m]) (fun k r hk => ?_) ?_ fun σ' v' _ hv => ?_
        · rw [lk_setH]
          split
          · rename_i e; subst e; rw [hlm] at hk; exact hk
          · exact hk
        · unfold appV
          simp only [hu, hi, hsV, hz, g1, g2, hn0, hnews, hlm, Bool.and_self, cond_true, blt_of (show 0 < capBig by unfold capBig; omega), Nat.add_zero, Nat.zero_mul, List.length_nil, isOwn, splice]
          rfl
        · rcases renV_slice hv with ⟨p, c', _, hcp, rfl, _⟩ | ⟨_, _, _, rfl⟩
          · rw [cpR_of (show 0 < capBig by unfold capBig; omega) (Nat.le_refl _)] at hcp
            cases hcp
            exact ⟨_, rfl⟩
          · exact ⟨_, rfl⟩
      · cases g3
  · have hnb : Nat.beq n 0 = false := nbeq_ne (by omega)
    cases A with
    | none =>
      refine grown (fun k r hk => hk) (fun k r hk => hk) ?_
      unfold appV
      simp only [hu, hi, hsV, hz, g1, g2, hnb, Bool.and_self, cond_true, cond_false, nbeq_rfl, Nat.ble_eq_true_of_le k1, Nat.ble_eq_true_of_le k2]
    | some ad =>
      obtain ⟨m, off, sp⟩ := ad
      split at g3
      · rename_i e1; cases e1
      · rename_i m' e1
        cases e1
        split at g3
        case h_2 => cases g3
        rename_i hlm
        refine grown (hh := h) (fun k r hk => hk) (fun k r hk => hk) ?_
        have hcl : cellsAt h m 0 0 = some [] := by
          have := cellsAt_of (o := 0) (len := 0) hlm (by simp)
          simpa using this
        unfold appV
        simp only [hu, hi, hsV, hz, g1, g2, Bool.and_self, cond_true, cond_false, blt_of (show 0 < capBig by unfold capBig; omega), Nat.zero_add, Nat.zero_mul, nble_false hn0, hcl, List.nil_append, Nat.ble_eq_true_of_le k1, Nat.ble_eq_true_of_le k2]
      · cases g3
def odX (P : Program) (md : Nat) (ev : Operand → Option Value) (h : Hp) (nx : Nat) (op : Op) : Option (Out × List Prop) := bif Nat.beq md 43 then frZ P ev h nx op else odY P md ev h nx op
theorem odX_tidy {md : Nat} {ev : Operand → Option Value} {nx : Nat} {op : Op} {v : Value} {h' : Hp} {nx' : Nat} {d : List Nat} {ob : List Prop} (hs : odX P md ev h nx op = some ((v, h', nx', d), ob)) : Tidy h nx h' nx' d := by
  unfold odX at hs
  rcases bif_or hs with ⟨_, hs⟩ | ⟨_, hs⟩
  · exact frZ_tidy hs
  · exact odY_tidy hs
theorem odX_ok {a : Act} (hR : Rl W σ h w) {md : Nat} {ev : Operand → Option Value} {nx nx' : Nat} (hf : Fresh σ nx nx') (H : Evs σ ev a) {o : Oper} {v : Value} {h' : Hp} {d : List Nat} {ob : List Prop} (hs : odX P md ev h nx o.op = some ((v, h', nx', d), ob)) (ho : Alls ob) :
    ∃ σ' w' v', Stp W nx nx' σ h w σ' h' w' ∧ renV σ' v = some v' ∧ Ends P a o w v' w' := by
  unfold odX at hs
  rcases bif_or hs with ⟨_, hs⟩ | ⟨_, hs⟩
  · exact frZ_ok hR hf H hs ho
  · exact odY_ok hR hf H hs ho
end
end Go.Proofs.Ytojakfnljopjbaa
/-
  The told machine, part Zs: rows of slices that are made: append of an element (mode 44).
-/
namespace Go.Proofs.Ytojakfnljopjbaa
set_option linter.unusedSimpArgs false
set_option linter.unusedVariables false
set_option linter.unusedSectionVars false
open Go Go.RowKit

section
variable {P : Program} {W : World} {lo hi : Nat} {σ σ' : Sg} {h h' : Hp} {w w' : World}
/-- All that is shared. -/
def shAll (σ : Sg) (h : Hp) : List Nat := h.flatMap fun e => sh σ e.1
theorem lk_mem : ∀ {h : Hp} {n : Nat} {r : Rw}, (n, r) ∈ h → ∃ s, lk h n = some s
  | (m, s) :: h, n, r, hm => by
      rw [lk_cons]
      by_cases e : m = n
      · exact ⟨s, by rw [if_pos e]⟩
      · rw [if_neg e]
        rcases List.mem_cons.1 hm with hm | hm
        · cases hm; exact absurd rfl e
        · exact lk_mem hm
theorem mem_lk : ∀ {h : Hp} {n : Nat} {r : Rw}, lk h n = some r → (n, r) ∈ h
  | (m, s) :: h, n, r, hl => by
      rw [lk_cons] at hl
      split at hl
      · rename_i e; cases hl; subst e; exact List.mem_cons_self ..
      · exact List.mem_cons_of_mem _ (mem_lk hl)
theorem shAll_mem {k : Nat} (hk : k ∈ shAll σ h) : ∃ m s, lk h m = some s ∧ k ∈ sh σ m := by
  obtain ⟨e, h1, h2⟩ := List.mem_flatMap.1 hk
  obtain ⟨s, hs⟩ := lk_mem (n := e.1) (r := e.2) h1
  exact ⟨e.1, s, hs, h2⟩
theorem shAll_of {k m : Nat} {s : Rw} (hl : lk h m = some s) (hk : k ∈ sh σ m) : k ∈ shAll σ h := List.mem_flatMap.2 ⟨(m, s), mem_lk hl, hk⟩
/-- An own row gets another name and another kind; it shares what is shared. -/
theorem Stp.toDp (S : Stp W lo hi σ h w σ' h' w') {NX : Nat} (h1 : lo ≤ NX) (h2 : hi ≤ NX) (hf : Fresh σ lo (NX + 1)) {k b c : Nat} {r r' : Rw} {F : List Nat} (hl : lk h' k = some r) (ho : r.own) (hb : σ'.b k = some (b, 0)) (ho' : r'.own) (hF : ∀ q, q ∈ F → ∃ m s, lk h' m = some s ∧ q ∈ sh σ' m)
    (hr : RowOk W (σ'.vwc NX (b, 0) c (some F) none) w' NX r') :
    Stp W lo (NX + 1) σ h w (σ'.vwc NX (b, 0) c (some F) none) ((NX, r') :: delH h' k) w' := by
  have hN : σ'.b NX = none ∧ σ'.c NX = none := by
    obtain ⟨e1, e2⟩ := S.only NX (.inr h2)
    obtain ⟨e3, e4⟩ := hf NX h1 (by omega)
    exact ⟨e1.trans e3, e2.trans e4⟩
  have hbs : ∀ m, m ≠ NX → (σ'.vwc NX (b, 0) c (some F) none).b m = σ'.b m ∧ (σ'.vwc NX (b, 0) c (some F) none).c m = σ'.c m ∧ (σ'.vwc NX (b, 0) c (some F) none).f m = σ'.f m ∧ (σ'.vwc NX (b, 0) c (some F) none).e m = σ'.e m := fun m hm => by simp only [Sg.vwc]; rw [if_neg hm, if_neg hm, if_neg hm, if_neg hm]; exact ⟨rfl, rfl, rfl, rfl⟩
  have hbN : (σ'.vwc NX (b, 0) c (some F) none).b NX = some (b, 0) := by simp [Sg.vwc]
  have hle : σ'.le (σ'.vwc NX (b, 0) c (some F) none) := by
    refine ⟨fun m q e => ?_, fun m k e => ?_, fun m q e => ?_⟩
    · have hm : m ≠ NX := fun e2 => by subst e2; rw [hN.1] at e; cases e
      rw [(hbs m hm).1]; exact e
    · have hm : m ≠ NX := fun e2 => by subst e2; rw [hN.2] at e; cases e
      rw [(hbs m hm).2.1]; exact e
    · have hm : m ≠ NX := fun e2 => by subst e2; rw [hN.1] at e; cases e
      exact (hbs m hm).2
  have cls : ∀ n s, lk ((NX, r') :: delH h' k) n = some s → (n = NX ∧ s = r') ∨ (n ≠ NX ∧ n ≠ k ∧ lk h' n = some s) := fun n s e => by
    rw [lk_cons] at e
    split at e
    · rename_i e1; cases e; exact .inl ⟨e1.symm, rfl⟩
    · rename_i e1
      rw [lk_delH] at e
      split at e
      · cases e
      · rename_i e2; exact .inr ⟨Ne.symm e1, Ne.symm e2, e⟩
  have hsh : sh (σ'.vwc NX (b, 0) c (some F) none) NX = F := by simp [sh, Sg.vwc]
  have shs : ∀ n, n ≠ NX → sh (σ'.vwc NX (b, 0) c (some F) none) n = sh σ' n := fun n hn => by unfold sh; rw [(hbs n hn).2.2.1]
  -- where a new heap's own rows lie
  have own_ : ∀ m s q, lk ((NX, r') :: delH h' k) m = some s → s.own → (σ'.vwc NX (b, 0) c (some F) none).b m = some q → ∃ m0 s0, lk h' m0 = some s0 ∧ s0.own ∧ σ'.b m0 = some q := fun m s q hm hs hq => by
    rcases cls m s hm with ⟨rfl, rfl⟩ | ⟨e1, e2, e3⟩
    · rw [hbN] at hq; cases hq; exact ⟨k, r, hl, ho, hb⟩
    · rw [(hbs m e1).1] at hq; exact ⟨m, s, e3, hs, hq⟩
  have shr_ : ∀ n s q, lk ((NX, r') :: delH h' k) n = some s → q ∈ sh (σ'.vwc NX (b, 0) c (some F) none) n → ∃ m0 s0, lk h' m0 = some s0 ∧ q ∈ sh σ' m0 := fun n s q hn hq => by
    rcases cls n s hn with ⟨rfl, rfl⟩ | ⟨e1, e2, e3⟩
    · rw [hsh] at hq; exact hF q hq
    · rw [shs n e1] at hq; exact ⟨n, s, e3, hq⟩
  refine ⟨S.le.trans hle, fun n hn => ?_, ⟨⟨S.rl.ext, fun n s hn => ?_, fun n m r1 r2 p q hn hm hr1 hs hp hq e => ?_⟩, fun n s hn hs => ?_, fun n s kk hn hk => ?_⟩, S.size, S.fr, fun n s p hn hs hp => ?_, fun n s kk hn hk => ?_⟩
  · have e0 : n ≠ NX := by omega
    obtain ⟨a1, a2⟩ := S.only n (by omega)
    exact ⟨(hbs n e0).1.trans a1, (hbs n e0).2.1.trans a2⟩
  · rcases cls n s hn with ⟨rfl, rfl⟩ | ⟨e1, e2, e3⟩
    · exact hr
    · exact S.rl.keepA e3 hle fun _ _ => rfl
  · rcases cls n r1 hn with ⟨rfl, rfl⟩ | ⟨e1, e2, e3⟩ <;> rcases cls m r2 hm with ⟨e4, e5⟩ | ⟨e4, e5, e6⟩
    · exact e4.symm
    · rw [hbN] at hp
      cases hp
      rw [(hbs m e4).1] at hq
      exact absurd (S.rl.inj k m r r2 (b, 0) q hl e6 ho hs hb hq e) (Ne.symm e5)
    · subst e4
      rw [hbN] at hq
      cases hq
      rw [(hbs n e1).1] at hp
      exact absurd (S.rl.inj n k r1 r p (b, 0) e3 hl hr1 ho hp hb e) e2
    · rw [(hbs n e1).1] at hp
      rw [(hbs m e4).1] at hq
      exact S.rl.inj n m r1 r2 p q e3 e6 hr1 hs hp hq e
  · rcases cls n s hn with ⟨rfl, rfl⟩ | ⟨e1, e2, e3⟩
    · simp [Sg.vwc]
    · rw [(hbs n e1).2.2.1]; exact S.rl.shr.1 n s e3 hs
  · obtain ⟨m0, s0, g1, g2⟩ := shr_ n s kk hn hk
    obtain ⟨g3, g4⟩ := S.rl.shr.2 m0 s0 kk g1 g2
    refine ⟨g3, fun m s q hm hs hq => ?_⟩
    obtain ⟨m1, s1, a1, a2, a3⟩ := own_ m s q hm hs hq
    exact g4 m1 s1 q a1 a2 a3
  · obtain ⟨m0, s0, a1, a2, a3⟩ := own_ n s p hn hs hp
    exact S.src m0 s0 p a1 a2 a3
  · obtain ⟨m0, s0, g1, g2⟩ := shr_ n s kk hn hk
    exact S.ssrc m0 s0 kk g1 g2
/-! ### the cells of an element -/
def elD (h : Hp) : List Value → Option (List DV × List Prop)
  | [] => some ([], [])
  | v :: vs => match elD h vs with
    | some (ds, ob) => (match v with
      | .slice (some ⟨k, 0, none⟩) n _ => (match lk h k with
        | some ⟨.old, cs⟩ => some (.sl n none (cs.map DV.fl) :: ds, ((∀ τ, renL τ cs = some cs) ∧ (n = 0 → cs = [])) :: ob)
        | some ⟨.of, cs⟩ => some (.sl n none (cs.map DV.fl) :: ds, ((∀ τ, renL τ cs = some cs) ∧ (n = 0 → cs = [])) :: ob)
        | some ⟨.sd es, _⟩ => some (.sl n none es :: ds, (n = 0 → es = []) :: ob)
        | _ => none)
      | .slice none 0 0 => some (.sl 0 none [] :: ds, ob)
      | .slice _ _ _ => none
      | v => bif noAd v then some (.fl v :: ds, ob) else none)
    | none => none
theorem drs_of {F : List Nat} {b : Nat} : ∀ {cs : List Value} {s : Nat}, (∀ τ, renL τ cs = some cs) → ((b < W.heap.size ∧ ∀ j v, cs[j]? = some v → W.cell? ⟨b, s + j, none⟩ = some v) ∨ (b ∈ F ∧ ∀ j v, cs[j]? = some v → w.cell? ⟨b, s + j, none⟩ = some v)) → DRs W w F b s (cs.map DV.fl)
  | [], s, _, h => by simp only [List.map_nil, DRs]; exact h.imp (fun e => e.1) fun e => e.1
  | x :: cs, s, hf, h => by
      simp only [List.map_cons, DRs, DR]
      have h1 : ∀ τ, renV τ x = some x ∧ renL τ cs = some cs := fun τ => by
        obtain ⟨y, l, a, b, e⟩ := renL_cons (hf τ)
        cases e
        exact ⟨a, b⟩
      refine ⟨⟨x, ?_, rfl, fun τ => (h1 τ).1⟩, drs_of (fun τ => (h1 τ).2) ?_⟩
      · rcases h with ⟨h2, h3⟩ | ⟨h2, h3⟩
        · exact .inl ⟨h2, by have := h3 0 x rfl; rwa [Nat.add_zero] at this⟩
        · exact .inr ⟨h2, by have := h3 0 x rfl; rwa [Nat.add_zero] at this⟩
      · rcases h with ⟨h2, h3⟩ | ⟨h2, h3⟩
        · exact .inl ⟨h2, fun j v hj => by have := h3 (j + 1) v (by simpa using hj); rwa [show s + (j + 1) = s + 1 + j by omega] at this⟩
        · exact .inr ⟨h2, fun j v hj => by have := h3 (j + 1) v (by simpa using hj); rwa [show s + (j + 1) = s + 1 + j by omega] at this⟩
mutual
theorem DR.more {F G : List Nat} (hFG : ∀ k, k ∈ F → k ∈ G) : ∀ (d : DV) (u : Value), DR W w F d u → DR W w G d u
  | .fl v, u, hd => by simp only [DR] at hd ⊢; exact hd
  | .sl len cap ds, u, hd => by
      simp only [DR] at hd ⊢
      rcases hd with hd | ⟨b, s, c, h2, h5, h6⟩
      · exact .inl hd
      · exact .inr ⟨b, s, c, h2, h5, h6.imp (fun e => e) fun e => DRs.more hFG ds b s e⟩
theorem DRs.more {F G : List Nat} (hFG : ∀ k, k ∈ F → k ∈ G) : ∀ (ds : List DV) (b s : Nat), DRs W w F b s ds → DRs W w G b s ds
  | [], b, s, hd => by simp only [DRs] at hd ⊢; exact hd.imp (fun e => e) (hFG b)
  | d :: ds, b, s, hd => by
      simp only [DRs] at hd ⊢
      obtain ⟨⟨v, h1, h2⟩, h3⟩ := hd
      refine ⟨⟨v, ?_, DR.more hFG d v h2⟩, DRs.more hFG ds b (s + 1) h3⟩
      exact h1.imp (fun e => e) fun e => ⟨hFG b e.1, e.2⟩
end
theorem DRv.more {F G : List Nat} (hFG : ∀ k, k ∈ F → k ∈ G) : ∀ {ds : List DV} {us : List Value}, DRv W w F ds us → DRv W w G ds us
  | [], us, hd => by simp only [DRv] at hd ⊢; exact hd
  | d :: ds, us, hd => by
      simp only [DRv] at hd ⊢
      obtain ⟨u, us', h1, h2, h3⟩ := hd
      exact ⟨u, us', h1, DR.more hFG d u h2, DRv.more hFG h3⟩
theorem elD_ok (hR : Rl W σ h w) : ∀ {cells : List Value} {ds : List DV} {ob : List Prop} {us : List Value}, elD h cells = some (ds, ob) → Alls ob → renL σ cells = some us → DRv W w (shAll σ h) ds us
  | [], ds, ob, us, h1, _, h3 => by
      simp only [elD, Option.some.injEq, Prod.mk.injEq] at h1
      obtain ⟨rfl, _⟩ := h1
      simp only [renL, Option.some.injEq] at h3
      subst h3
      simp [DRv]
  | v :: vs, ds, ob, us, h1, h2, h3 => by
      obtain ⟨u, us', hu, hus, rfl⟩ := renL_cons h3
      simp only [elD] at h1
      split at h1
      case h_2 => cases h1
      rename_i ds' ob' hrec
      split at h1
      · rename_i k n c
        split at h1
        · rename_i cs hl
          simp only [Option.some.injEq, Prod.mk.injEq] at h1
          obtain ⟨rfl, rfl⟩ := h1
          obtain ⟨⟨hf, hz⟩, ho⟩ := h2
          simp only [DRv]
          refine ⟨_, _, rfl, ?_, elD_ok hR hrec ho hus⟩
          obtain ⟨b, s, vs', hb, hv, hk⟩ := hR.row k _ hl
          simp only at hv
          rw [hf σ] at hv
          cases hv
          simp only [DR]
          rcases renV_slice hu with ⟨p, c', hb', _, rfl, _⟩ | ⟨hn, rfl, _, rfl⟩
          · rw [hb] at hb'
            cases hb'
            refine .inr ⟨b, s + 0, c', rfl, fun k e => (by cases e), ?_⟩
            rcases hk with hk | hk | hk
            · exact .inl (by rw [hk]; rfl)
            · exact .inr (drs_of hf (.inl hk))
            · exact .inr (drs_of hf (.inr ⟨shAll_of hl hk.1, hk.2⟩))
          · obtain rfl := hz rfl
            exact .inl ⟨rfl, rfl, .inl trivial, _, rfl⟩
        · rename_i cs hl
          simp only [Option.some.injEq, Prod.mk.injEq] at h1
          obtain ⟨rfl, rfl⟩ := h1
          obtain ⟨⟨hf, hz⟩, ho⟩ := h2
          simp only [DRv]
          refine ⟨_, _, rfl, ?_, elD_ok hR hrec ho hus⟩
          obtain ⟨b, s, vs', hb, hv, hk⟩ := hR.row k _ hl
          simp only at hv
          rw [hf σ] at hv
          cases hv
          simp only [DR]
          rcases renV_slice hu with ⟨p, c', hb', _, rfl, _⟩ | ⟨hn, rfl, _, rfl⟩
          · rw [hb] at hb'
            cases hb'
            refine .inr ⟨b, s + 0, c', rfl, fun k e => (by cases e), ?_⟩
            rcases hk.2 with hk | hk
            · exact .inl (by rw [hk]; rfl)
            · exact .inr (drs_of hf (.inr ⟨shAll_of hl hk.1, hk.2⟩))
          · obtain rfl := hz rfl
            exact .inl ⟨rfl, rfl, .inl trivial, _, rfl⟩
        · rename_i es cs0 hl
          simp only [Option.some.injEq, Prod.mk.injEq] at h1
          obtain ⟨rfl, rfl⟩ := h1
          obtain ⟨hz, ho⟩ := h2
          simp only [DRv]
          refine ⟨_, _, rfl, ?_, elD_ok hR hrec ho hus⟩
          obtain ⟨b, s, vs', hb, hv, hk⟩ := hR.row k _ hl
          simp only [DR]
          rcases renV_slice hu with ⟨p, c', hb', _, rfl, _⟩ | ⟨hn, rfl, _, rfl⟩
          · rw [hb] at hb'
            cases hb'
            exact .inr ⟨b, s + 0, c', rfl, fun k e => (by cases e), hk.2.imp (fun e => e) fun e => DRs.more (fun q hq => shAll_of hl hq) _ _ _ e⟩
          · obtain rfl := hz rfl
            exact .inl ⟨rfl, rfl, .inl trivial, _, rfl⟩
        · cases h1
      · simp only [Option.some.injEq, Prod.mk.injEq] at h1
        obtain ⟨rfl, rfl⟩ := h1
        simp only [DRv]
        refine ⟨_, _, rfl, ?_, elD_ok hR hrec h2 hus⟩
        simp only [renV, Option.some.injEq] at hu
        subst hu
        rw [DR]
        exact .inl ⟨rfl, rfl, .inl rfl, none, rfl⟩
      · cases h1
      · obtain ⟨hna, h1⟩ := bif_of h1
        simp only [Option.some.injEq, Prod.mk.injEq] at h1
        obtain ⟨rfl, rfl⟩ := h1
        simp only [DRv]
        refine ⟨_, _, rfl, ?_, elD_ok hR hrec h2 hus⟩
        rw [noAd_ren σ hna] at hu
        cases hu
        rw [DR]
        exact ⟨rfl, fun τ => noAd_ren τ hna⟩
/-- A row's block turns, in any way, and the row with it. -/
theorem Stp.turnW (hR : Rl W σ h w) {n : Nat} {r : Rw} (hl : lk h n = some r) (ho : r.own) {p : Nat × Nat} (hb : σ.b n = some p) (hx : Ext W w') (hz : w'.heap.size = w.heap.size) (hw : ∀ k, k ≠ p.1 → w'.heap[k]? = w.heap[k]?) (kd : Kd) (hkd : ¬ ShKd kd) (hk : KdOk W σ w' n p.1 p.2 [] kd) (lo : Nat) :
    Stp W lo lo σ h w σ (setH h n ⟨kd, []⟩) w' := by
  have hd : ∀ m s, lk (setH h n ⟨kd, []⟩) m = some s → (m = n ∧ s = ⟨kd, []⟩) ∨ (lk h m = some s ∧ m ≠ n) := fun m s e => by
    rw [lk_setH] at e
    split at e
    · rename_i hm; cases e; exact .inl ⟨hm.symm, rfl⟩
    · rename_i hne; exact .inr ⟨e, Ne.symm hne⟩
  have conv : ∀ m s, lk (setH h n ⟨kd, []⟩) m = some s → s.own → ∃ s', lk h m = some s' ∧ s'.own := fun m s e hs => by
    rcases hd m s e with ⟨rfl, _⟩ | ⟨e, _⟩
    · exact ⟨r, hl, ho⟩
    · exact ⟨s, e, hs⟩
  refine Stp0.up ⟨Sg.le.refl σ, fun _ _ => ⟨rfl, rfl⟩, ⟨hx, fun m s e => ?_, fun m k s t p q a b hs ht c d e => ?_⟩,
    Nat.le_of_eq hz.symm, fun b hb' hno => hw b fun e => hno n r p hl ho hb e.symm, fun m s q e hs hq => ?_⟩ hR.shr (setH_shr hR.shr hl ho)
  · rcases hd m s e with ⟨rfl, rfl⟩ | ⟨e, hne⟩
    · exact ⟨p.1, p.2, [], hb, rfl, hk⟩
    · exact hR.keepW hl ho hb e hne (Sg.le.refl σ) fun b hb' => hw b hb'
  · obtain ⟨s', a', hs'⟩ := conv m s a hs
    obtain ⟨t', b', ht'⟩ := conv k t b ht
    exact hR.inj m k s' t' p q a' b' hs' ht' c d e
  · obtain ⟨s', a', hs'⟩ := conv m s e hs
    exact .inr ⟨m, s', q, a', hs', hq, rfl⟩

/-! ### append of an element (mode 44) -/
def daZ (P : Program) (ev : Operand → Option Value) (h : Hp) (nx : Nat) : Op → Option (Out × List Prop)
  | .call ⟨.builtin .append, args, ts⟩ => match ts.toList, evL ev args.toList with
    | [t, tx], some [s, x] => match P.underlying t with
      | some (.slice e) => match P.info? e with
        | some i => match srcZ P h i.size tx x, i.zero with
          | some (n, news, ob2), some z => match elD h news with
            | some (es, ob) => bif Nat.beq n 1 && (Nat.beq z.cells.toList.length i.size && Nat.ble 1 i.size) then (match s with
              | .slice none 0 0 => some ((.slice (some ⟨nx + 1, 0, none⟩) 1 (capBig + (nx + 1)), (nx + 1, ⟨.dp i.size z.cells.toList es, []⟩) :: h, nx + 2, []), (i.bytes ≤ 140737488355328) :: (ob ++ ob2))
              | .slice (some ⟨m, 0, none⟩) len cap => (match lk h m with
                | some ⟨.dp sz zz ds, _⟩ => bif Nat.beq sz i.size && beqZL zz z.cells.toList then some ((.slice (some ⟨nx + 1, 0, none⟩) (len + 1) (capBig + (nx + 1)), (nx + 1, ⟨.dp i.size z.cells.toList (ds ++ es), []⟩) :: delH h m, nx + 2, [m]), (cap = capBig + m ∧ ds.length = len * i.size) :: ((len + 1) * i.bytes ≤ 140737488355328 ∧ len + 1 ≤ 9223372036854775807) :: (ob ++ ob2)) else none
                | _ => none)
              | _ => none) else none
            | none => none
          | _, _ => none
        | none => none
      | _ => none
    | _, _ => none
  | _ => none
theorem DRv.len2 {F : List Nat} : ∀ {ds : List DV} {us : List Value}, DRv W w F ds us → us.length = ds.length
  | [], us, h => by simp only [DRv] at h; subst h; rfl
  | d :: ds, us, h => by simp only [DRv] at h; obtain ⟨u, us', rfl, _, h⟩ := h; simp [DRv.len2 h]
theorem DRv.app2 {F : List Nat} : ∀ {ds es : List DV} {us vs : List Value}, DRv W w F ds us → DRv W w F es vs → DRv W w F (ds ++ es) (us ++ vs)
  | [], es, us, vs, h, k => by simp only [DRv] at h; subst h; exact k
  | d :: ds, es, us, vs, h, k => by
      simp only [DRv] at h
      obtain ⟨u, us', rfl, h1, h2⟩ := h
      simp only [List.cons_append, DRv]
      exact ⟨u, us' ++ vs, rfl, h1, h2.app2 k⟩
/-- New memory: the elements that were there, the new one, zeros. -/
theorem Stp.dpNew (hR : Rl W σ h w) {nx : Nat} (hf : Fresh σ nx (nx + 2)) {es : List DV} {vs zs : List Value} {t : TypeId} {size c : Nat} {z : List Value} (hv : DRv W w (shAll σ h) es vs) (hl : (vs ++ zs).length = c * size) (hc : c ≤ maxLen) (hz : ∀ x ∈ zs, x ∈ z) :
    Stp W nx (nx + 2) σ h w ((σ.bindc nx (w.heap.size, 0) c).vwc (nx + 1) (w.heap.size, 0) c (some (shAll σ h)) none) ((nx + 1, ⟨.dp size z es, []⟩) :: h) (w.alloc (.cells (vs ++ zs).toArray t)) := by
  have S := Stp.grow hR (hf.low (by omega)) (cs := []) (vs := []) rfl t (size := size) (c := c) (rest := vs ++ zs) (by simpa using hl) hc (z := vs ++ zs) (fun x hx => hx)
  simp only [List.nil_append] at S
  have hl0 : lk ((nx, (⟨.room size (vs ++ zs), []⟩ : Rw)) :: h) nx = some ⟨.room size (vs ++ zs), []⟩ := by rw [lk_cons, if_pos rfl]
  have hne : ∀ m r, lk h m = some r → m ≠ nx := fun m r hm e => by
    subst e
    obtain ⟨b', s', vs', hb', _⟩ := hR.row _ _ hm
    rw [(hf m (Nat.le_refl _) (by omega)).1] at hb'
    cases hb'
  have hS : ∀ q, q ∈ shAll σ h → q < w.heap.size := fun q hq => by
    obtain ⟨m, s, h1, h2⟩ := shAll_mem hq
    exact (hR.shr.2 m s q h1 h2).1
  have hw : ∀ k, k ∈ shAll σ h → (w.alloc (.cells (vs ++ zs).toArray t)).heap[k]? = w.heap[k]? := fun k hk => Below.block ((Ext.refl w).alloc _) k (hS k hk)
  have T := S.toDp (NX := nx + 1) (c := c) (F := shAll σ h) (r' := ⟨.dp size z es, []⟩) (b := w.heap.size) (by omega) (by omega) (hf.low (by omega)) hl0 (fun e => by cases e) (by simp [Sg.bindc]) (fun e => by cases e) (fun q hq => by
    obtain ⟨m, s, h1, h2⟩ := shAll_mem hq
    have := hne m s h1
    refine ⟨m, s, by rw [lk_cons, if_neg (Ne.symm this)]; exact h1, ?_⟩
    unfold sh at h2 ⊢
    simp only [Sg.bindc]
    rwa [if_neg this]) ⟨w.heap.size, 0, [], by simp [Sg.vwc], rfl, rfl, hR.ext.size, rfl, vs, t, zs, c, by simp [Sg.vwc], heap_alloc_new w _, hl, hc, hz, by
      rw [show sh ((σ.bindc nx (w.heap.size, 0) c).vwc (nx + 1) (w.heap.size, 0) c (some (shAll σ h)) none) (nx + 1) = shAll σ h by simp [sh, Sg.vwc]]
      exact DRv.keep hw _ _ hv⟩
  refine T.less fun m r hm => ?_
  rw [lk_cons] at hm ⊢
  split
  · rename_i e; rw [if_pos e] at hm; exact hm
  · rename_i e
    rw [if_neg e] at hm
    have := hne m r hm
    rw [lk_delH, if_neg (Ne.symm this), lk_cons, if_neg (Ne.symm this)]
    exact hm
/-- In place. -/
theorem Stp.dpIn (hR : Rl W σ h w) {nx : Nat} (hf : Fresh σ nx (nx + 2)) {m b c size : Nat} {ds es : List DV} {vs z : List Value} (hl : lk h m = some ⟨.dp size z ds, []⟩) (hb : σ.b m = some (b, 0)) (hc : σ.c m = some c) (hv : DRv W w (shAll σ h) es vs) (hle : ds.length + vs.length ≤ c * size) :
    Stp W nx (nx + 2) σ h w (σ.vwc (nx + 1) (b, 0) c (some (shAll σ h)) none) ((nx + 1, ⟨.dp size z (ds ++ es), []⟩) :: delH h m) (w.setCells b ds.length vs) := by
  have hown : (⟨.dp size z ds, []⟩ : Rw).own := fun e => by cases e
  obtain ⟨b', s', vs', hb', _, h1, h2, h3, us, t, rest, c', hc', hcell, hlen, hcm, hz, hds⟩ := hR.row m _ hl
  rw [hb] at hb'
  cases hb'
  rw [hc] at hc'
  cases hc'
  have hul := hds.len2
  have hsp : splice (us ++ rest) us.length vs = us ++ vs ++ rest.drop vs.length := splice_mid vs us rest (by
    simp only [List.length_append] at hlen
    omega)
  have hblk : (w.setCells b ds.length vs).heap[b]? = some (.cells (us ++ vs ++ rest.drop vs.length).toArray t (0, 0)) := by
    have := setCells_same vs w b ds.length _ t hcell
    simp only at this
    rw [← hul, hsp] at this
    rw [← hul]
    exact this
  have hoth : ∀ k, k ≠ b → (w.setCells b ds.length vs).heap[k]? = w.heap[k]? := fun k hk => setCells_other vs w b ds.length k hk
  have S := Stp.turnW hR hl hown hb (ext_setCells vs hR.ext h2 ds.length) (setCells_size vs w b ds.length) hoth .lent (fun e => by cases e) ⟨rfl, h2, t, us ++ vs ++ rest.drop vs.length, (0, 0), by simpa using hblk⟩ nx
  have hS : ∀ q, q ∈ shAll σ h → q ≠ b := fun q hq e => by
    obtain ⟨m0, s0, g1, g2⟩ := shAll_mem hq
    exact (hR.shr.2 m0 s0 q g1 g2).2 m _ (b, 0) hl hown hb e.symm
  have hw : ∀ k, k ∈ shAll σ h → (w.setCells b ds.length vs).heap[k]? = w.heap[k]? := fun k hk => hoth k (hS k hk)
  have hl0 : lk (setH h m ⟨.lent, []⟩) m = some ⟨.lent, []⟩ := by rw [lk_setH, if_pos rfl]
  have T := S.toDp (NX := nx + 1) (c := c) (F := shAll σ h) (r' := ⟨.dp size z (ds ++ es), []⟩) (b := b) (by omega) (by omega) (hf.low (by omega)) hl0 (fun e => by cases e) hb (fun e => by cases e) (fun q hq => by
    obtain ⟨m0, s0, g1, g2⟩ := shAll_mem hq
    by_cases e : m0 = m
    · subst e; exact ⟨m0, _, hl0, g2⟩
    · exact ⟨m0, s0, by rw [lk_setH, if_neg (Ne.symm e)]; exact g1, g2⟩) ⟨b, 0, [], by simp [Sg.vwc], rfl, rfl, h2, rfl, us ++ vs, t, rest.drop vs.length, c, by simp [Sg.vwc], hblk, by
      simp only [List.length_append, List.length_drop] at hlen ⊢
      omega, hcm, (fun x hx => hz x (List.mem_of_mem_drop hx)), by
      rw [show sh (σ.vwc (nx + 1) (b, 0) c (some (shAll σ h)) none) (nx + 1) = shAll σ h by simp [sh, Sg.vwc]]
      exact DRv.keep hw _ _ ((hds.more fun k hk => shAll_of hl hk).app2 hv)⟩
  refine T.less fun k r hm => ?_
  rw [lk_cons] at hm ⊢
  split
  · rename_i e; rw [if_pos e] at hm; exact hm
  · rename_i e
    rw [if_neg e, lk_delH] at hm
    split at hm
    · cases hm
    · rename_i e2
      rw [lk_delH, if_neg e2, lk_setH, if_neg e2]
      exact hm
theorem daZ_call {ev : Operand → Option Value} {nx : Nat} {op : Op} {x : Out × List Prop} (hs : daZ P ev h nx op = some x) : ∃ args ts, op = .call ⟨.builtin .append, args, ts⟩ := by
  unfold daZ at hs
  split at hs
  · exact ⟨_, _, rfl⟩
  · cases hs
theorem daZ_tidy {ev : Operand → Option Value} {nx : Nat} {op : Op} {v : Value} {h' : Hp} {nx' : Nat} {d : List Nat} {ob : List Prop} (hs : daZ P ev h nx op = some ((v, h', nx', d), ob)) : Tidy h nx h' nx' d := by
  unfold daZ at hs
  split at hs
  case h_2 => cases hs
  split at hs
  case h_2 => cases hs
  split at hs
  case h_2 => cases hs
  split at hs
  case h_2 => cases hs
  split at hs
  case h_2 => cases hs
  split at hs
  case h_2 => cases hs
  obtain ⟨_, hs⟩ := bif_of hs
  split at hs
  · simp only [Option.some.injEq, Prod.mk.injEq] at hs
    obtain ⟨⟨rfl, rfl, rfl, rfl⟩, _⟩ := hs
    exact ⟨by omega, fun n hn _ => by rw [lk_cons, if_neg (by omega)], fun hB n hn => by rw [lk_cons, if_neg (by omega)]; exact hB n (by omega)⟩
  · split at hs
    · obtain ⟨_, hs⟩ := bif_of hs
      simp only [Option.some.injEq, Prod.mk.injEq] at hs
      obtain ⟨⟨rfl, rfl, rfl, rfl⟩, _⟩ := hs
      refine ⟨by omega, fun n hn hd => ?_, fun hB n hn => ?_⟩
      · rw [lk_cons, if_neg (by omega), lk_delH, if_neg (fun e => hd (by simp [e]))]
      · rw [lk_cons, if_neg (by omega), lk_delH]
        split
        · rfl
        · exact hB n (by omega)
    · cases hs
  · cases hs
theorem daZ_ok {a : Act} (hR : Rl W σ h w) {ev : Operand → Option Value} {nx nx' : Nat} (hf : Fresh σ nx nx') (H : Evs σ ev a) {o : Oper} {v : Value} {h' : Hp} {d : List Nat} {ob : List Prop} (hs : daZ P ev h nx o.op = some ((v, h', nx', d), ob)) (ho : Alls ob) :
    ∃ σ' w' v', Stp W nx nx' σ h w σ' h' w' ∧ renV σ' v = some v' ∧ Ends P a o w v' w' := by
  obtain ⟨args, ts, hop⟩ := daZ_call hs
  rw [hop] at hs
  simp only [daZ] at hs
  split at hs
  case h_2 => cases hs
  rename_i t tx s x hte hev
  split at hs
  case h_2 => cases hs
  rename_i e hu
  split at hs
  case h_2 => cases hs
  rename_i i hi
  split at hs
  case h_2 => cases hs
  rename_i n news ob2 z hsrc hz
  split at hs
  case h_2 => cases hs
  rename_i es ob1 hel
  obtain ⟨hg, hs1⟩ := bif_of hs
  clear hs
  simp only [Bool.and_eq_true] at hg
  obtain ⟨g0, g1, g2⟩ := hg
  obtain rfl := Nat.eq_of_beq_eq_true g0
  have hzs : z.cells.size = i.size := by have := Nat.eq_of_beq_eq_true g1; simpa using this
  obtain ⟨s', l, hs', hl, e1⟩ := renL_cons (evL_ok H hev)
  obtain ⟨x', l', hx', hl', rfl⟩ := renL_cons hl
  simp only [renL, Option.some.injEq] at hl'
  subst hl'
  have hargs : args.map a.eval = #[s', x'] := by apply Array.toList_inj.1; rw [Array.toList_map, e1]
  have hts' : ts = #[t, tx] := by apply Array.toList_inj.1; simpa using hte
  have fin : ∀ {v' w'}, (Builtin.append_ #[t, tx] o.type #[s', x']).run P w = .ok v' w' → Ends P a o w v' w' := fun h3 => by
    refine .inl ?_
    unfold execOp
    simp only [hop, resolve, Sem.run_bind, Sem.run_pure, Result.andThen_ok, invoke, builtin, hargs, hts', h3]
  have ren_ : ∀ {τ : Sg} {b c len : Nat}, renV (τ.vwc (nx + 1) (b, 0) c (some (shAll σ h)) none) (.slice (some ⟨nx + 1, 0, none⟩) len (capBig + (nx + 1))) = some (.slice (some ⟨b, 0, none⟩) len c) := fun {τ b c len} =>
    renV_slice_mk (o := 0) (p := (b, 0)) (by simp [Sg.vwc]) (by unfold cpR; rw [if_neg (by omega), Nat.add_sub_cancel_left]; simp [Sg.vwc]) (by simp [Sg.vwc])
  -- new memory
  have grow_ : ∀ {base : Option Addr} {sLen sCap : Nat} {olds : List Value} {ds : List DV}, s' = .slice base sLen sCap → Alls ob1 → Alls ob2 → (Builtin.firstCells i.size sLen (.slice base sLen sCap)).run P w.drew = .ok olds.toArray w.drew → DRv W w (shAll σ h) ds olds → olds.length = sLen * i.size → sCap < sLen + 1 → sLen + 1 ≤ 9223372036854775807 → (sLen + 1) * i.bytes ≤ 140737488355328 → Fresh σ nx (nx + 2) →
      ∃ σ' w' v', Stp W nx (nx + 2) σ h w σ' ((nx + 1, ⟨.dp i.size z.cells.toList (ds ++ es), []⟩) :: h) w' ∧ renV σ' (.slice (some ⟨nx + 1, 0, none⟩) (sLen + 1) (capBig + (nx + 1))) = some v' ∧ Ends P a o w v' w' := by
    intro base sLen sCap olds ds hse ho1 ho2 hold hds hol hg h63 hb hf
    obtain ⟨vn, hn, hsr⟩ := srcV_ok hR (srcZ_ok hsrc ho2) hx'
    have hE := elD_ok hR hel ho1 hn
    have hrun := run_append_grow_src (P := P) (ty := o.type) w t tx e i z hu hi hz base sLen sCap olds hold x' 1 vn hsr hg (by omega) (growslice_fits hg hb)
    have hge := grownCap_ge w (sLen + 1) sCap e
    have hle := grownCap_le_maxLen w (sLen + 1) sCap e (by unfold maxLen; omega)
    have hd := Stp.drew hR nx
    have hlen : (olds ++ vn ++ (Builtin.zeroCells z.cells (grownCap w (sLen + 1) sCap e - (sLen + 1))).toList).length = grownCap w (sLen + 1) sCap e * i.size := by
      rw [List.length_append, List.length_append, hol, hsr.newsLen, Array.length_toList, size_zeroCells, hzs, ← Nat.add_mul, ← Nat.add_mul]
      congr 1
      omega
    have S := Stp.dpNew hd.rl hf (t := e) (DRv.keep (w := w) (w1 := w.drew) (F := shAll σ h) (fun _ _ => rfl) (ds ++ es) (olds ++ vn) (hds.app2 hE)) hlen hle (z := z.cells.toList) zero_mem
    refine ⟨_, _, _, hd.trans S (Nat.le_refl _) (by omega), ren_, fin ?_⟩
    rw [hse, hrun]
    congr 2
    apply congrArg (fun q => Obj.cells q e (0, 0))
    apply Array.toList_inj.1
    simp
  split at hs1
  · simp only [Option.some.injEq, Prod.mk.injEq] at hs1
    obtain ⟨⟨rfl, rfl, rfl, rfl⟩, rfl⟩ := hs1
    obtain ⟨k1, k23⟩ := ho
    obtain ⟨k2, k3⟩ := Alls_app.1 k23
    have := grow_ (base := none) (sLen := 0) (sCap := 0) (olds := []) (ds := []) (by simpa only [renV, Option.some.injEq] using hs'.symm) k2 k3 (run_firstCells_none w.drew i.size 0 0 0) (by simp [DRv]) (by simp) (by omega) (by omega) (by omega) hf
    simpa using this
  · rename_i m len cap
    split at hs1
    case h_2 => cases hs1
    rename_i sz zz ds cs0 hlm
    obtain ⟨hg3, hs2⟩ := bif_of hs1
    clear hs1
    simp only [Option.some.injEq, Prod.mk.injEq] at hs2
    obtain ⟨⟨rfl, rfl, rfl, rfl⟩, rfl⟩ := hs2
    obtain ⟨⟨rfl, k0⟩, ⟨k1, k2⟩, k34⟩ := ho
    obtain ⟨k3, k4⟩ := Alls_app.1 k34
    simp only [Bool.and_eq_true] at hg3
    obtain rfl := Nat.eq_of_beq_eq_true hg3.1
    have gz := beqZL_ok hg3.2
    subst gz
    have hrow := hR.row m _ hlm
    obtain ⟨b, s0, vs0, hb, hv0, q1, q2, q3, us, tt, rest, c, hcm, hblk, hrl, hcl, hrz, hds⟩ := hrow
    subst q1
    subst q3
    have hcs0 : cs0 = [] := by
      have := renL_len hv0
      exact List.eq_nil_of_length_eq_zero this.symm
    subst hcs0
    have hul := hds.len2
    rcases renV_slice hs' with ⟨p, c', hb', hcp, hse, hnn⟩ | ⟨hnn, _, _, _⟩
    case inr => exact (hR.shr.1 m _ hlm (fun e => by cases e) hnn).elim
    rw [hb] at hb'
    cases hb'
    rw [cpR_big, hcm] at hcp
    cases hcp
    have hcell : ∀ j, j < (us ++ rest).length → w.cell? ⟨b, j, none⟩ = (us ++ rest)[j]? := fun j hj => by
      rw [cell_of_row w b j _ tt _ hblk]; simp
    have hmore : DRv W w (shAll σ h) ds us := hds.more fun k hk => shAll_of hlm hk
    by_cases hroom : len + 1 ≤ c
    · obtain ⟨vn, hn, hsr⟩ := srcV_ok hR (srcZ_ok hsrc k4) hx'
      have hE := elD_ok hR hel k3 hn
      have hvn := hsr.newsLen
      have hfit : ds.length + vn.length ≤ c * i.size := by
        rw [k0, hvn, ← Nat.add_mul]; exact Nat.mul_le_mul_right _ hroom
      have hrun := run_append_room_src (P := P) (ty := o.type) w t tx e i hu hi b (0 + 0) len c x' 1 vn hsr hroom (fun j hj => by
        have hlt2 : len * i.size + j < (us ++ rest).length := by omega
        rw [show 0 + 0 + len * i.size + j = len * i.size + j by omega, hcell _ hlt2, List.getElem?_eq_getElem hlt2]; rfl) (fun j hj => frozen_of_row w b _ _ tt hblk)
      have S := Stp.dpIn hR hf hlm hb hcm hE hfit
      refine ⟨_, _, _, S, ren_ (τ := σ), fin ?_⟩
      rw [hse, hrun, k0]
      simp
    · have := grow_ (base := some ⟨b, 0 + 0, none⟩) (sLen := len) (sCap := c) (olds := us) (ds := ds) hse k3 k4 (run_firstCells_some (P := P) w.drew i.size len _ len c us (by omega) (fun j u hj => by
          rw [addr_add]
          show w.cell? ⟨b, 0 + 0 + j, none⟩ = some u
          rw [show 0 + 0 + j = j by omega]
          have hjl := (List.getElem?_eq_some_iff.1 hj).1
          rw [hcell j (by simp; omega), List.getElem?_append_left hjl]
          exact hj)) hmore (by omega) (by omega) k2 k1 hf
      obtain ⟨σ', w', v', h1, h2, h3⟩ := this
      refine ⟨σ', w', v', h1.less (fun k r hk => ?_), h2, h3⟩
      rw [lk_cons] at hk ⊢
      split
      · rename_i e5; rw [if_pos e5] at hk; exact hk
      · rename_i e5
        rw [if_neg e5, lk_delH] at hk
        split at hk
        · cases hk
        · exact hk
  · cases hs1
def odZ (P : Program) (md : Nat) (ev : Operand → Option Value) (h : Hp) (nx : Nat) (op : Op) : Option (Out × List Prop) := bif Nat.beq md 44 then daZ P ev h nx op else odX P md ev h nx op
theorem odZ_tidy {md : Nat} {ev : Operand → Option Value} {nx : Nat} {op : Op} {v : Value} {h' : Hp} {nx' : Nat} {d : List Nat} {ob : List Prop} (hs : odZ P md ev h nx op = some ((v, h', nx', d), ob)) : Tidy h nx h' nx' d := by
  unfold odZ at hs
  rcases bif_or hs with ⟨_, hs⟩ | ⟨_, hs⟩
  · exact daZ_tidy hs
  · exact odX_tidy hs
theorem odZ_ok {a : Act} (hR : Rl W σ h w) {md : Nat} {ev : Operand → Option Value} {nx nx' : Nat} (hf : Fresh σ nx nx') (H : Evs σ ev a) {o : Oper} {v : Value} {h' : Hp} {d : List Nat} {ob : List Prop} (hs : odZ P md ev h nx o.op = some ((v, h', nx', d), ob)) (ho : Alls ob) :
    ∃ σ' w' v', Stp W nx nx' σ h w σ' h' w' ∧ renV σ' v = some v' ∧ Ends P a o w v' w' := by
  unfold odZ at hs
  rcases bif_or hs with ⟨_, hs⟩ | ⟨_, hs⟩
  · exact daZ_ok hR hf H hs ho
  · exact odX_ok hR hf H hs ho
end
end Go.Proofs.Ytojakfnljopjbaa
