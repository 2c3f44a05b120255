/-
  The told machine, part Za: operations at data that is not known cell by cell; what they ask for is handed back, to be proved afterwards.
-/
import Derived.Test.YtojakfnljopjbaaGrAH
import Derived.IntWalk
import Derived.Laws.Bits64
namespace Go.Proofs.Ytojakfnljopjbaa
set_option linter.unusedSimpArgs false
set_option linter.unusedVariables false
set_option linter.unusedSectionVars false
open Go Go.RowKit

inductive Res (α : Type) where
 | no
 | ask (b : Bool)
 | ok (a : α)
def Alls : List Prop → Prop
 | [] => True
 | p :: l => p ∧ Alls l
theorem Bw : ∀ {a b : List Prop}, Alls (a ++ b) ↔ Alls a ∧ Alls b
 | [], b => by simp [Alls]
 | p :: a, b => by simp [Alls, Bw, and_assoc]

def mlN (n s : Nat) : Nat := bif Nat.beq s 1 then n else n * s
def adN (o m : Nat) : Nat := bif Nat.beq o 0 then m else o + m
def sbN (h l : Nat) : Nat := bif Nat.beq l 0 then h else h - l
def tkD {α : Type} (o m : Nat) (cs : List α) : List α := bif Nat.beq o 0 then cs.take m else (cs.drop o).take m
theorem E6 (n s : Nat) : mlN n s = n * s := by
 unfold mlN
 cases h : Nat.beq s 1
 ·rfl
 ·rw [Nat.eq_of_beq_eq_true h]; simp
theorem Iq (o m : Nat) : adN o m = o + m := by
 unfold adN
 cases h : Nat.beq o 0
 ·rfl
 ·rw [Nat.eq_of_beq_eq_true h]; simp
theorem Dh (o m : Nat) : sbN o m = o - m := by
 unfold sbN
 cases h : Nat.beq m 0
 ·rfl
 ·rw [Nat.eq_of_beq_eq_true h]; simp
theorem Jx {α : Type} (o m : Nat) (cs : List α) : tkD o m cs = (cs.drop o).take m := by
 unfold tkD
 cases h : Nat.beq o 0
 ·rfl
 ·rw [Nat.eq_of_beq_eq_true h]; simp
def J9 (cs : List Value) (o : Nat) : Int := match cs[o]? with | some (.int _ n) => n | _ => 0
def boolAt (cs : List Value) (o : Nat) : Bool := match cs[o]? with | some (.bool b) => b | _ => false
def strAt (cs : List Value) (o : Nat) : ByteArray := match cs[o]? with | some (.string s) => s | _ => ByteArray.empty
def shp : Value → List Value → Nat → Option Value
 | .int k _, cs, o => some (.int k (J9 cs o))
 | .bool _, cs, o => some (.bool (boolAt cs o))
 | .string _, cs, o => some (.string (strAt cs o))
 | .slice none _ _, cs, o => some (cs.getD o undef)
 | _, _, _ => none
def shpL : List Value → List Value → Nat → Option (List Value)
 | [], _, _ => some []
 | z :: zs, cs, o => match shp z cs o, shpL zs cs (o + 1) with | some v, some l => some (v :: l) | _, _ => none
def ldZ (P : Program) (t : TypeId) (cs : List Value) (o : Nat) : Option (Value × Prop) :=
 match P.underlying t, P.info? t with
 | some d, some i => match i.zero with
  | some z => bif d.isRow then (match shpL z.cells.toList cs o with
    | some l => bif Nat.beq l.length i.size then some (.agg ⟨l⟩, (cs.drop o).take i.size = l) else none
    | none => none)
   else (match shp z cs o with | some v => some (v, cs[o]? = some v) | none => none)
  | none => none
 | _, _ => none
theorem ldZ_ok {P : Program} {t : TypeId} {cs : List Value} {o : Nat} {v : Value} {p : Prop} (h : ldZ P t cs o = some (v, p)) (hp : p) : Is P t cs o = some v ∧ Hy P t cs o = some v := by
 unfold ldZ at h
 unfold Is Hy
 split at h
 ·rename_i d i hu hi
  rw [hu]
  simp only [hi]
  split at h
  ·rename_i z hz
   rcases Be h with ⟨hd, h⟩ | ⟨hd, h⟩
   ·rw [hd]
    simp only [cond_true]
    split at h
    ·rename_i l hl
     obtain ⟨hb, h⟩ := Ba h
     simp only [oI, pI] at h
     obtain ⟨rfl, rfl⟩ := h
     simp only [Cz, hp, hb, cond_true, and_self]
    ·cases h
   ·rw [hd]
    simp only [cond_false]
    split at h
    ·simp only [oI, pI] at h
     obtain ⟨rfl, rfl⟩ := h
     exact ⟨hp, hp⟩
    ·cases h
  ·cases h
 ·cases h

def shpN : Value → List Value → Nat → Option Value
 | .int k _, cs, o => some (.int k (J9 cs o))
 | .bool _, cs, o => some (.bool (boolAt cs o))
 | .string _, cs, o => some (.string (strAt cs o))
 | .slice none _ _, _, _ => some (.slice none 0 0)
 | _, _, _ => none
def shpNL : List Value → List Value → Nat → Option (List Value)
 | [], _, _ => some []
 | z :: zs, cs, o => match shpN z cs o, shpNL zs cs (o + 1) with | some v, some l => some (v :: l) | _, _ => none
def ldN (P : Program) (t : TypeId) (cs : List Value) (o : Nat) : Option (Value × Prop) :=
 match P.underlying t, P.info? t with
 | some d, some i => match i.zero with
  | some z => bif d.isRow then (match shpNL z.cells.toList cs o with
    | some l => bif Nat.beq l.length i.size then some (.agg ⟨l⟩, (cs.drop o).take i.size = l) else none
    | none => none)
   else (match shpN z cs o with | some v => some (v, cs[o]? = some v) | none => none)
  | none => none
 | _, _ => none
theorem ldN_ok {P : Program} {t : TypeId} {cs : List Value} {o : Nat} {v : Value} {p : Prop} (h : ldN P t cs o = some (v, p)) (hp : p) : Is P t cs o = some v ∧ Hy P t cs o = some v := by
 unfold ldN at h
 unfold Is Hy
 split at h
 ·rename_i d i hu hi
  rw [hu]
  simp only [hi]
  split at h
  ·rename_i z hz
   rcases Be h with ⟨hd, h⟩ | ⟨hd, h⟩
   ·rw [hd]
    simp only [cond_true]
    split at h
    ·rename_i l hl
     obtain ⟨hb, h⟩ := Ba h
     simp only [oI, pI] at h
     obtain ⟨rfl, rfl⟩ := h
     simp only [Cz, hp, hb, cond_true, and_self]
    ·cases h
   ·rw [hd]
    simp only [cond_false]
    split at h
    ·simp only [oI, pI] at h
     obtain ⟨rfl, rfl⟩ := h
     exact ⟨hp, hp⟩
    ·cases h
  ·cases h
 ·cases h
def ldM (P : Program) (md : Nat) (t : TypeId) (cs : List Value) (o : Nat) : Option (Value × Prop) := bif Nat.beq md 5 then ldN P t cs o else ldZ P t cs o
theorem ldM_ok {P : Program} {md : Nat} {t : TypeId} {cs : List Value} {o : Nat} {v : Value} {p : Prop} (h : ldM P md t cs o = some (v, p)) (hp : p) : Is P t cs o = some v ∧ Hy P t cs o = some v := by
 unfold ldM at h
 rcases Be h with ⟨_, h⟩ | ⟨_, h⟩
 ·exact ldN_ok h hp
 ·exact ldZ_ok h hp

def bdZ (v : Option Value) (d top : Nat) : Option (Nat × List Prop) :=
 match v with
 | none => some (d, [])
 | some (.int _ i) => some (i.toNat, [0 ≤ i ∧ i ≤ (top : Int)])
 | _ => none
theorem bdZ_ok {v : Option Value} {d top r : Nat} {ob : List Prop} (h : bdZ v d top = some (r, ob)) (ho : Alls ob) : bdV v d top = some r := by
 unfold bdZ at h
 unfold bdV
 split at h
 ·simp only [oI, pI] at h; simp [h.1]
 ·rename_i k i
  simp only [oI, pI] at h
  obtain ⟨rfl, rfl⟩ := h
  simp only [decide_eq_true ho.1, cond_true]
 ·cases h
def bdsZ (len cap : Nat) (lo hi mx : Option Value) : Option ((Nat × Nat × Nat) × List Prop) :=
 match bdZ mx cap cap with
 | none => none
 | some (m, o1) => match hi, mx with
  | none, some _ => none
  | _, _ => match bdZ hi len m with
   | none => none
   | some (h, o2) => match bdZ lo 0 h with
    | none => none
    | some (l, o3) => some ((l, h, m), o1 ++ (o2 ++ o3))
theorem M7 {len cap : Nat} {lo hi mx : Option Value} {q : Nat × Nat × Nat} {ob : List Prop} (h : bdsZ len cap lo hi mx = some (q, ob)) (ho : Alls ob) : bdsV len cap lo hi mx = some q := by
 unfold bdsZ at h
 unfold bdsV
 split at h
 ·cases h
 ·rename_i m o1 h1
  split at h
  ·cases h
  ·rename_i hno
   split at h
   ·cases h
   ·rename_i hh o2 h2
    split at h
    ·cases h
    ·rename_i l o3 h3
     simp only [oI, pI] at h
     obtain ⟨rfl, rfl⟩ := h
     obtain ⟨a1, a2⟩ := Bw.1 ho
     obtain ⟨a2, a3⟩ := Bw.1 a2
     have e2 := bdZ_ok h2 a2
     have e3 := bdZ_ok h3 a3
     rw [bdZ_ok h1 a1]
     cases hi with
     | none =>
      cases mx with
      | none => simp only [e2, e3]
      | some x => exact (hno _ rfl rfl).elim
     | some y => simp only [e2, e3]
def slO (o l m s : Nat) : Nat := bif Nat.beq m l then o else o + l * s
theorem slO_ad {n o l m s : Nat} : Iw n o l m s = ⟨n, slO o l m s, none⟩ := by
 unfold Iw slO
 cases Nat.beq m l <;> rfl
def loO (lo : Option Value) (o l m s : Nat) : Nat := match lo with | none => o | some _ => slO o l m s
theorem loO_eq {lo : Option Value} {o l m s : Nat} (h : lo = none → l = 0) : slO o l m s = loO lo o l m s := by
 cases lo with
 | none => rw [h rfl]; unfold slO loO; cases Nat.beq m 0 <;> simp
 | some _ => rfl
theorem bdsV_lo {len cap l h m : Nat} {hi mx : Option Value} (hb : bdsV len cap none hi mx = some (l, h, m)) : l = 0 := by
 unfold bdsV at hb
 split at hb
 ·cases hb
 ·split at hb
  ·cases hb
  ·split at hb
   ·cases hb
   ·split at hb
    ·cases hb
    ·rename_i h3
     simp only [oI, pI] at hb
     have := Es h3
     omega
theorem Dd {a b : Nat} (h : a < b) : Nat.blt a b = true := Nat.ble_eq_true_of_le h
def slZ (P : Program) (t : TypeId) (x : Value) (lo hi mx : Option Value) : Option (Value × List Prop) :=
 match P.underlying t, x with
 | some (.slice e), .slice a len cap => match P.info? e with
  | none => none
  | some i => match bdsZ len cap lo hi mx with
   | none => none
   | some ((l, h, m), ob) => match a with
    | none => some (.slice none (sbN h l) (sbN m l), (cap < B0) :: ob)
    | some ⟨n, o, none⟩ => some (.slice (some ⟨n, loO lo o l m i.size, none⟩) (sbN h l) (sbN m l), (cap < B0) :: ob)
    | _ => none
 | some .string, .string s => match mx with
  | some _ => none
  | none => match bdsZ s.data.toList.length s.data.toList.length lo hi none with
   | none => none
   | some ((l, h, _), ob) => some (.string ⟨((s.data.toList.drop l).take (h - l)).toArray⟩, ob)
 | some (.array n e), .pointer (some ⟨b, o, none⟩) => match P.info? e with
  | none => none
  | some i => match bdsZ n n lo hi mx with
   | none => none
   | some ((l, h, m), ob) => bif Nat.blt n B0 then some (.slice (some ⟨b, loO lo o l m i.size, none⟩) (sbN h l) (sbN m l), ob) else none
 | _, _ => none
theorem slZ_ok {P : Program} {t : TypeId} {x v : Value} {lo hi mx : Option Value} {ob : List Prop} (h : slZ P t x lo hi mx = some (v, ob)) (ho : Alls ob) : slV P t x lo hi mx = some v := by
 unfold slZ at h
 unfold slV
 split at h
 ·rename_i e a len cap hu
  rw [hu]
  simp only
  split at h
  ·cases h
  ·rename_i i hi
   rw [hi]
   simp only
   split at h
   ·cases h
   ·rename_i l hh m ob' hb
    split at h
    ·simp only [oI, pI] at h
     obtain ⟨rfl, rfl⟩ := h
     rw [M7 hb ho.2, Dd ho.1]
     simp only [cond_true, Dh]
    ·rename_i n o
     simp only [oI, pI] at h
     obtain ⟨rfl, rfl⟩ := h
     have hbv := M7 hb ho.2
     rw [hbv, Dd ho.1]
     simp only [cond_true, slO_ad, Dh]
     rw [loO_eq (lo := lo) (fun e => by subst e; exact bdsV_lo hbv)]
    ·cases h
 ·rename_i s hu
  rw [hu]
  simp only
  split at h
  ·cases h
  ·split at h
   ·cases h
   ·rename_i l hh m ob' hb
    simp only [oI, pI] at h
    obtain ⟨rfl, rfl⟩ := h
    rw [M7 hb ho]
 ·rename_i n e b o hu
  rw [hu]
  simp only
  split at h
  ·cases h
  ·rename_i i hi
   rw [hi]
   simp only
   split at h
   ·cases h
   ·rename_i l hh m ob' hb
    obtain ⟨hc, h⟩ := Ba h
    simp only [oI, pI] at h
    obtain ⟨rfl, rfl⟩ := h
    have hbv := M7 hb ho
    rw [hbv, hc]
    simp only [cond_true, slO_ad, Dh]
    rw [loO_eq (lo := lo) (fun e => by subst e; exact bdsV_lo hbv)]
 ·cases h

def B1 (cs : List Value) : List Int := cs.map fun | .int _ n => n | _ => 0
theorem Lw : ∀ ns : List Int, bytesOf (ns.map (Value.int .u8)) = some ns
 | [] => rfl
 | n :: ns => by simp only [List.map_cons, bytesOf, byOf, Lw ns]
def srcZ (P : Program) (h : Hp) (size : Nat) (tx : TypeId) (x : Value) : Option (Nat × List Value × List Prop) :=
 match P.underlying tx, x with
 | some (.slice _), .slice none n _ => bif Nat.beq n 0 then some (0, [], []) else none
 | some (.slice _), .slice (some ⟨m, o, none⟩) n _ => match lk h m with
  | some r => some (n, tkD o (mlN n size) r.cs, [adN o (mlN n size) ≤ r.cs.length, all1 (tkD o (mlN n size) r.cs) = true])
  | none => none
 | some .string, .string s => bif Nat.beq size 1 then some (s.data.toList.length, s.data.toList.map fun b => Value.int .u8 b.toNat, []) else none
 | _, _ => none
theorem Ea {h : Hp} {n o len : Nat} {r : Rw} (hl : lk h n = some r) (hle : o + len ≤ r.cs.length) : Ej h n o len = some ((r.cs.drop o).take len) := by
 unfold Ej
 rw [hl]
 simp only [Nat.ble_eq_true_of_le hle, cond_true]
theorem Cw {P : Program} {h : Hp} {size : Nat} {tx : TypeId} {x : Value} {n : Nat} {cs : List Value} {ob : List Prop} (hs : srcZ P h size tx x = some (n, cs, ob)) (ho : Alls ob) : srcV P h size tx x = some (n, cs) := by
 unfold srcZ at hs
 unfold srcV
 split at hs
 ·rename_i e n' c hu
  rw [hu]
  obtain ⟨hb, hs⟩ := Ba hs
  simp only [oI, pI] at hs
  obtain ⟨rfl, rfl, rfl⟩ := hs
  simp only [hb, cond_true]
 ·rename_i e m o n' c hu
  rw [hu]
  simp only
  split at hs
  ·rename_i r hl
   simp only [oI, pI] at hs
   obtain ⟨rfl, rfl, rfl⟩ := hs
   have h1 := ho.1
   have h2 := ho.2.1
   simp only [Iq, E6, Jx] at h1 h2 ⊢
   rw [Ea hl h1]
   simp only [h2, cond_true]
  ·cases hs
 ·rename_i s hu
  rw [hu]
  obtain ⟨hb, hs⟩ := Ba hs
  simp only [oI, pI] at hs
  obtain ⟨rfl, rfl, rfl⟩ := hs
  simp only [hb, cond_true]
 ·cases hs

def apZ (P : Program) (md : Nat) (h : Hp) (nx : Nat) (t tx : TypeId) (s x : Value) : Option (Out × List Prop) :=
 match P.underlying t with
 | some (.slice e) => match P.info? e with
  | some i => match srcZ P h i.size tx x with
   | some (n, news, ob) => match i.zero with
    | some z => bif Nat.beq z.cells.toList.length i.size && Nat.ble 1 i.size then (match s with
     | .slice none len cap => bif Nat.beq len 0 && Nat.beq cap 0 then (bif Nat.beq md 4 then some ((.slice none 0 0, h, nx, []), (n = 0) :: ob) else
       some ((.slice (some ⟨nx, 0, none⟩) n (B0 + nx), (nx, ⟨.room i.size z.cells.toList, news⟩) :: h, nx + 1, []), (n ≠ 0) :: (n * i.bytes ≤ 140737488355328 ∧ n ≤ 9223372036854775807) :: ob)) else none
     | .slice (some ⟨m, o, none⟩) len cap => match lk h m with
      | some r => bif Nat.beq md 1 then
        some ((.slice (some ⟨m, o, none⟩) (len + n) cap, setH h m ⟨r.kd, Bg r.cs (adN o (mlN len i.size)) news⟩, nx, [m]), (cap < B0) :: (len + n ≤ cap) :: (I1 r.kd = true) :: (adN o (mlN len i.size) + news.length ≤ r.cs.length) :: ob)
       else bif Nat.beq md 2 then
        some ((.slice (some ⟨nx, 0, none⟩) (len + n) (B0 + nx), (nx, ⟨.room i.size z.cells.toList, tkD o (mlN len i.size) r.cs ++ news⟩) :: h, nx + 1, []), (cap < B0) :: (cap < len + n) :: (adN o (mlN len i.size) ≤ r.cs.length) :: ((len + n) * i.bytes ≤ 140737488355328 ∧ len + n ≤ 9223372036854775807) :: ob)
       else match Cy r.kd with
        | some (sz, zz) => bif Nat.beq o 0 && (Nat.beq sz i.size && Iv zz z.cells.toList) then some ((.slice (some ⟨nx, 0, none⟩) (len + n) (B0 + nx), (nx, ⟨.room i.size z.cells.toList, r.cs ++ news⟩) :: delH h m, nx + 1, [m]), (cap = B0 + m) :: (r.cs.length = mlN len i.size) :: ((len + n) * i.bytes ≤ 140737488355328 ∧ len + n ≤ 9223372036854775807) :: ob) else none
        | none => none
      | none => none
     | _ => none) else none
    | none => none
   | none => none
  | none => none
 | _ => none
theorem Dc (a : Nat) : Nat.beq a a = true := nbeq_eq rfl
theorem nbeq_false {a b : Nat} (h : a ≠ b) : Nat.beq a b = false := Ca h
theorem Dp {a b : Nat} (h : b < a) : Nat.ble a b = false := by
 cases hb : Nat.ble a b with
 | false => rfl
 | true => exact absurd (Nat.le_of_ble_eq_true hb) (by omega)
theorem apZ_ok {P : Program} {md : Nat} {h : Hp} {nx : Nat} {t tx : TypeId} {s x : Value} {out : Out} {ob : List Prop} (hs : apZ P md h nx t tx s x = some (out, ob)) (ho : Alls ob) : appV P h nx t tx s x = some out := by
 unfold apZ at hs
 unfold appV
 split at hs
 case h_2 => cases hs
 rename_i e hu
 rw [hu]
 simp only
 split at hs
 case h_2 => cases hs
 rename_i i hi
 rw [hi]
 simp only
 split at hs
 case h_2 => cases hs
 rename_i n news ob' hsrc
 split at hs
 case h_2 => cases hs
 rename_i z hz
 obtain ⟨hg, hs⟩ := Ba hs
 split at hs
 ·rename_i len cap
  obtain ⟨hg2, hs⟩ := Ba hs
  rcases Be hs with ⟨_, hs⟩ | ⟨_, hs⟩
  ·simp only [oI, pI] at hs
   obtain ⟨rfl, rfl⟩ := hs
   rw [Cw hsrc ho.2]
   have h0 : n = 0 := ho.1
   subst h0
   simp only [hz, hg, hg2, cond_true, Dc]
  ·simp only [oI, pI] at hs
   obtain ⟨rfl, rfl⟩ := hs
   rw [Cw hsrc ho.2.2]
   simp only [hz, hg, hg2, cond_true, nbeq_false ho.1, cond_false, Nat.ble_eq_true_of_le ho.2.1.1, Nat.ble_eq_true_of_le ho.2.1.2, Bool.and_self]
 ·rename_i m o len cap hs0
  clear hs0
  split at hs
  case h_2 => cases hs
  rename_i r hl
  rcases Be hs with ⟨_, hs⟩ | ⟨_, hs⟩
  ·simp only [oI, pI] at hs
   obtain ⟨rfl, rfl⟩ := hs
   obtain ⟨h1, h2, h3, h4, h5⟩ := ho
   rw [Cw hsrc h5]
   simp only [Iq, E6] at h4 ⊢
   simp only [hz, hg, cond_true, Dd h1, Nat.ble_eq_true_of_le h2, hl, h3, Nat.ble_eq_true_of_le h4, Bool.and_self]
  ·rcases Be hs with ⟨_, hs⟩ | ⟨_, hs⟩
   ·simp only [oI, pI] at hs
    obtain ⟨rfl, rfl⟩ := hs
    obtain ⟨h1, h2, h3, h4, h5⟩ := ho
    rw [Cw hsrc h5]
    simp only [Iq, E6, Jx] at h3 ⊢
    simp only [hz, hg, cond_true, Dd h1, Dp h2, cond_false, Ea hl h3, Nat.ble_eq_true_of_le h4.1, Nat.ble_eq_true_of_le h4.2, Bool.and_self]
   ·split at hs
    case h_2 => cases hs
    rename_i sz zz hsz
    obtain ⟨hg2, hs⟩ := Ba hs
    simp only [oI, pI] at hs
    obtain ⟨rfl, rfl⟩ := hs
    obtain ⟨h1, h2, h4, h5⟩ := ho
    rw [Cw hsrc h5]
    subst h1
    rw [E6] at h2
    simp only [Bool.and_eq_true] at hg2
    have hb : Nat.blt (B0 + m) B0 = false := Dp (by omega)
    simp only [hz, hg, cond_true, hb, cond_false, hl, hsz, Dc, hg2.1, hg2.2.1, hg2.2.2, h2, Nat.ble_eq_true_of_le h4.1, Nat.ble_eq_true_of_le h4.2, Bool.and_self]
 ·cases hs
def cpZ (P : Program) (h : Hp) (nx : Nat) (t tx : TypeId) (d x : Value) : Option (Out × List Prop) :=
 match P.underlying t, d with
 | some (.slice e), .slice (some ⟨n, o, none⟩) dl _ => match P.info? e, lk h n with
  | some i, some r => match srcZ P h i.size tx x with
   | some (m, cs, ob) => bif I1 r.kd then some ((.int .i64 (Nat.min m dl : Nat), setH h n ⟨r.kd, Bg r.cs o (cs.take (mlN (Nat.min m dl) i.size))⟩, nx, [n]), (adN o (cs.take (mlN (Nat.min m dl) i.size)).length ≤ r.cs.length) :: ob) else none
   | none => none
  | _, _ => none
 | _, _ => none
theorem cpZ_ok {P : Program} {h : Hp} {nx : Nat} {t tx : TypeId} {d x : Value} {out : Out} {ob : List Prop} (hs : cpZ P h nx t tx d x = some (out, ob)) (ho : Alls ob) : ∃ v h' dd, copyV P h t tx d x = some (v, h', dd) ∧ out = (v, h', nx, dd) := by
 unfold cpZ at hs
 unfold copyV
 split at hs
 case h_2 => cases hs
 rename_i e n o dl c hu
 rw [hu]
 simp only
 split at hs
 case h_2 => cases hs
 rename_i i r hi hl
 rw [hi, hl]
 simp only
 split at hs
 case h_2 => cases hs
 rename_i m cs ob' hsrc
 obtain ⟨h1, hs⟩ := Ba hs
 simp only [oI, pI] at hs
 obtain ⟨rfl, rfl⟩ := hs
 obtain ⟨h2, h3⟩ := ho
 rw [Cw hsrc h3]
 simp only [Iq, E6] at h2 ⊢
 refine ⟨_, _, _, ?_, rfl⟩
 simp only [h1, Nat.ble_eq_true_of_le h2, Bool.and_self, cond_true]

def lenOf : Value → Nat
 | .slice _ n _ => n
 | _ => 0
def isSl : Value → Bool
 | .slice _ _ _ => true
 | _ => false
def chAt (s : ByteArray) (i : Nat) : Nat := ((s.data.toList[i]?).getD 0).toNat
def rg : IntKind → Int → Prop
 | .i8, r => -128 ≤ r ∧ r ≤ 127
 | .i16, r => -32768 ≤ r ∧ r ≤ 32767
 | .i32, r => -2147483648 ≤ r ∧ r ≤ 2147483647
 | .i64, r => -9223372036854775808 ≤ r ∧ r ≤ 9223372036854775807
 | .u8, r => 0 ≤ r ∧ r ≤ 255
 | .u16, r => 0 ≤ r ∧ r ≤ 65535
 | .u32, r => 0 ≤ r ∧ r ≤ 4294967295
 | .u64, r => 0 ≤ r ∧ r ≤ 18446744073709551615
theorem Jj {k : IntKind} {r : Int} (h : rg k r) : k.wrap r = r := by
 cases k
 ·exact IntWalk.i8_in r h
 ·exact IntWalk.i16_in r h
 ·exact IntWalk.i32_in r h
 ·exact IntWalk.i64_in r h
 ·exact IntWalk.u8_in r h
 ·exact IntWalk.u16_in r h
 ·exact IntWalk.u32_in r h
 ·exact IntWalk.u64_in r h
def adI : Int → Int → Int
 | .ofNat x, .ofNat y => .ofNat (x + y)
 | a, b => a + b
def mlI : Int → Int → Int
 | .ofNat x, .ofNat y => .ofNat (x * y)
 | a, b => a * b
def dvI : Int → Int → Int
 | .ofNat x, .ofNat y => .ofNat (x / y)
 | a, b => a / b
def mdI : Int → Int → Int
 | .ofNat x, .ofNat y => .ofNat (x % y)
 | a, b => a % b
def slI : Int → Int → Int
 | .ofNat x, .ofNat y => .ofNat (x * 2 ^ y)
 | a, b => a * 2 ^ b.toNat
def srI : Int → Int → Int
 | .ofNat x, .ofNat y => .ofNat (x / 2 ^ y)
 | a, b => a / 2 ^ b.toNat
theorem adI_eq (a b : Int) : adI a b = a + b := by cases a <;> cases b <;> rfl
theorem mlI_eq (a b : Int) : mlI a b = a * b := by cases a <;> cases b <;> rfl
theorem dvI_eq (a b : Int) : dvI a b = a / b := by cases a <;> cases b <;> rfl
theorem mdI_eq (a b : Int) : mdI a b = a % b := by cases a <;> cases b <;> rfl
theorem slI_eq (a b : Int) : slI a b = a * 2 ^ b.toNat := by
 cases a <;> cases b <;> rfl
theorem srI_eq (a b : Int) : srI a b = a / 2 ^ b.toNat := by
 cases a <;> cases b <;> rfl
def lowI (k : IntKind) (n : Int) : Int := mdI n (2 ^ k.bits)
theorem low_eq {k : IntKind} (hk : k.signed = false) (n : Int) : k.wrap n = lowI k n := by
 unfold lowI
 rw [mdI_eq]
 cases k <;> simp [IntKind.signed] at hk <;> simp [IntKind.wrap, IntKind.signed, IntKind.bits]
def biZ (md : Nat) (op : BinOp) (x y : Value) : Option (Value × List Prop) :=
 match op, x, y with
 | .add, .int k a, .int k' b => bif decide (k = k') && !(Nat.beq md 8) then some (.int k (adI a b), [rg k (adI a b)]) else none
 | .sub, .int k a, .int k' b => bif decide (k = k') && !(Nat.beq md 8) then some (.int k (a - b), [rg k (a - b)]) else none
 | .mul, .int k a, .int k' b => bif decide (k = k') && !(Nat.beq md 8) then some (.int k (mlI a b), [rg k (mlI a b)]) else none
 | .quo, .int k a, .int k' b => bif decide (k = k') then some (.int k (dvI a b), [0 ≤ a ∧ 0 < b ∧ rg k a]) else none
 | .rem, .int k a, .int k' b => bif decide (k = k') then some (.int k (mdI a b), [0 ≤ a ∧ 0 < b]) else none
 | .or, .int k a, .int k' b => bif decide (k = k') && Nat.beq md 7 then some (.int k (adI a b), [k.wrap (BitVec.ofInt k.bits a ||| BitVec.ofInt k.bits b).toNat = adI a b]) else none
 | .and, .int k a, .int k' b => bif decide (k = k') && Nat.beq md 7 then some (.int k (mdI a (adI b 1)), [k.wrap (BitVec.ofInt k.bits a &&& BitVec.ofInt k.bits b).toNat = mdI a (adI b 1)]) else none
 | .shl, .int k a, .int _ b => bif Nat.beq md 8 then none else some (.int k (slI a b), [0 ≤ b ∧ b ≤ (k.bits : Int) ∧ rg k (slI a b)])
 | .shr, .int k a, .int _ b => some (.int k (srI a b), [0 ≤ b ∧ b ≤ (k.bits : Int)])
 | .add, .string a, .string b => some (.string ⟨(a.data.toList ++ b.data.toList).toArray⟩, [a.data.toList.length + b.data.toList.length ≤ 9223372036854775807])
 | _, _, _ => none
theorem rg_quo {k : IntKind} {a b : Int} (h0 : 0 ≤ a) (h1 : 0 < b) (h2 : rg k a) : rg k (a / b) := by
 have e1 : 0 ≤ a / b := Int.ediv_nonneg h0 (Int.le_of_lt h1)
 have e2 : a / b ≤ a := Int.ediv_le_self b h0
 cases k <;> simp only [rg] at h2 ⊢ <;> omega
theorem biZ_ok {P : Program} {md : Nat} {op : BinOp} {t : TypeId} {x y v : Value} {ob : List Prop} (hs : biZ md op x y = some (v, ob)) (ho : Alls ob) : binV P op t x y = some v := by
 unfold biZ at hs
 unfold binV
 split at hs
 ·obtain ⟨hk, hs⟩ := Ba hs
  simp only [Bool.and_eq_true] at hk
  simp only [oI, pI] at hs
  obtain ⟨rfl, rfl⟩ := hs
  simp only [hk.1, cond_true, binI]
  rw [← adI_eq, Jj ho.1]
 ·obtain ⟨hk, hs⟩ := Ba hs
  simp only [Bool.and_eq_true] at hk
  simp only [oI, pI] at hs
  obtain ⟨rfl, rfl⟩ := hs
  simp only [hk.1, cond_true, binI]
  rw [Jj ho.1]
 ·obtain ⟨hk, hs⟩ := Ba hs
  simp only [Bool.and_eq_true] at hk
  simp only [oI, pI] at hs
  obtain ⟨rfl, rfl⟩ := hs
  simp only [hk.1, cond_true, binI]
  rw [← mlI_eq, Jj ho.1]
 ·obtain ⟨hk, hs⟩ := Ba hs
  simp only [oI, pI] at hs
  obtain ⟨rfl, rfl⟩ := hs
  obtain ⟨h1, h2, h3⟩ := ho.1
  have hb : decide (_ = (0 : Int)) = false := decide_eq_false (Int.ne_of_gt h2)
  simp only [hk, cond_true, binI, hb, cond_false]
  rw [Int.tdiv_eq_ediv_of_nonneg h1, Jj (rg_quo h1 h2 h3), dvI_eq]
 ·obtain ⟨hk, hs⟩ := Ba hs
  simp only [oI, pI] at hs
  obtain ⟨rfl, rfl⟩ := hs
  obtain ⟨h1, h2⟩ := ho.1
  have hb : decide (_ = (0 : Int)) = false := decide_eq_false (Int.ne_of_gt h2)
  simp only [hk, cond_true, binI, hb, cond_false]
  rw [Int.tmod_eq_emod_of_nonneg h1, mdI_eq]
 ·obtain ⟨hk, hs⟩ := Ba hs
  simp only [Bool.and_eq_true] at hk
  simp only [oI, pI] at hs
  obtain ⟨rfl, rfl⟩ := hs
  simp only [hk.1, cond_true, binI]
  rw [ho.1]
 ·obtain ⟨hk, hs⟩ := Ba hs
  simp only [Bool.and_eq_true] at hk
  simp only [oI, pI] at hs
  obtain ⟨rfl, rfl⟩ := hs
  simp only [hk.1, cond_true, binI]
  rw [ho.1]
 ·rcases Be hs with ⟨_, hs⟩ | ⟨_, hs⟩
  ·cases hs
  simp only [oI, pI] at hs
  obtain ⟨rfl, rfl⟩ := hs
  obtain ⟨h1, h2, h3⟩ := ho.1
  have : ¬ ((_ : Int) < 0) := Int.not_lt.2 h1
  simp only [shV, decide_eq_false this, cond_false]
  rw [Nat.min_eq_left (by omega), ← slI_eq, Jj h3]
 ·simp only [oI, pI] at hs
  obtain ⟨rfl, rfl⟩ := hs
  obtain ⟨h1, h2⟩ := ho.1
  have : ¬ ((_ : Int) < 0) := Int.not_lt.2 h1
  simp only [shV, decide_eq_false this, cond_false]
  rw [Nat.min_eq_left (by omega), srI_eq, Int.fdiv_eq_ediv_of_nonneg _ (Int.le_of_lt (Int.pow_pos (by decide)))]
 ·simp only [oI, pI] at hs
  obtain ⟨rfl, rfl⟩ := hs
  simp only [binS, Nat.ble_eq_true_of_le ho.1, cond_true]
 ·cases hs
def ixO (o i s : Nat) : Nat := bif Nat.beq o 0 then (bif Nat.beq s 1 then i else i * s) else (bif Nat.beq s 1 then o + i else o + i * s)
theorem J7 (o i s : Nat) : ixO o i s = o + i * s := by
 unfold ixO
 cases h1 : Nat.beq o 0 <;> cases h2 : Nat.beq s 1 <;> simp only [cond_true, cond_false]
 ·rw [Nat.eq_of_beq_eq_true h2]; omega
 ·rw [Nat.eq_of_beq_eq_true h1]; omega
 ·rw [Nat.eq_of_beq_eq_true h1, Nat.eq_of_beq_eq_true h2]; omega
def cvZ (k0 k : IntKind) (n : Int) : Value × List Prop :=
 bif !k.signed && Nat.blt k.bits k0.bits then (.int k (lowI k n), []) else (.int k n, [rg k n])
theorem cvZ_ok {k0 k : IntKind} {n : Int} {v : Value} {ob : List Prop} (h : cvZ k0 k n = (v, ob)) (ho : Alls ob) : Value.int k (k.wrap n) = v := by
 unfold cvZ at h
 rcases Be h with ⟨hb, h⟩ | ⟨_, h⟩
 ·simp only [pI] at h
  obtain ⟨rfl, rfl⟩ := h
  simp only [Bool.and_eq_true, Bool.not_eq_true'] at hb
  rw [low_eq hb.1]
 ·simp only [pI] at h
  obtain ⟨rfl, rfl⟩ := h
  rw [Jj ho.1]
def eqSZ (P : Program) (op : BinOp) (t : TypeId) (a b : Value) : Option (Value × List Prop) := match a, b with
 | .slice (some ad) l c, .slice none 0 0 => (match op, P.underlying t with
  | .eql, some (.slice _) => bif H5 P t (.slice (some ad) l c) then some (.bool false, [0 < l]) else none
  | _, _ => none)
 | _, _ => none
theorem eqSZ_ok {P : Program} {op : BinOp} {t : TypeId} {x y v : Value} {ob : List Prop} (hs : eqSZ P op t x y = some (v, ob)) (ho : Alls ob) : binV P op t x y = some v := by
 unfold eqSZ at hs
 split at hs
 case h_2 => cases hs
 rename_i ad l c
 split at hs
 case h_2 => cases hs
 rename_i e hu
 obtain ⟨hg, hs⟩ := Ba hs
 simp only [oI, pI] at hs
 obtain ⟨rfl, rfl⟩ := hs
 have hl : Nat.blt 0 l = true := Dd ho.1
 simp only [binV, hg, cond_true, eqV, hu, hl]
def biY (P : Program) (md : Nat) (op : BinOp) (t : TypeId) (x y : Value) : Option (Value × List Prop) := match eqSZ P op t x y with
 | some r => some r
 | none => biZ md op x y
theorem biY_ok {P : Program} {md : Nat} {op : BinOp} {t : TypeId} {x y v : Value} {ob : List Prop} (hs : biY P md op t x y = some (v, ob)) (ho : Alls ob) : binV P op t x y = some v := by
 unfold biY at hs
 split at hs
 ·rename_i r hr
  cases hs
  exact eqSZ_ok hr ho
 ·exact biZ_ok hs ho
def pl1 (h : Hp) (nx : Nat) : Option (Value × List Prop) → Option (Out × List Prop)
 | some (v, ob) => some ((v, h, nx, []), ob)
 | none => none
def opZ (P : Program) (md : Nat) (ev : Operand → Option Value) (h : Hp) (nx : Nat) : Op → Option (Out × List Prop)
 | .load t x => match ev x with
  | some (.pointer (some ⟨n, o, none⟩)) => match lk h n with
   | some r => match ldM P md t r.cs o with
    | some (v, p) => some ((v, h, nx, []), [p])
    | none => none
   | none => none
  | _ => none
 | .indexAddr t x i => match ev x, ev i with
  | some (.slice (some ⟨n, o, none⟩) len _), some (.int _ iv) => match P.underlying t with
   | some (.slice e) => match P.info? e with
    | some ie => some ((.pointer (some ⟨n, ixO o iv.toNat ie.size, none⟩), h, nx, []), [0 ≤ iv ∧ iv < (len : Int)])
    | none => none
   | _ => none
  | some (.pointer (some ⟨n, o, none⟩)), some (.int _ iv) => match P.underlying t with
   | some (.array k e) => match P.info? e with
    | some ie => some ((.pointer (some ⟨n, ixO o iv.toNat ie.size, none⟩), h, nx, []), [0 ≤ iv ∧ iv < (k : Int)])
    | none => none
   | _ => none
  | _, _ => none
 | .index t x i => match ev x, ev i with
  | some (.string s), some (.int _ iv) => match P.underlying t with
   | some .string => some ((.int .u8 (chAt s iv.toNat), h, nx, []), [0 ≤ iv ∧ iv.toNat < s.data.toList.length])
   | _ => none
  | some (.agg cs), some (.int _ iv) => match P.underlying t with
   | some (.array k e) => match P.info? e with
    | some ie => match ldZ P e cs.toList (ixO 0 iv.toNat ie.size) with
     | some (v, p) => some ((v, h, nx, []), [0 ≤ iv ∧ iv < (k : Int), p])
     | none => none
    | none => none
   | _ => none
  | _, _ => none
 | .slice t x lo hi mx => match ev x, evO ev lo, evO ev hi, evO ev mx with
  | some v, some l, some u, some m => pl1 h nx (slZ P t v l u m)
  | _, _, _, _ => none
 | .makeSlice t l c => match P.underlying t with
  | some (.slice e) => match P.info? e, ev l, ev c with
   | some i, some (.int _ l), some (.int _ c) => match i.zero with
    | some z => bif D5 z.cells.toList && Nat.ble 1 z.cells.toList.length then some ((.slice (some ⟨nx, 0, none⟩) l.toNat c.toNat, (nx, ⟨.shut, zrep z.cells.toList (mlN c.toNat i.size)⟩) :: h, nx + 1, []), [0 ≤ l ∧ l ≤ c ∧ (i.bytes : Int) * c ≤ 281474976710656 ∧ c ≤ 9223372036854775807]) else none
    | none => none
   | _, _, _ => none
  | _ => none
 | .store t x y => match ev x, ev y with
  | some (.pointer (some ⟨n, o, none⟩)), some v => match lk h n, P.info? t with
   | some r, some i => bif Nat.beq v.cells.toList.length i.size && I1 r.kd then (bif Nat.beq md 9 then some ((undef, setH h n ⟨r.kd, Bg r.cs o v.cells.toList⟩, nx, [n]), [all1 v.cells.toList = true, o + v.cells.toList.length ≤ r.cs.length]) else bif all1 v.cells.toList then some ((undef, setH h n ⟨r.kd, Bg r.cs o v.cells.toList⟩, nx, [n]), [o + v.cells.toList.length ≤ r.cs.length]) else none) else none
   | _, _ => none
  | _, _ => none
 | .convert s d x => match P.underlying s, P.underlying d, ev x with
  | some (.int k0), some (.int k), some (.int _ n) => match cvZ k0 k n with | (v, ob) => some ((v, h, nx, []), ob)
  | some (.slice e), some .string, some (.slice (some ⟨n, o, none⟩) len _) => match P.underlying e, lk h n with
   | some (.int .u8), some r => some ((.string (C5 (B1 (tkD o len r.cs))), h, nx, []), [adN o len ≤ r.cs.length, tkD o len r.cs = (B1 (tkD o len r.cs)).map (Value.int .u8)])
   | _, _ => none
  | _, _, _ => none
 | .binOp op t x y _ => match ev x, ev y with
  | some a, some b => pl1 h nx (biY P md op t a b)
  | _, _ => none
 | .call ⟨.builtin .append, args, ts⟩ => match ts.toList, evL ev args.toList with
  | [t, tx], some [s, x] => apZ P md h nx t tx s x
  | _, _ => none
 | .call ⟨.builtin .copy, args, ts⟩ => match ts.toList, evL ev args.toList with
  | [t, tx], some [d, x] => cpZ P h nx t tx d x
  | _, _ => none
 | .call ⟨.builtin .clear, args, ts⟩ => match ts.toList, evL ev args.toList with
  | [t], some [x] => none
  | _, _ => none
 | .call ⟨.builtin .len, args, ts⟩ => match evL ev args.toList, ts[0]? with
  | some [x], some t => match P.underlying t with
   | some (.slice _) => bif Nat.beq md 9 then some ((.int .i64 (lenOf x : Nat), h, nx, []), [isSl x = true]) else none
   | _ => none
  | _, _ => none
 | .call ⟨.builtin .cap, args, ts⟩ => match evL ev args.toList, ts[0]? with
  | some [.slice (some _) _ n], some t => match P.underlying t with
   | some (.slice _) => some ((.int .i64 (n : Nat), h, nx, []), [n < B0])
   | _ => none
  | _, _ => none
 | _ => none
theorem Db {P : Program} {ev : Operand → Option Value} {h : Hp} {nx : Nat} {op : Op} {v : Value} (hp : Df P ev h op = some v) : opV P ev h nx op = some (v, h, nx, []) := by
 unfold opV
 split
 ·simp [Df] at hp
 ·rename_i args ts
  simp only [Df] at hp
  split at hp
  ·rename_i vs _; cases vs with
   | nil => simp [biV] at hp
   | cons a l => cases l with
    | nil => simp [biV] at hp
    | cons b l => cases l <;> simp [biV] at hp
  ·cases hp
 ·rename_i args ts
  simp only [Df] at hp
  split at hp
  ·rename_i vs _; cases vs with
   | nil => simp [biV] at hp
   | cons a l => cases l with
    | nil => simp [biV] at hp
    | cons b l => cases l <;> simp [biV] at hp
  ·cases hp
 ·rw [hp]
 ·rw [hp]
theorem opZ_ok {P : Program} {md : Nat} {ev : Operand → Option Value} {h : Hp} {nx : Nat} {op : Op} {out : Out} {ob : List Prop} (hs : opZ P md ev h nx op = some (out, ob)) (ho : Alls ob) : opV P ev h nx op = some out := by
 cases op with
 | load t x =>
  simp only [opZ] at hs
  split at hs
  case h_2 => cases hs
  rename_i n o hx
  split at hs
  case h_2 => cases hs
  rename_i r hl
  split at hs
  case h_2 => cases hs
  rename_i v p hv
  simp only [oI, pI] at hs
  obtain ⟨rfl, rfl⟩ := hs
  exact Db (by simp only [Df, hx, hl]; exact (ldM_ok hv ho.1).1)
 | indexAddr t x i =>
  simp only [opZ] at hs
  split at hs
  ·rename_i n o len c k iv hx hi
   split at hs
   case h_2 => cases hs
   rename_i e hu
   split at hs
   case h_2 => cases hs
   rename_i ie hie
   simp only [oI, pI] at hs
   obtain ⟨rfl, rfl⟩ := hs
   refine Db ?_
   simp only [Df, hx, hi, iaV, hu, ixV, hie, decide_eq_true ho.1, cond_true, J7]
  ·rename_i n o k iv hx hi
   split at hs
   case h_2 => cases hs
   rename_i k e hu
   split at hs
   case h_2 => cases hs
   rename_i ie hie
   simp only [oI, pI] at hs
   obtain ⟨rfl, rfl⟩ := hs
   refine Db ?_
   simp only [Df, hx, hi, iaV, hu, ixV, hie, decide_eq_true ho.1, cond_true, J7]
  ·cases hs
 | index t x i =>
  simp only [opZ] at hs
  split at hs
  ·rename_i s k iv hx hi
   split at hs
   case h_2 => cases hs
   rename_i hu
   simp only [oI, pI] at hs
   obtain ⟨rfl, rfl⟩ := hs
   refine Db ?_
   have h2 := ho.1.2
   simp only [Df, hx, hi, indexV, hu, decide_eq_true ho.1.1, cond_true, List.getElem?_eq_getElem h2, chAt, Option.getD_some]
  ·rename_i cs k iv hx hi
   split at hs
   case h_2 => cases hs
   rename_i k e hu
   split at hs
   case h_2 => cases hs
   rename_i ie hie
   split at hs
   case h_2 => cases hs
   rename_i v p hv
   simp only [oI, pI] at hs
   obtain ⟨rfl, rfl⟩ := hs
   refine Db ?_
   simp only [Df, hx, hi, indexV, hu, ixV, hie, decide_eq_true ho.1, cond_true]
   have := (ldZ_ok hv ho.2.1).2
   rwa [J7, Nat.zero_add] at this
  ·cases hs
 | slice t x lo hi mx =>
  simp only [opZ] at hs
  split at hs
  case h_2 => cases hs
  rename_i v l u m h1 h2 h3 h4
  unfold pl1 at hs
  split at hs
  case h_2 => cases hs
  rename_i r ob' hr
  simp only [oI, pI] at hs
  obtain ⟨rfl, rfl⟩ := hs
  refine Db ?_
  simp only [Df, h1, h2, h3, h4, slZ_ok hr ho]
 | makeSlice t l c =>
  simp only [opZ] at hs
  split at hs
  case h_2 => cases hs
  rename_i e hu
  split at hs
  case h_2 => cases hs
  rename_i i kl l' kc c' hi h1 h2
  split at hs
  case h_2 => cases hs
  rename_i z hz
  obtain ⟨hb, hs⟩ := Ba hs
  simp only [oI, pI] at hs
  obtain ⟨rfl, rfl⟩ := hs
  simp only [opV, Df, newV, hu, hi, h1, h2, hz, hb, decide_eq_true ho.1, Bool.and_self, cond_true, E6]
  rfl
 | store t x y =>
  simp only [opZ] at hs
  split at hs
  case h_2 => cases hs
  rename_i n o v h1 h2
  split at hs
  case h_2 => cases hs
  rename_i r i hl hi
  obtain ⟨hb, hs⟩ := Ba hs
  simp only [Bool.and_eq_true] at hb
  rcases Be hs with ⟨_, hs⟩ | ⟨_, hs⟩
  ·simp only [oI, pI] at hs
   obtain ⟨rfl, rfl⟩ := hs
   obtain ⟨a2, a3, _⟩ := ho
   simp only [opV, h1, h2, Jy, hl, hi, hb.1, hb.2, a2, Nat.ble_eq_true_of_le a3, Bool.and_self, cond_true, Cz]
  ·obtain ⟨a2, hs⟩ := Ba hs
   simp only [oI, pI] at hs
   obtain ⟨rfl, rfl⟩ := hs
   obtain ⟨a3, _⟩ := ho
   simp only [opV, h1, h2, Jy, hl, hi, hb.1, hb.2, a2, Nat.ble_eq_true_of_le a3, Bool.and_self, cond_true, Cz]
 | convert s d x =>
  simp only [opZ] at hs
  split at hs
  case h_1 =>
   rename_i k0 k kk n h1 h2 h3
   simp only [oI, pI] at hs
   obtain ⟨rfl, rfl⟩ := hs
   refine Db ?_
   simp only [Df, h3, cvV, h1, h2]
   rw [cvZ_ok (v := (cvZ k0 k n).1) (ob := (cvZ k0 k n).2) rfl ho]
  case h_3 => cases hs
  rename_i e n o len c h1 h2 h3
  split at hs
  case h_2 => cases hs
  rename_i r hu hl
  simp only [oI, pI] at hs
  obtain ⟨rfl, rfl⟩ := hs
  refine Db ?_
  obtain ⟨g1, g2, _⟩ := ho
  simp only [Iq, Jx] at g1 g2 ⊢
  simp only [Df, h3, cvV, h1, h2, hu, Ea hl g1]
  rw [g2, Lw, ← g2]
 | binOp op t x y p =>
  simp only [opZ] at hs
  split at hs
  case h_2 => cases hs
  rename_i a b h1 h2
  unfold pl1 at hs
  split at hs
  case h_2 => cases hs
  rename_i r ob' hr
  simp only [oI, pI] at hs
  obtain ⟨rfl, rfl⟩ := hs
  refine Db ?_
  simp only [Df, h1, h2, biY_ok hr ho]
 | call c =>
  obtain ⟨cal, args, ts⟩ := c
  cases cal with
  | builtin b =>
   cases b <;> simp only [opZ] at hs <;> (try cases hs)
   case append =>
    split at hs
    case h_2 => cases hs
    rename_i t tx s x h1 h2
    simp only [opV, Jg, h1, h2]
    rw [apZ_ok hs ho]
   case copy =>
    split at hs
    case h_2 => cases hs
    rename_i t tx s x h1 h2
    obtain ⟨v, h', dd, e1, rfl⟩ := cpZ_ok hs ho
    simp only [opV, Jg, h1, h2, e1]
   case clear =>
    split at hs
    case h_2 => cases hs
    cases hs
   case len =>
    split at hs
    case h_2 => cases hs
    rename_i x t h1 h2
    split at hs
    case h_2 => cases hs
    rename_i e hu
    obtain ⟨_, hs⟩ := Ba hs
    simp only [oI, pI] at hs
    obtain ⟨rfl, rfl⟩ := hs
    have hx := ho.1
    refine Db ?_
    cases x <;> simp only [isSl] at hx <;> (try cases hx)
    simp only [Df, h1, biV, h2, lenV, hu, lenOf]
   case cap =>
    split at hs
    case h_2 => cases hs
    rename_i a l n t h1 h2
    split at hs
    case h_2 => cases hs
    rename_i e hu
    simp only [oI, pI] at hs
    obtain ⟨rfl, rfl⟩ := hs
    refine Db ?_
    simp only [Df, h1, biV, h2, capV, hu, Dd ho.1, cond_true]
  | _ => simp [opZ] at hs
 | _ => simp [opZ] at hs
end Go.Proofs.Ytojakfnljopjbaa
