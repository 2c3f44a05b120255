/-
  The machine that runs in the kernel, part C: arithmetic, comparisons, addresses, slices; the value of an operation that only reads.
-/
import Derived.Test.YtcahhoemlmbnaaaVmB
import Derived.Laws.BytesString
import Derived.Laws.IdiomStrings
import Derived.WalkSpells
import Derived.ChangeKeysEq
namespace Go.Proofs.Ytcahhoemlmbnaaa
set_option linter.unusedSimpArgs false
set_option linter.unusedVariables false
set_option linter.unusedSectionVars false
open Go Go.RowKit

/-! ### comparisons -/
def eqFs (P : Program) (eq : TypeId → Value → Value → Option Bool) (xs ys : List Value) : List Field → Option Bool
  | [] => some true
  | f :: fs => bif decide (f.name = "_") then eqFs P eq xs ys fs else
    match partV P f.type xs f.offset, partV P f.type ys f.offset with
    | some a, some b => match eq f.type a b, eqFs P eq xs ys fs with
      | some r, some s => some (r && s)
      | _, _ => none
    | _, _ => none
def eqIs (P : Program) (eq : TypeId → Value → Value → Option Bool) (e : TypeId) (n : Nat) (xs ys : List Value) : List Nat → Option Bool
  | [] => some true
  | i :: is => match partV P e xs (i * n), partV P e ys (i * n) with
    | some a, some b => match eq e a b, eqIs P eq e n xs ys is with
      | some r, some s => some (r && s)
      | _, _ => none
    | _, _ => none
def strEq (a b : ByteArray) : Bool := a.data.toList == b.data.toList
def eqV (P : Program) : Nat → TypeId → Value → Value → Option Bool
  | 0, _, _, _ => none
  | d + 1, t, x, y => match P.underlying t, x, y with
    | some .bool, .bool a, .bool b => some (a == b)
    | some (.int _), .int k a, .int k' b => bif decide (k = k') then some (a == b) else none
    | some .string, .string a, .string b => some (strEq a b)
    | some (.struct fs), .agg xs, .agg ys => bif P.stoodInHeld t then none else eqFs P (eqV P d) xs.toList ys.toList fs.toList
    | some (.array n e), .agg xs, .agg ys => match P.info? e with
      | some i => eqIs P (eqV P d) e (P.cellsOf e) xs.toList ys.toList (List.range n)
      | none => none
    | some (.pointer _), .pointer none, .pointer b => some b.isNone
    | some (.pointer _), .pointer (some _), .pointer none => some false
    | some (.slice _), .slice none _ _, .slice b _ _ => some b.isNone
    | some (.slice _), .slice (some _) _ _, .slice none _ _ => some false
    | some (.func _ _ _), .nilFunc, .nilFunc => some true
    | some (.func _ _ _), .nilFunc, .func _ _ _ => some false
    | some (.func _ _ _), .func _ _ _, .nilFunc => some false
    | _, _, _ => none
theorem strEq_beq (a b : ByteArray) : (a == b) = strEq a b := by rw [beq_toListBytes, ByteArray.toList_eq, ByteArray.toList_eq]; rfl

section
variable {P : Program} {σ : Sg} {w : World}
theorem eqFs_ok {d : Nat} (ih : ∀ t x y x' y' r, eqV P d t x y = some r → renV σ x = some x' → renV σ y = some y' → (Op.equalIn d t x' y').run P w = .ok r w)
    {xs ys us vs : List Value} (hx : renL σ xs = some us) (hy : renL σ ys = some vs) : ∀ (fs : List Field) (r : Bool), eqFs P (eqV P d) xs ys fs = some r → (Op.eqFields d us.toArray vs.toArray fs).run P w = .ok r w
  | [], r, h => by simp only [eqFs, Option.some.injEq] at h; subst h; rfl
  | f :: fs, r, h => by
      simp only [eqFs] at h
      simp only [Op.eqFields]
      by_cases hn : f.name = "_"
      · simp only [hn, decide_true, cond_true] at h
        rw [if_neg (by simp [hn])]
        exact eqFs_ok ih hx hy fs r h
      · simp only [hn, decide_false, cond_false] at h
        rw [if_pos hn]
        split at h
        · rename_i a b ha hb
          split at h
          · rename_i q s hq hs
            simp only [Option.some.injEq] at h
            obtain ⟨a', ha1, ha2⟩ := partV_ok (P := P) (w := w) hx ha
            obtain ⟨b', hb1, hb2⟩ := partV_ok (P := P) (w := w) hy hb
            have he := ih _ _ _ _ _ _ hq ha1 hb1
            have hr := eqFs_ok ih hx hy fs s hs
            simp only [Sem.run_bind, ha2, hb2, he, Result.andThen_ok, Sem.run_ite]
            subst h
            cases q
            · simp
            · simpa using hr
          · cases h
        · cases h
theorem eqIs_ok {d : Nat} (ih : ∀ t x y x' y' r, eqV P d t x y = some r → renV σ x = some x' → renV σ y = some y' → (Op.equalIn d t x' y').run P w = .ok r w)
    {e : TypeId} {n : Nat} {xs ys us vs : List Value} (hx : renL σ xs = some us) (hy : renL σ ys = some vs) : ∀ (is : List Nat) (r : Bool), eqIs P (eqV P d) e n xs ys is = some r → (Op.eqItems d e n us.toArray vs.toArray is).run P w = .ok r w
  | [], r, h => by simp only [eqIs, Option.some.injEq] at h; subst h; rfl
  | i :: is, r, h => by
      simp only [eqIs] at h
      simp only [Op.eqItems]
      split at h
      · rename_i a b ha hb
        split at h
        · rename_i q s hq hs
          simp only [Option.some.injEq] at h
          obtain ⟨a', ha1, ha2⟩ := partV_ok (P := P) (w := w) hx ha
          obtain ⟨b', hb1, hb2⟩ := partV_ok (P := P) (w := w) hy hb
          have he := ih _ _ _ _ _ _ hq ha1 hb1
          have hr := eqIs_ok ih hx hy is s hs
          simp only [Sem.run_bind, ha2, hb2, he, Result.andThen_ok, Sem.run_ite]
          subst h
          cases q
          · simp
          · simpa using hr
        · cases h
      · cases h
theorem renV_ptr_some {a : Addr} {x : Value} (h : renV σ (.pointer (some a)) = some x) : ∃ b, x = .pointer (some b) := by
  simp only [renV] at h
  split at h
  · cases h; exact ⟨_, rfl⟩
  · cases h
theorem renV_slice_some {a : Addr} {l c : Nat} {x : Value} (h : renV σ (.slice (some a) l c) = some x) : ∃ b c', x = .slice (some b) l c' := by
  simp only [renV] at h
  split at h
  · cases h; exact ⟨_, _, rfl⟩
  · cases h
theorem renV_func {fn : Fn} {f c : Array Value} {x : Value} (h : renV σ (.func fn f c) = some x) : ∃ fn' f' c', x = .func fn' f' c' ∧ renL σ f.toList = some f'.toList ∧ renL σ c.toList = some c'.toList ∧ fnR σ fn = some fn' := by
  simp only [renV] at h
  split at h
  · rename_i h1 h2 h3; cases h; exact ⟨_, _, _, rfl, renA_of h2, renA_of h3, h1⟩
  · cases h
theorem eqV_ok : ∀ (d : Nat) (t : TypeId) (x y x' y' : Value) (r : Bool), eqV P d t x y = some r → renV σ x = some x' → renV σ y = some y' → (Op.equalIn d t x' y').run P w = .ok r w
  | 0, _, _, _, _, _, _, h, _, _ => by simp [eqV] at h
  | d + 1, t, x, y, x', y', r, h, hx, hy => by
      unfold eqV at h
      split at h
      · rename_i a b hu
        simp only [renV, Option.some.injEq] at hx hy h
        subst hx; subst hy; subst h
        exact run_equalIn_bool w d t a b hu
      · rename_i k k1 a k2 b hu
        simp only [renV, Option.some.injEq] at hx hy
        subst hx; subst hy
        by_cases hk : k1 = k2
        · subst hk
          simp only [decide_true, cond_true, Option.some.injEq] at h
          subst h
          exact run_equalIn_int w d t k1 k a b hu
        · simp only [hk, decide_false, cond_false] at h; cases h
      · rename_i a b hu
        simp only [renV, Option.some.injEq] at hx hy h
        subst hx; subst hy; subst h
        rw [run_equalIn_string w d t a b hu, ← beq_toListBytes, strEq_beq]
      · rename_i fs xs ys hu
        obtain ⟨us, rfl, hus⟩ := renV_agg hx
        obtain ⟨vs, rfl, hvs⟩ := renV_agg hy
        cases hst : P.stoodInHeld t with
        | true => rw [hst] at h; cases h
        | false =>
          rw [hst] at h
          have hf : P.fieldsOf t = fs := by simp [Program.fieldsOf, hu]
          rw [run_equalIn_struct w d t us vs (by rw [hf]; exact hu) hst, hf]
          have := eqFs_ok (P := P) (σ := σ) (w := w) (d := d) (fun t x y x' y' r h hx hy => eqV_ok d t x y x' y' r h hx hy) hus hvs fs.toList r h
          simpa using this
      · rename_i n e xs ys hu
        obtain ⟨us, rfl, hus⟩ := renV_agg hx
        obtain ⟨vs, rfl, hvs⟩ := renV_agg hy
        cases hi : P.info? e with
        | none => rw [hi] at h; cases h
        | some i =>
          rw [hi] at h
          rw [run_equalIn_array w d us vs hu hi]
          have := eqIs_ok (P := P) (σ := σ) (w := w) (d := d) (e := e) (n := P.cellsOf e) (fun t x y x' y' r h hx hy => eqV_ok d t x y x' y' r h hx hy) hus hvs (List.range n) r h
          simpa using this
      · rename_i e b hu
        simp only [renV, Option.some.injEq] at hx h
        subst hx; subst h
        cases b with
        | none => simp only [renV, Option.some.injEq] at hy; subst hy; simp [Op.equalIn, run_underlying hu]
        | some b => obtain ⟨b', rfl⟩ := renV_ptr_some hy; simp [Op.equalIn, run_underlying hu]
      · rename_i e a hu
        simp only [Option.some.injEq] at h
        subst h
        obtain ⟨a', rfl⟩ := renV_ptr_some hx
        simp only [renV, Option.some.injEq] at hy
        subst hy
        simp [Op.equalIn, run_underlying hu]
      · rename_i e l c b l' c' hu
        simp only [renV, Option.some.injEq] at hx h
        subst hx; subst h
        cases b with
        | none => simp only [renV, Option.some.injEq] at hy; subst hy; simp [Op.equalIn, run_underlying hu]
        | some b => obtain ⟨b', c'', rfl⟩ := renV_slice_some hy; simp [Op.equalIn, run_underlying hu]
      · rename_i e a l c l' c' hu
        simp only [Option.some.injEq] at h
        subst h
        obtain ⟨a', c'', rfl⟩ := renV_slice_some hx
        simp only [renV, Option.some.injEq] at hy
        subst hy
        simp [Op.equalIn, run_underlying hu]
      · rename_i hu
        simp only [renV, Option.some.injEq] at hx hy h
        subst hx; subst hy; subst h
        simp [Op.equalIn, run_underlying hu]
      · rename_i hu
        simp only [renV, Option.some.injEq] at hx h
        subst hx; subst h
        obtain ⟨_, f', c', rfl, _⟩ := renV_func hy
        simp [Op.equalIn, run_underlying hu]
      · rename_i hu
        simp only [renV, Option.some.injEq] at hy h
        subst hy; subst h
        obtain ⟨_, f', c', rfl, _⟩ := renV_func hx
        simp [Op.equalIn, run_underlying hu]
      · cases h
end

/-! ### arithmetic -/
def binI (op : BinOp) (k : IntKind) (x y : Int) : Option Value :=
  match op with
  | .add => some (.int k (k.wrap (x + y)))
  | .sub => some (.int k (k.wrap (x - y)))
  | .mul => some (.int k (k.wrap (x * y)))
  | .quo => bif decide (y = 0) then none else some (.int k (k.wrap (x.tdiv y)))
  | .rem => bif decide (y = 0) then none else some (.int k (x.tmod y))
  | .and => some (.int k (k.wrap (BitVec.ofInt k.bits x &&& BitVec.ofInt k.bits y).toNat))
  | .or => some (.int k (k.wrap (BitVec.ofInt k.bits x ||| BitVec.ofInt k.bits y).toNat))
  | .xor => some (.int k (k.wrap (BitVec.ofInt k.bits x ^^^ BitVec.ofInt k.bits y).toNat))
  | .andNot => some (.int k (k.wrap (BitVec.ofInt k.bits x &&& ~~~BitVec.ofInt k.bits y).toNat))
  | .eql => some (.bool (x == y))
  | .neq => some (.bool (x != y))
  | .lss => some (.bool (decide (x < y)))
  | .leq => some (.bool (decide (x ≤ y)))
  | .gtr => some (.bool (decide (x > y)))
  | .geq => some (.bool (decide (x ≥ y)))
  | _ => none
def binS (op : BinOp) (x y : ByteArray) : Option Value :=
  match op with
  | .add => bif Nat.ble (x.data.toList.length + y.data.toList.length) 9223372036854775807 then some (.string ⟨(x.data.toList ++ y.data.toList).toArray⟩) else none
  | .eql => some (.bool (strEq x y))
  | .neq => some (.bool (!strEq x y))
  | .lss => some (.bool (Op.bytesLess x.data.toList y.data.toList))
  | .leq => some (.bool (Op.bytesLess x.data.toList y.data.toList || strEq x y))
  | .gtr => some (.bool (!(Op.bytesLess x.data.toList y.data.toList || strEq x y)))
  | .geq => some (.bool (!Op.bytesLess x.data.toList y.data.toList))
  | _ => none
def shV (op : BinOp) (k : IntKind) (x y : Int) : Option Value :=
  bif decide (y < 0) then none else match op with
  | .shl => some (.int k (k.wrap (x * 2 ^ min y.toNat k.bits)))
  | .shr => some (.int k (x.fdiv (2 ^ min y.toNat k.bits)))
  | _ => none
/-- May the guard of '==' be passed by? -/
def guardFree (P : Program) (t : TypeId) : Value → Bool
  | .nilIface => false
  | .agg _ => !(P.eqGuardType P.depth t)
  | _ => true
def binV (P : Program) (op : BinOp) (t : TypeId) (x y : Value) : Option Value :=
  match x, y with
  | .int k a, .int k' b => match op with
    | .shl | .shr => shV op k a b
    | _ => bif decide (k = k') then binI op k a b else none
  | .string a, .string b => binS op a b
  | x, y => bif guardFree P t x then (match op with
    | .eql => match eqV P 10000 t x y with | some r => some (.bool r) | none => none
    | .neq => match eqV P 10000 t x y with | some r => some (.bool (!r)) | none => none
    | _ => none) else none
theorem binI_ok {P : Program} {op : BinOp} {t : TypeId} {k : IntKind} {x y : Int} {v : Value} {w : World} (ho : op ≠ .shl ∧ op ≠ .shr) (h : binI op k x y = some v) : (binOp op t (.int k x) (.int k y)).run P w = .ok v w ∧ ∀ σ, renV σ v = some v := by
  cases op <;> simp only [binI, Option.some.injEq] at h
  case quo | rem =>
    by_cases hy : y = 0
    · simp [hy] at h
    · simp only [hy, decide_false, cond_false, Option.some.injEq] at h
      subst h
      refine ⟨?_, fun σ => rfl⟩
      simp [binOp, Op.intDiv, hy]
  case shl | shr => cases h
  all_goals
    subst h
    refine ⟨?_, fun σ => rfl⟩
    first
      | (simp [binOp, Op.intArith]; done)
      | (simp [binOp, Op.intBits]; done)
      | (simp [binOp, Op.intCmp]; done)
end Go.Proofs.Ytcahhoemlmbnaaa
