/-
  The document's functions on numbers of 128 bits: bytes, sums, differences, order, by runs at free numbers.
-/
import Derived.Test.YtpiapipmhlpmjaaU128A
namespace Go.Proofs.Ytpiapipmhlpmjaa
set_option linter.unusedSimpArgs false
set_option linter.unusedVariables false
open Go Go.RowKit

def bv (zs : List Int) : Value := .agg (cellsOf .u8 zs).toArray
/-- The bytes as they are worked out. -/
def byT (n : Int) : List Int := (List.range 8).map fun i => IntKind.u8.wrap (n.fdiv (2 ^ (8 * i)))
theorem byT_eq (n : Int) (h : wf64 n) : byT n = byL n 8 := by
  unfold wf64 at h
  simp only [byT, List.range_succ, List.range_zero, List.nil_append, List.cons_append, List.map_cons, List.map_nil, byL, IntKind.wrap_u8]
  have e : ∀ k : Nat, n.fdiv (2 ^ k) = n / 2 ^ k := fun k => Int.fdiv_eq_ediv_of_nonneg _ (Int.pow_nonneg (by decide))
  simp only [e]
  simp only [List.cons.injEq, and_true]
  refine ⟨?_, ?_, ?_, ?_, ?_, ?_, ?_, ?_⟩ <;> simp <;> omega
theorem rbytes_val (h l : Int) : valF ((vU noTo).env Try.prog) 5 32 [uv h l] = some (bv (byT l ++ byT h)) := by kernel_rfl
theorem bytes_val (h l : Int) : valF ((vU noTo).env Try.prog) 5 31 [uv h l] = some (bv (byT l ++ byT h)) := by kernel_rfl
theorem renL_bytes (σ : Sg) (zs : List Int) : renL σ (cellsOf .u8 zs) = some (cellsOf .u8 zs) := renL_id (Value.int .u8) (fun _ => rfl) zs
theorem renV_bv (σ : Sg) (zs : List Int) : renV σ (bv zs) = some (bv zs) := renV_agg_mk (by simpa using renL_bytes σ zs)
theorem rbytes_any {h l : Int} (hh : wf64 h) (hl : wf64 l) (W : World) : Calls Try.prog 32 #[uv h l] W fun e w' => e = .returned (bv (b16 h l)) ∧ Ext W w' := by
  have := closed (E := (vU noTo).env Try.prog) (condX_ok xU_one) (condT_ok noTo_ok) mixedU 5 _ [uv h l] _ rfl (rbytes_val h l) (fun σ => renV_bv σ _) W
  rw [byT_eq h hh, byT_eq l hl] at this
  exact this
theorem bytes_any {h l : Int} (hh : wf64 h) (hl : wf64 l) (W : World) : Calls Try.prog 31 #[uv h l] W fun e w' => e = .returned (bv (b16 h l)) ∧ Ext W w' := by
  have := closed (E := (vU noTo).env Try.prog) (condX_ok xU_one) (condT_ok noTo_ok) mixedU 5 _ [uv h l] _ rfl (bytes_val h l) (fun σ => renV_bv σ _) W
  rw [byT_eq h hh, byT_eq l hl] at this
  exact this
theorem of_val (n : Int) : valF ((vU noTo).env Try.prog) 5 20 [.int .u64 n] = some (uv 0 n) := by kernel_rfl
theorem rof_val (n : Int) : valF ((vU noTo).env Try.prog) 5 21 [.int .u64 n] = some (uv 0 n) := by kernel_rfl
theorem of_any (n : Int) (W : World) : Calls Try.prog 20 #[.int .u64 n] W fun e w' => e = .returned (uv 0 n) ∧ Ext W w' :=
  closed (E := (vU noTo).env Try.prog) (condX_ok xU_one) (condT_ok noTo_ok) mixedU 5 _ [.int .u64 n] _ rfl (of_val n) (fun σ => rfl) W
theorem rof_any (n : Int) (W : World) : Calls Try.prog 21 #[.int .u64 n] W fun e w' => e = .returned (uv 0 n) ∧ Ext W w' :=
  closed (E := (vU noTo).env Try.prog) (condX_ok xU_one) (condT_ok noTo_ok) mixedU 5 _ [.int .u64 n] _ rfl (rof_val n) (fun σ => rfl) W

/-! ### the number of bytes -/
def ofStep (a b : Int) : Int := or64 (IntKind.u64.wrap (a * 2 ^ 8)) (IntKind.u64.wrap b)
theorem ofStep_eq (a b : Int) (ha : 0 ≤ a) (ha2 : a < 72057594037927936) (hb : wfB b) : ofStep a b = a * 256 + b := by
  unfold wfB at hb
  obtain ⟨x, rfl⟩ := Int.eq_ofNat_of_zero_le ha
  obtain ⟨y, rfl⟩ := Int.eq_ofNat_of_zero_le hb.1
  have e1 : IntKind.u64.wrap ((x : Int) * 2 ^ 8) = ((2 ^ 8 * x : Nat) : Int) := by rw [IntKind.wrap_u64]; omega
  have e2 : IntKind.u64.wrap (y : Int) = (y : Int) := by rw [IntKind.wrap_u64]; omega
  unfold ofStep
  rw [e1, e2, or64_nat _ _ (by unfold wf64; omega) (by unfold wf64; omega)]
  simp only [Int.toNat_natCast]
  rw [← Nat.two_pow_add_eq_or_of_lt (by omega)]
  omega
def ofT (zs : List Int) : Int := zs.reverse.foldl ofStep 0
theorem ofT_eq : ∀ (zs : List Int), zs.length ≤ 8 → (∀ z ∈ zs, wfB z) → ofT zs = vL zs
  | [], _, _ => rfl
  | z :: zs, hl, hz => by
      have ih := ofT_eq zs (by simp at hl; omega) (fun x hx => hz x (by simp [hx]))
      have hb := vL_bd zs (fun x hx => hz x (by simp [hx]))
      have hz0 := hz z (by simp)
      have hp : (256 : Int) ^ zs.length ≤ 72057594037927936 := by
        have h1 : (256 : Nat) ^ zs.length ≤ 72057594037927936 := Nat.le_trans (Nat.pow_le_pow_right (n := 256) (j := 7) (by decide) (by simp at hl; omega)) (by decide)
        have h2 := Int.ofNat_le.2 h1
        rw [Int.natCast_pow] at h2
        exact h2
      unfold ofT at ih ⊢
      rw [List.reverse_cons, List.foldl_append, ih]
      simp only [List.foldl_cons, List.foldl_nil, vL]
      rw [ofStep_eq _ _ hb.1 (by omega) hz0]
      omega
theorem rofb_val (a b c d e f g h i j k l m n o p : Int) : valF ((vU noTo).env Try.prog) 5 42 [bv [a, b, c, d, e, f, g, h, i, j, k, l, m, n, o, p]] = some (uv (ofT [i, j, k, l, m, n, o, p]) (ofT [a, b, c, d, e, f, g, h])) := by kernel_rfl
theorem list16 (zs : List Int) (h : zs.length = 16) : ∃ a b c d e f g h i j k l m n o p, zs = [a, b, c, d, e, f, g, h, i, j, k, l, m, n, o, p] := by
  match zs, h with
  | [a, b, c, d, e, f, g, h, i, j, k, l, m, n, o, p], _ => exact ⟨a, b, c, d, e, f, g, h, i, j, k, l, m, n, o, p, rfl⟩
theorem rofb_any {zs : List Int} (hl : zs.length = 16) (hz : ∀ z ∈ zs, wfB z) (W : World) : Calls Try.prog 42 #[bv zs] W fun e w' => e = .returned (uv (vL (zs.drop 8)) (vL (zs.take 8))) ∧ Ext W w' := by
  obtain ⟨a, b, c, d, e, f, g, h, i, j, k, l, m, n, o, p, rfl⟩ := list16 zs hl
  have e1 := ofT_eq [i, j, k, l, m, n, o, p] (Nat.le_refl _) (fun z hm => hz z (List.mem_of_mem_drop (i := 8) (l := [a, b, c, d, e, f, g, h, i, j, k, l, m, n, o, p]) hm))
  have e2 := ofT_eq [a, b, c, d, e, f, g, h] (Nat.le_refl _) (fun z hm => hz z (List.mem_of_mem_take (i := 8) (l := [a, b, c, d, e, f, g, h, i, j, k, l, m, n, o, p]) hm))
  have := closed (E := (vU noTo).env Try.prog) (condX_ok xU_one) (condT_ok noTo_ok) mixedU 5 _ [bv [a, b, c, d, e, f, g, h, i, j, k, l, m, n, o, p]] _ (by simp [renL, renV_bv]) (rofb_val a b c d e f g h i j k l m n o p) (fun σ => rfl) W
  rw [e1, e2] at this
  exact this

/-! ### what is known of them -/
def gBytes : List Value → Option (Value × Bool)
  | [.agg ⟨[.int .u64 h, .int .u64 l]⟩] => some (bv (b16 h l), uwf h l)
  | _ => none
def bytesB (zs : List Int) : Bool := decide (zs.length = 16 ∧ ∀ z ∈ zs, 0 ≤ z ∧ z < 256)
def gOf : List Value → Option (Value × Bool)
  | [.agg ⟨cs⟩] => match bytesOf cs with
    | some zs => some (uv (vL (zs.drop 8)) (vL (zs.take 8)), bytesB zs)
    | none => none
  | _ => none
def gOf1 : List Value → Option (Value × Bool)
  | [.int .u64 n] => some (uv 0 n, true)
  | _ => none
theorem uwf_of {h l : Int} (e : uwf h l = true) : wf64 h ∧ wf64 l := by simpa [uwf] using e
theorem ren_uv (σ : Sg) (h l : Int) : renV σ (uv h l) = some (uv h l) := rfl
theorem ren1 {σ : Sg} {v : Value} {args' : List Value} (hv : renV σ v = some v) (h : renL σ [v] = some args') : args' = [v] := by
  simp only [renL, hv, Option.some.injEq] at h; exact h.symm
theorem ren2 {σ : Sg} {u v : Value} {args' : List Value} (hu : renV σ u = some u) (hv : renV σ v = some v) (h : renL σ [u, v] = some args') : args' = [u, v] := by
  simp only [renL, hu, hv, Option.some.injEq] at h; exact h.symm
theorem tBytes_ok : TOne Try.prog (oneT 32 gBytes) := oneT_ok fun args v h => by
  unfold gBytes at h
  split at h
  · rename_i h0 l0
    simp only [Option.some.injEq, Prod.mk.injEq] at h
    obtain ⟨rfl, hc⟩ := h
    obtain ⟨a1, a2⟩ := uwf_of hc
    exact ⟨fun σ args' hr => ren1 (ren_uv σ h0 l0) hr, fun σ => renV_bv σ _, fun w => rbytes_any a1 a2 w⟩
  · cases h
theorem tBytes'_ok : TOne Try.prog (oneT 31 gBytes) := oneT_ok fun args v h => by
  unfold gBytes at h
  split at h
  · rename_i h0 l0
    simp only [Option.some.injEq, Prod.mk.injEq] at h
    obtain ⟨rfl, hc⟩ := h
    obtain ⟨a1, a2⟩ := uwf_of hc
    exact ⟨fun σ args' hr => ren1 (ren_uv σ h0 l0) hr, fun σ => renV_bv σ _, fun w => bytes_any a1 a2 w⟩
  · cases h
theorem bytesOf_eq : ∀ {cs : List Value} {zs : List Int}, bytesOf cs = some zs → cs = cellsOf .u8 zs
  | [], zs, h => by simp [bytesOf] at h; subst h; rfl
  | v :: vs, zs, h => by
      simp only [bytesOf] at h
      split at h
      · rename_i n ns h1 h2
        cases h
        have := bytesOf_eq h2
        unfold byOf at h1
        split at h1
        · cases h1; simp [cellsOf, this]
        · cases h1
      · cases h
theorem bytesOf_cells : ∀ (zs : List Int), bytesOf (cellsOf .u8 zs) = some zs
  | [] => rfl
  | z :: zs => by
      have := bytesOf_cells zs
      simp only [cellsOf, List.map_cons, bytesOf, byOf] at this ⊢
      rw [this]
theorem tOf_ok : TOne Try.prog (oneT 42 gOf) := oneT_ok fun args v h => by
  unfold gOf at h
  split at h
  · rename_i cs
    split at h
    · rename_i zs hz
      simp only [Option.some.injEq, Prod.mk.injEq] at h
      obtain ⟨rfl, hc⟩ := h
      have hw : zs.length = 16 ∧ ∀ z ∈ zs, wfB z := by simpa [bytesB, wfB] using hc
      obtain rfl := bytesOf_eq hz
      exact ⟨fun σ args' hr => ren1 (renV_bv σ zs) hr, fun σ => rfl, fun w => rofb_any hw.1 hw.2 w⟩
    · cases h
  · cases h
theorem tOf1_ok : TOne Try.prog (oneT 20 gOf1) := oneT_ok fun args v h => by
  unfold gOf1 at h
  split at h
  · cases h
    exact ⟨fun σ args' hr => ren1 rfl hr, fun σ => rfl, fun w => of_any _ w⟩
  · cases h
theorem tOf2_ok : TOne Try.prog (oneT 21 gOf1) := oneT_ok fun args v h => by
  unfold gOf1 at h
  split at h
  · cases h
    exact ⟨fun σ args' hr => ren1 rfl hr, fun σ => rfl, fun w => rof_any _ w⟩
  · cases h

/-! ### sums -/
def i64w (x : Int) : Int := IntKind.i64.wrap x
def u8w (x : Int) : Int := IntKind.u8.wrap x
def adT : List Int → List Int → Int → List Int × Int
  | x :: xs, y :: ys, c => (u8w ((i64w (i64w (i64w x + i64w y) + c)).tmod 256) :: (adT xs ys (i64w ((i64w (i64w (i64w x + i64w y) + c)).tdiv 256))).1, (adT xs ys (i64w ((i64w (i64w (i64w x + i64w y) + c)).tdiv 256))).2)
  | _, _, c => ([], c)
theorem i64w_in {x : Int} (h1 : -9223372036854775808 ≤ x) (h2 : x ≤ 9223372036854775807) : i64w x = x := by unfold i64w; rw [IntKind.wrap_i64]; omega
theorem adT_eq : ∀ (xs ys : List Int) (c : Int), (∀ x ∈ xs, wfB x) → (∀ y ∈ ys, wfB y) → 0 ≤ c → c ≤ 1 → adT xs ys c = adL xs ys c
  | [], _, c, _, _, _, _ => by simp [adT, adL]
  | _ :: _, [], c, _, _, _, _ => by simp [adT, adL]
  | x :: xs, y :: ys, c, hx, hy, h0, h1 => by
      have a := hx x (by simp)
      have b := hy y (by simp)
      unfold wfB at a b
      have e1 : i64w (i64w (i64w x + i64w y) + c) = x + y + c := by
        rw [i64w_in (x := x) (by omega) (by omega), i64w_in (x := y) (by omega) (by omega), i64w_in (x := x + y) (by omega) (by omega), i64w_in (by omega) (by omega)]
      have e2 : i64w ((x + y + c).tdiv 256) = (x + y + c) / 256 := by
        rw [Int.tdiv_eq_ediv_of_nonneg (by omega), i64w_in (by omega) (by omega)]
      have e3 : u8w ((x + y + c).tmod 256) = (x + y + c) % 256 := by
        rw [Int.tmod_eq_emod_of_nonneg (by omega)]; unfold u8w; rw [IntKind.wrap_u8]; omega
      simp only [adT, adL, e1, e2, e3]
      rw [adT_eq xs ys _ (fun z hz => hx z (by simp [hz])) (fun z hz => hy z (by simp [hz])) (by omega) (by omega)]
def tA : FuncId → List Value → Hp → Nat → Option (Out × Bool) := orT (oneT 32 gBytes) (oneT 42 gOf)
theorem tA_ok : TOne Try.prog tA := orT_ok tBytes_ok tOf_ok
theorem radd_val (h1 l1 h2 l2 : Int) : valO (vU tA) Try.prog 5 [39] [] 6 15 [uv h1 l1, uv h2 l2] [false] =
    some (.tuple #[uv (vL ((adT (b16 h1 l1) (b16 h2 l2) 0).1.drop 8)) (vL ((adT (b16 h1 l1) (b16 h2 l2) 0).1.take 8)), .bool false],
      [(uwf h1 l1, true), (uwf h2 l2, true), (decide ((adT (b16 h1 l1) (b16 h2 l2) 0).2 > 0), false), (bytesB (adT (b16 h1 l1) (b16 h2 l2) 0).1, true)]) := by kernel_rfl
theorem radd_val1 (h1 l1 h2 l2 : Int) : valO (vU tA) Try.prog 5 [39] [] 6 15 [uv h1 l1, uv h2 l2] [true] =
    some (.tuple #[uv 0 0, .bool true],
      [(uwf h1 l1, true), (uwf h2 l2, true), (decide ((adT (b16 h1 l1) (b16 h2 l2) 0).2 > 0), true)]) := by kernel_rfl
theorem uwf_mk {h l : Int} (a : wf64 h) (b : wf64 l) : uwf h l = true := by simp [uwf, a, b]
theorem vL_split (zs : List Int) (hl : zs.length = 16) (hz : ∀ z ∈ zs, wfB z) : vL (zs.drop 8) = vL zs / 18446744073709551616 ∧ vL (zs.take 8) = vL zs % 18446744073709551616 := by
  have h1 := vL_app (zs.take 8) (zs.drop 8)
  rw [List.take_append_drop] at h1
  have h2 := vL_bd (zs.take 8) (fun z h => hz z (List.mem_of_mem_take h))
  rw [List.length_take, hl] at h1 h2
  simp at h1 h2
  omega
theorem bytesB_mk {zs : List Int} (hl : zs.length = 16) (hz : ∀ z ∈ zs, wfB z) : bytesB zs = true := by
  simp only [bytesB, decide_eq_true_eq]; exact ⟨hl, hz⟩
theorem radd_any {h1 l1 h2 l2 : Int} (a1 : wf64 h1) (a2 : wf64 l1) (a3 : wf64 h2) (a4 : wf64 l2) (W : World) :
    Calls Try.prog 15 #[uv h1 l1, uv h2 l2] W fun e w' => e = .returned (.tuple #[uv (addV h1 l1 h2 l2).1 (addV h1 l1 h2 l2).2.1, .bool (addV h1 l1 h2 l2).2.2]) ∧ Ext W w' := by
  have V0 := radd_val h1 l1 h2 l2
  have V1 := radd_val1 h1 l1 h2 l2
  rw [adT_eq _ _ _ (b16_wf h1 l1) (b16_wf h2 l2) (by decide) (by decide)] at V0 V1
  obtain ⟨e1, e2, e3, e4, e5⟩ := adL_ok (b16 h1 l1) (b16 h2 l2) 0 (by simp [b16_len]) (b16_wf h1 l1) (b16_wf h2 l2) (by decide) (by decide)
  rw [b16_len] at e3
  rw [vL_b16 a1 a2, vL_b16 a3 a4, b16_len] at e1
  obtain ⟨s1, s2⟩ := vL_split _ e3 e2
  have bd := vL_bd _ e2
  rw [e3] at bd
  generalize adL (b16 h1 l1) (b16 h2 l2) 0 = z at *
  unfold addV
  by_cases h : nm h1 l1 + nm h2 l2 < top128
  · rw [if_pos h]
    refine ret_v (uvb_eq ?_ ?_ rfl) (closedO (condX_ok xU_one) (condT_ok tA_ok) mixedU 5 [39] [] 6 _ _ [false] _ _ rfl V0 (obs4 (uwf_mk a1 a2) (uwf_mk a3 a4) (by unfold top128 at h; simp at bd e1 ⊢; omega) (bytesB_mk e3 e2)) (fun _ => rfl) W)
    · rw [s1]; dsimp only; unfold top128 at h; simp at bd e1; congr 1; omega
    · rw [s2]; dsimp only; unfold top128 at h; simp at bd e1; congr 1; omega
  · rw [if_neg h]
    exact closedO (condX_ok xU_one) (condT_ok tA_ok) mixedU 5 [39] [] 6 _ _ [true] _ _ rfl V1 (obs3 (uwf_mk a1 a2) (uwf_mk a3 a4) (by unfold top128 at h; simp at bd e1 ⊢; omega)) (fun _ => rfl) W
end Go.Proofs.Ytpiapipmhlpmjaa
