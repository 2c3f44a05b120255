/-
  Chapter 26: the statement PipelineOrder: sets of replicas by tables; awake().
-/
import Derived.Test.YthbcemcgbgoplaaKitX
import Derived.Test.YthbcemcgbgoplaaKitW
namespace Go.Proofs.Ythbcemcgbgoplaa
set_option linter.unusedSimpArgs false
set_option linter.unusedVariables false
set_option linter.unusedSectionVars false
open Go Go.RowKit
def isT2 (o : Option Value) (x y : Int) : Bool := match o with
  | some (.tuple ⟨[.int .i64 a, .int .i64 b]⟩) => decide (a = x) && decide (b = y)
  | _ => false
theorem isT2_ok {o : Option Value} {x y : Int} (h : isT2 o x y = true) : o = some (.tuple ⟨[.int .i64 x, .int .i64 y]⟩) := by
  unfold isT2 at h
  split at h
  · simp only [Bool.and_eq_true, decide_eq_true_eq] at h
    obtain ⟨rfl, rfl⟩ := h
    rfl
  · cases h
def isBo (o : Option Value) (x : Bool) : Bool := match o with
  | some (.bool b) => bif b then x else !x
  | _ => false
theorem isBo_ok {o : Option Value} {x : Bool} (h : isBo o x = true) : o = some (.bool x) := by
  unfold isBo at h
  split at h
  · rename_i b
    cases b <;> cases x <;> first | rfl | cases h
  · cases h
/-- How many of the seven there are. -/
def cntN (a : Nat) : Nat := a % 2 + a / 2 % 2 + a / 4 % 2 + a / 8 % 2 + a / 16 % 2 + a / 32 % 2 + a / 64 % 2
def fullN (a n : Nat) : Bool := decide (n < 2 * cntN (a % 2 ^ n))
def withN (a r : Nat) : Nat := bif decide (a / 2 ^ r % 2 = 1) then a else a + 2 ^ r
def hasN (a r : Nat) : Bool := decide (a / 2 ^ r % 2 = 1)
set_option maxRecDepth 1000000 in
theorem with_tab : ((List.range 128).all fun a => (List.range 7).all fun q => isT2 (valF ⟨Try.prog, noX, noT⟩ 9 30 [.int .i64 (a : Int), .int .i64 (q : Int)]) ((withN a q : Nat) : Int) 0) = true := by kernel_rfl
set_option maxRecDepth 1000000 in
theorem has_tab : ((List.range 128).all fun a => (List.range 7).all fun q => isBo (valF ⟨Try.prog, noX, noT⟩ 9 33 [.int .i64 (a : Int), .int .i64 (q : Int)]) (hasN a q)) = true := by kernel_rfl
set_option maxRecDepth 1000000 in
theorem full_tab : ((List.range 128).all fun a => [3, 5, 7].all fun q => isBo (valF ⟨Try.prog, noX, noT⟩ 12 47 [.int .i64 (a : Int), .int .i64 ((q : Nat) : Int)]) (fullN a q)) = true := by kernel_rfl
set_option maxRecDepth 1000000 in
theorem enough_tab : ((List.range 128).all fun a => [3, 5, 7].all fun q => isBo (valF ⟨Try.prog, noX, noT⟩ 12 12 [.int .i64 (a : Int), .int .i64 ((q : Nat) : Int)]) (fullN a q)) = true := by kernel_rfl
set_option maxRecDepth 1000000 in
theorem awake_val : valF ⟨Try.prog, noX, noT⟩ 30 7 [] = some (.bool true) := by kernel_rfl
theorem awake_any (W : World) : Calls Try.prog 7 #[] W fun e w' => e = .returned (.bool true) ∧ Ext W w' :=
  closed (E := ⟨Try.prog, noX, noT⟩) noX_ok noT_ok (by kernel_rfl) 30 _ [] _ rfl awake_val (fun _ => rfl) W
theorem aw_gok : GOk Try.prog 7 [] gTrueY := gTrueY_ok awake_any
theorem two_tri {f : FuncId} {x y : Int} {k : Nat} {v : Value} (hf : v = v) (hv : ∀ σ, renV σ v = some v) (h : valF ⟨Try.prog, noX, noT⟩ k f [.int .i64 x, .int .i64 y] = some v) {hp : Hp} {nx : Nat} : Tri Try.prog f [.int .i64 x, .int .i64 y] hp nx (v, hp, nx, []) :=
  tri_quiet (fun σ args' ha => by simp only [renL, renV, Option.some.injEq] at ha; exact ha.symm) hv fun w => closed (E := ⟨Try.prog, noX, noT⟩) noX_ok noT_ok (by kernel_rfl) k f [.int .i64 x, .int .i64 y] v rfl h hv w
def SetIs (s : Int) (a : Nat) : Prop := s = (a : Int) ∧ a < 128
def WithIs (s r s' : Int) : Prop := ∃ a q : Nat, s = (a : Int) ∧ r = (q : Int) ∧ a < 128 ∧ q < 7 ∧ s' = ((withN a q : Nat) : Int)
def HasIs (s r : Int) (b : Bool) : Prop := ∃ a q : Nat, s = (a : Int) ∧ r = (q : Int) ∧ a < 128 ∧ q < 7 ∧ b = hasN a q
def FullIs (s n : Int) (b : Bool) : Prop := ∃ a q : Nat, s = (a : Int) ∧ n = (q : Int) ∧ a < 128 ∧ (q = 3 ∨ q = 5 ∨ q = 7) ∧ b = fullN a q
def gWi (s' : Int) : GSpec := fun av tp => match av with
  | [.fl (.int .i64 s), .fl (.int .i64 r)] => some (⟨fun _ => .tuple ⟨[.int .i64 s', .int .i64 0]⟩, []⟩, tp, [WithIs s r s'])
  | _ => none
def gB2 (R : Int → Int → Bool → Prop) : GSpec := fun av tp => match av, tp with
  | [.fl (.int .i64 s), .fl (.int .i64 r)], b :: tp' => some (⟨fun _ => .bool b, []⟩, tp', [R s r b])
  | _, _ => none
theorem wi_gok (s' : Int) : GOk Try.prog 30 [.f, .f] (gWi s') := by
  intro av tp gr tp' ob hG ho hP caps hcap
  unfold gWi at hG
  split at hG
  case h_2 => cases hG
  rename_i s r
  simp only [Option.some.injEq, Prod.mk.injEq] at hG
  obtain ⟨rfl, rfl, rfl⟩ := hG
  obtain ⟨⟨a, q, rfl, rfl, ha, hq, rfl⟩, _⟩ := ho
  have h := List.all_eq_true.1 (List.all_eq_true.1 with_tab a (List.mem_range.2 ha)) q (List.mem_range.2 hq)
  exact ⟨_, _, _, _, fun n => n, two_tri rfl (fun σ => rfl) (isT2_ok h), GrIs.flat fun σ => rfl⟩
theorem ha_gok : GOk Try.prog 33 [.f, .f] (gB2 HasIs) := by
  intro av tp gr tp' ob hG ho hP caps hcap
  unfold gB2 at hG
  split at hG
  case h_2 => cases hG
  rename_i s r b tp0
  simp only [Option.some.injEq, Prod.mk.injEq] at hG
  obtain ⟨rfl, rfl, rfl⟩ := hG
  obtain ⟨⟨a, q, rfl, rfl, ha, hq, rfl⟩, _⟩ := ho
  have h := List.all_eq_true.1 (List.all_eq_true.1 has_tab a (List.mem_range.2 ha)) q (List.mem_range.2 hq)
  exact ⟨_, _, _, _, fun n => n, two_tri rfl (fun σ => rfl) (isBo_ok h), GrIs.flat fun σ => rfl⟩
theorem fu_gok : GOk Try.prog 47 [.f, .f] (gB2 FullIs) := by
  intro av tp gr tp' ob hG ho hP caps hcap
  unfold gB2 at hG
  split at hG
  case h_2 => cases hG
  rename_i s r b tp0
  simp only [Option.some.injEq, Prod.mk.injEq] at hG
  obtain ⟨rfl, rfl, rfl⟩ := hG
  obtain ⟨⟨a, q, rfl, rfl, ha, hq, rfl⟩, _⟩ := ho
  have h := List.all_eq_true.1 (List.all_eq_true.1 full_tab a (List.mem_range.2 ha)) q (by simp only [List.mem_cons, List.not_mem_nil, or_false]; exact hq)
  exact ⟨_, _, _, _, fun n => n, two_tri rfl (fun σ => rfl) (isBo_ok h), GrIs.flat fun σ => rfl⟩
theorem en_gok : GOk Try.prog 12 [.f, .f] (gB2 FullIs) := by
  intro av tp gr tp' ob hG ho hP caps hcap
  unfold gB2 at hG
  split at hG
  case h_2 => cases hG
  rename_i s r b tp0
  simp only [Option.some.injEq, Prod.mk.injEq] at hG
  obtain ⟨rfl, rfl, rfl⟩ := hG
  obtain ⟨⟨a, q, rfl, rfl, ha, hq, rfl⟩, _⟩ := ho
  have h := List.all_eq_true.1 (List.all_eq_true.1 enough_tab a (List.mem_range.2 ha)) q (by simp only [List.mem_cons, List.not_mem_nil, or_false]; exact hq)
  exact ⟨_, _, _, _, fun n => n, two_tri rfl (fun σ => rfl) (isBo_ok h), GrIs.flat fun σ => rfl⟩
def poT0 (s' : Int) : TFun := orTz (mkT 30 [.f, .f] (gWi s')) (orTz (mkT 33 [.f, .f] (gB2 HasIs)) (mkT 47 [.f, .f] (gB2 FullIs)))
theorem poT0_one (s' : Int) : TOneZ Try.prog (poT0 s') := orTz_ok (mkT_one (wi_gok s')) (orTz_ok (mkT_one ha_gok) (mkT_one fu_gok))
end Go.Proofs.Ythbcemcgbgoplaa
