/- The law SickTruth returns true for every input, and each argument reads behind the call as before. Conditions: none. -/
import Derived.Test.YthnfcdkiaihfcaaGreatP26
set_option linter.unusedSimpArgs false
set_option linter.unusedVariables false
namespace Go.Proofs.YthnfcdkiaihfcaaGreat
open Go.Lift Go.ChangeShapes Go.WideShapes Go.ChangeAt Go.RowKit
theorem args16 (xs : List AV) (h : ArgsOf Tryz.prog [31, 60, 111, 5] xs) : Pure Tryz.prog 16 xs (.bool true) := by
  cases h with
  | cons _ _ x0 _ h0 r0 =>
  cases r0 with
  | cons _ _ x1 _ h1 r1 =>
  cases r1 with
  | cons _ _ x2 _ h2 r2 =>
  cases r2 with
  | cons _ _ x3 _ h3 r3 =>
  cases r3
  obtain ⟨a0, rfl⟩ := arg31 h0
  obtain ⟨a1, rfl, b1⟩ := arg60 h1
  obtain ⟨a2, rfl, b2⟩ := arg111 h2
  obtain ⟨a3, rfl, b3⟩ := arg5 h3
  exact truth_law a0 a1 b1 a2 b2 a3 b3
theorem pars16 : Tryz.f16.params.toList = [31, 60, 111, 5] := rfl
theorem size16 : Tryz.f16.params.size = 4 := rfl
set_option maxRecDepth 100000 in
theorem lift16 (os : Os) (started : os.Started) (H : Type) (enc : TypeId × Value → H) :
    ReturnsInHanded {} Tryz.checked os 16 .any (Rows.sickTruthSpec.pre6 enc Tryz.prog Tryz.f16 Rows.sickTruthRow.domain false) (Rows.sickTruthSpec.post enc Tryz.prog Tryz.f16 false true false false) := by
  refine law_step (k := 16) started (by kernel_rfl) (by kernel_rfl) rfl (by kernel_rfl) rfl (fun ds hd => ?_)
    (ChangeSpec.witness6 (enc := enc) (C := Tryz.checked) false ⟨#[], #[.agg #[.slice none 0 0, .slice none 0 0, .int .i64 0, .slice none 0 0, .int .i64 0, .int .i64 0, .slice none 0 0, .slice none 0 0, .slice none 0 0], .int .u16 0, .slice none 0 0, .int .u8 0], []⟩ 12 (by kernel_rfl) (by kernel_rfl) (by kernel_rfl) (by kernel_rfl))
    (fun xs h => args16 xs (pars16 ▸ h))
  rw [size16] at hd
  match ds, hd with
  | [d0, d1, d2, d3], _ => exact ⟨rfl, rfl, rfl⟩
set_option maxRecDepth 100000 in
theorem sickTruth_holds : Rows.SickTruthSaid :=
  OpenClaim.holds_of_wide 16 Tryz.f16 rfl rfl rfl rfl rfl rfl rfl ⟨rfl, rfl, rfl, rfl, rfl⟩ rfl rfl rfl rfl rfl (by kernel_rfl) (by kernel_rfl) (by kernel_rfl)
    (of_decide_eq_true (by kernel_rfl)) (by unfold Func.isWrapper; first | (rw [if_pos (by decide +kernel)]; kernel_rfl) | (rw [if_neg (by decide +kernel)]; exact ⟨rfl, rfl⟩))
    (fun os started H enc _ => lift16 os started H enc)
#print axioms sickTruth_holds
end Go.Proofs.YthnfcdkiaihfcaaGreat

