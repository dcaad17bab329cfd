/- The law SickFirst returns true for every input, and each argument reads behind the call as before. Conditions: none. -/
import Derived.Test.YthnfcdkiaihfcaaGreatP26
set_option linter.unusedSimpArgs false
set_option linter.unusedVariables false
namespace Go.Proofs.YthnfcdkiaihfcaaGreat
open Go.Lift Go.ChangeShapes Go.WideShapes Go.ChangeAt Go.RowKit
theorem args10 (xs : List AV) (h : ArgsOf Tryz.prog [31] xs) : Pure Tryz.prog 10 xs (.bool true) := by
  cases h with
  | cons _ _ x0 _ h0 r0 =>
  cases r0
  obtain ⟨a0, rfl⟩ := arg31 h0
  exact first_law a0
theorem pars10 : Tryz.f10.params.toList = [31] := rfl
theorem size10 : Tryz.f10.params.size = 1 := rfl
set_option maxRecDepth 100000 in
theorem lift10 (os : Os) (started : os.Started) (H : Type) (enc : TypeId × Value → H) :
    ReturnsInHanded {} Tryz.checked os 10 .any (Rows.sickFirstSpec.pre6 enc Tryz.prog Tryz.f10 Rows.sickFirstRow.domain false) (Rows.sickFirstSpec.post enc Tryz.prog Tryz.f10 false true false false) := by
  refine law_step (k := 10) started (by kernel_rfl) (by kernel_rfl) rfl (by kernel_rfl) rfl (fun ds hd => ?_)
    (ChangeSpec.witness6 (enc := enc) (C := Tryz.checked) false ⟨#[], #[.agg #[.slice none 0 0, .slice none 0 0, .int .i64 0, .slice none 0 0, .int .i64 0, .int .i64 0, .slice none 0 0, .slice none 0 0, .slice none 0 0]], []⟩ 12 (by kernel_rfl) (by kernel_rfl) (by kernel_rfl) (by kernel_rfl))
    (fun xs h => args10 xs (pars10 ▸ h))
  rw [size10] at hd
  match ds, hd with
  | [d0], _ => exact ⟨rfl, rfl, rfl⟩
set_option maxRecDepth 100000 in
theorem sickFirst_holds : Rows.SickFirstSaid :=
  OpenClaim.holds_of_wide 10 Tryz.f10 rfl rfl rfl rfl rfl rfl rfl ⟨rfl, rfl, rfl, rfl, rfl⟩ rfl rfl rfl rfl rfl (by kernel_rfl) (by kernel_rfl) (by kernel_rfl)
    (of_decide_eq_true (by kernel_rfl)) (by unfold Func.isWrapper; first | (rw [if_pos (by decide +kernel)]; kernel_rfl) | (rw [if_neg (by decide +kernel)]; exact ⟨rfl, rfl⟩))
    (fun os started H enc _ => lift10 os started H enc)
#print axioms sickFirst_holds
end Go.Proofs.YthnfcdkiaihfcaaGreat

