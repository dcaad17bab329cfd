/- The law SickPlays returns true for every input, and each argument reads behind the call as before. Conditions: none. -/
import Derived.Test.YthnfcdkiaihfcaaGreatQLawF
set_option linter.unusedSimpArgs false
set_option linter.unusedVariables false
namespace Go.Proofs.YthnfcdkiaihfcaaGreat
open Go.Lift Go.ChangeShapes Go.WideShapes Go.ChangeAt Go.RowKit
theorem args15 (xs : List AV) (h : ArgsOf Tryz.prog [31, 63] xs) : Pure Tryz.prog 15 xs (.bool true) := by
  cases h with
  | cons _ _ x _ h1 r =>
  cases r with
  | cons _ _ y _ h2 r =>
  cases r
  obtain ⟨h, rfl⟩ := arg31 h1
  obtain ⟨c, rfl⟩ := arg63 h2
  exact plays_c h c
theorem pars15 : Tryz.f15.params.toList = [31, 63] := rfl
theorem size15 : Tryz.f15.params.size = 2 := rfl
set_option maxRecDepth 100000 in
theorem lift15 (os : Os) (started : os.Started) (H : Type) (enc : TypeId × Value → H) :
    ReturnsInHanded {} Tryz.checked os 15 .any (Rows.sickPlaysSpec.pre6 enc Tryz.prog Tryz.f15 Rows.sickPlaysRow.domain false) (Rows.sickPlaysSpec.post enc Tryz.prog Tryz.f15 false true false false) := by
  refine law_step (k := 15) started (by kernel_rfl) (by kernel_rfl) rfl (by kernel_rfl) rfl (fun ds hd => ?_)
    (ChangeSpec.witness6 (enc := enc) (C := Tryz.checked) false ⟨#[], #[.agg #[.slice none 0 0, .slice none 0 0, .int .i64 0, .slice none 0 0, .int .i64 0, .int .i64 0, .slice none 0 0, .slice none 0 0, .slice none 0 0], .agg #[.slice none 0 0, .slice none 0 0]], []⟩ 12 (by kernel_rfl) (by kernel_rfl) (by kernel_rfl) (by kernel_rfl))
    (fun xs h => args15 xs (pars15 ▸ h))
  rw [size15] at hd
  match ds, hd with
  | [a, b], _ => exact ⟨rfl, rfl, rfl⟩
set_option maxRecDepth 100000 in
theorem sickPlays_holds : Rows.SickPlaysSaid :=
  OpenClaim.holds_of_wide 15 Tryz.f15 rfl rfl rfl rfl rfl rfl rfl ⟨rfl, rfl, rfl, rfl, rfl⟩ rfl rfl rfl rfl rfl (by kernel_rfl) (by kernel_rfl) (by kernel_rfl)
    (of_decide_eq_true (by kernel_rfl)) (by unfold Func.isWrapper; first | (rw [if_pos (by decide +kernel)]; kernel_rfl) | (rw [if_neg (by decide +kernel)]; exact ⟨rfl, rfl⟩))
    (fun os started H enc _ => lift15 os started H enc)
#print axioms sickPlays_holds
end Go.Proofs.YthnfcdkiaihfcaaGreat
