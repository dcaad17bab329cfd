/- The law SickSources returns true for every input, and each argument reads behind the call as before. Conditions: none. -/
import Derived.Test.YthnfcdkiaihfcaaGreatP26
set_option linter.unusedSimpArgs false
set_option linter.unusedVariables false
namespace Go.Proofs.YthnfcdkiaihfcaaGreat
open Go.Lift Go.ChangeShapes Go.WideShapes Go.ChangeAt Go.RowKit
theorem args14 (xs : List AV) (h : ArgsOf Tryz.prog [31, 5] xs) : Pure Tryz.prog 14 xs (.bool true) := by
  cases h with
  | cons _ _ x0 _ h0 r0 =>
  cases r0 with
  | cons _ _ x1 _ h1 r1 =>
  cases r1
  obtain ⟨a0, rfl⟩ := arg31 h0
  obtain ⟨a1, rfl, b1⟩ := arg5 h1
  exact sources_law a0 a1 b1
theorem pars14 : Tryz.f14.params.toList = [31, 5] := rfl
theorem size14 : Tryz.f14.params.size = 2 := rfl
set_option maxRecDepth 100000 in
theorem lift14 (os : Os) (started : os.Started) (H : Type) (enc : TypeId × Value → H) :
    ReturnsInHanded {} Tryz.checked os 14 .any (Rows.sickSourcesSpec.pre6 enc Tryz.prog Tryz.f14 Rows.sickSourcesRow.domain false) (Rows.sickSourcesSpec.post enc Tryz.prog Tryz.f14 false true false false) := by
  refine law_step (k := 14) started (by kernel_rfl) (by kernel_rfl) rfl (by kernel_rfl) rfl (fun ds hd => ?_)
    (ChangeSpec.witness6 (enc := enc) (C := Tryz.checked) false ⟨#[], #[.agg #[.slice none 0 0, .slice none 0 0, .int .i64 0, .slice none 0 0, .int .i64 0, .int .i64 0, .slice none 0 0, .slice none 0 0, .slice none 0 0], .int .u8 0], []⟩ 12 (by kernel_rfl) (by kernel_rfl) (by kernel_rfl) (by kernel_rfl))
    (fun xs h => args14 xs (pars14 ▸ h))
  rw [size14] at hd
  match ds, hd with
  | [d0, d1], _ => exact ⟨rfl, rfl, rfl⟩
set_option maxRecDepth 100000 in
theorem sickSources_holds : Rows.SickSourcesSaid :=
  OpenClaim.holds_of_wide 14 Tryz.f14 rfl rfl rfl rfl rfl rfl rfl ⟨rfl, rfl, rfl, rfl, rfl⟩ rfl rfl rfl rfl rfl (by kernel_rfl) (by kernel_rfl) (by kernel_rfl)
    (of_decide_eq_true (by kernel_rfl)) (by unfold Func.isWrapper; first | (rw [if_pos (by decide +kernel)]; kernel_rfl) | (rw [if_neg (by decide +kernel)]; exact ⟨rfl, rfl⟩))
    (fun os started H enc _ => lift14 os started H enc)
#print axioms sickSources_holds
end Go.Proofs.YthnfcdkiaihfcaaGreat

