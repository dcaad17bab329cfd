/- The law TopBoiled returns true for every input, and each argument reads behind the call as before. Conditions: none. -/
import Derived.Test.YthnfcdkiaihfcaaGreatP26
set_option linter.unusedSimpArgs false
set_option linter.unusedVariables false
namespace Go.Proofs.YthnfcdkiaihfcaaGreat
open Go.Lift Go.ChangeShapes Go.WideShapes Go.ChangeAt Go.RowKit
theorem args7 (xs : List AV) (h : ArgsOf Tryz.prog [31, 5, 5] xs) : Pure Tryz.prog 7 xs (.bool true) := by
  cases h with
  | cons _ _ x0 _ h0 r0 =>
  cases r0 with
  | cons _ _ x1 _ h1 r1 =>
  cases r1 with
  | cons _ _ x2 _ h2 r2 =>
  cases r2
  obtain ⟨a0, rfl⟩ := arg31 h0
  obtain ⟨a1, rfl, b1⟩ := arg5 h1
  obtain ⟨a2, rfl, b2⟩ := arg5 h2
  exact top_law a0 a1 b1 a2 b2
theorem pars7 : Tryz.f7.params.toList = [31, 5, 5] := rfl
theorem size7 : Tryz.f7.params.size = 3 := rfl
set_option maxRecDepth 100000 in
theorem lift7 (os : Os) (started : os.Started) (H : Type) (enc : TypeId × Value → H) :
    ReturnsInHanded {} Tryz.checked os 7 .any (Rows.topBoiledSpec.pre6 enc Tryz.prog Tryz.f7 Rows.topBoiledRow.domain false) (Rows.topBoiledSpec.post enc Tryz.prog Tryz.f7 false true false false) := by
  refine law_step (k := 7) started (by kernel_rfl) (by kernel_rfl) rfl (by kernel_rfl) rfl (fun ds hd => ?_)
    (ChangeSpec.witness6 (enc := enc) (C := Tryz.checked) false ⟨#[], #[.agg #[.slice none 0 0, .slice none 0 0, .int .i64 0, .slice none 0 0, .int .i64 0, .int .i64 0, .slice none 0 0, .slice none 0 0, .slice none 0 0], .int .u8 0, .int .u8 0], []⟩ 12 (by kernel_rfl) (by kernel_rfl) (by kernel_rfl) (by kernel_rfl))
    (fun xs h => args7 xs (pars7 ▸ h))
  rw [size7] at hd
  match ds, hd with
  | [d0, d1, d2], _ => exact ⟨rfl, rfl, rfl⟩
set_option maxRecDepth 100000 in
theorem topBoiled_holds : Rows.TopBoiledSaid :=
  OpenClaim.holds_of_wide 7 Tryz.f7 rfl rfl rfl rfl rfl rfl rfl ⟨rfl, rfl, rfl, rfl, rfl⟩ rfl rfl rfl rfl rfl (by kernel_rfl) (by kernel_rfl) (by kernel_rfl)
    (of_decide_eq_true (by kernel_rfl)) (by unfold Func.isWrapper; first | (rw [if_pos (by decide +kernel)]; kernel_rfl) | (rw [if_neg (by decide +kernel)]; exact ⟨rfl, rfl⟩))
    (fun os started H enc _ => lift7 os started H enc)
#print axioms topBoiled_holds
end Go.Proofs.YthnfcdkiaihfcaaGreat

