/- The law SickOne returns true for every input, and each argument reads behind the call as before. Conditions: none. -/
import Derived.Test.YthnfcdkiaihfcaaGreatP26
set_option linter.unusedSimpArgs false
set_option linter.unusedVariables false
namespace Go.Proofs.YthnfcdkiaihfcaaGreat
open Go.Lift Go.ChangeShapes Go.WideShapes Go.ChangeAt Go.RowKit
theorem args18 (xs : List AV) (h : ArgsOf Tryz.prog [31, 5, 5] xs) : Pure Tryz.prog 18 xs (.bool true) := by
  cases h with
  | cons _ _ x0 _ h0 r0 =>
  cases r0 with
  | cons _ _ x1 _ h1 r1 =>
  cases r1 with
  | cons _ _ x2 _ h2 r2 =>
  cases r2
  obtain ⟨a0, rfl⟩ := arg31 h0
  obtain ⟨a1, rfl, b1⟩ := arg5 h1
  obtain ⟨a2, rfl, b2⟩ := arg5 h2
  exact one_law a0 a1 b1 a2 b2
theorem pars18 : Tryz.f18.params.toList = [31, 5, 5] := rfl
theorem size18 : Tryz.f18.params.size = 3 := rfl
set_option maxRecDepth 100000 in
theorem lift18 (os : Os) (started : os.Started) (H : Type) (enc : TypeId × Value → H) :
    ReturnsInHanded {} Tryz.checked os 18 .any (Rows.sickOneSpec.pre6 enc Tryz.prog Tryz.f18 Rows.sickOneRow.domain false) (Rows.sickOneSpec.post enc Tryz.prog Tryz.f18 false true false false) := by
  refine law_step (k := 18) started (by kernel_rfl) (by kernel_rfl) rfl (by kernel_rfl) rfl (fun ds hd => ?_)
    (ChangeSpec.witness6 (enc := enc) (C := Tryz.checked) false ⟨#[], #[.agg #[.slice none 0 0, .slice none 0 0, .int .i64 0, .slice none 0 0, .int .i64 0, .int .i64 0, .slice none 0 0, .slice none 0 0, .slice none 0 0], .int .u8 0, .int .u8 0], []⟩ 12 (by kernel_rfl) (by kernel_rfl) (by kernel_rfl) (by kernel_rfl))
    (fun xs h => args18 xs (pars18 ▸ h))
  rw [size18] at hd
  match ds, hd with
  | [d0, d1, d2], _ => exact ⟨rfl, rfl, rfl⟩
set_option maxRecDepth 100000 in
theorem sickOne_holds : Rows.SickOneSaid :=
  OpenClaim.holds_of_wide 18 Tryz.f18 rfl rfl rfl rfl rfl rfl rfl ⟨rfl, rfl, rfl, rfl, rfl⟩ rfl rfl rfl rfl rfl (by kernel_rfl) (by kernel_rfl) (by kernel_rfl)
    (of_decide_eq_true (by kernel_rfl)) (by unfold Func.isWrapper; first | (rw [if_pos (by decide +kernel)]; kernel_rfl) | (rw [if_neg (by decide +kernel)]; exact ⟨rfl, rfl⟩))
    (fun os started H enc _ => lift18 os started H enc)
#print axioms sickOne_holds
end Go.Proofs.YthnfcdkiaihfcaaGreat

