/- The law SickMore returns true for every input, and each argument reads behind the call as before. Conditions: none. -/
import Derived.Test.YthnfcdkiaihfcaaGreatP26
set_option linter.unusedSimpArgs false
set_option linter.unusedVariables false
namespace Go.Proofs.YthnfcdkiaihfcaaGreat
open Go.Lift Go.ChangeShapes Go.WideShapes Go.ChangeAt Go.RowKit
theorem args6 (xs : List AV) (h : ArgsOf Tryz.prog [31, 77, 5] xs) (hb : ∀ a r, xs = eH a :: r → a.signs.length * 16 ≤ 140737488351232) : Pure Tryz.prog 6 xs (.bool true) := by
  cases h with
  | cons _ _ x0 _ h0 r0 =>
  cases r0 with
  | cons _ _ x1 _ h1 r1 =>
  cases r1 with
  | cons _ _ x2 _ h2 r2 =>
  cases r2
  obtain ⟨a0, rfl⟩ := arg31 h0
  obtain ⟨a1, rfl⟩ := arg77 h1
  obtain ⟨a2, rfl, b2⟩ := arg5 h2
  exact more_law a0 (hb a0 _ rfl) a1 a2 b2
theorem pars6 : Tryz.f6.params.toList = [31, 77, 5] := rfl
theorem size6 : Tryz.f6.params.size = 3 := rfl
set_option maxRecDepth 100000 in
theorem lift6 (os : Os) (started : os.Started) (H : Type) (enc : TypeId × Value → H) :
    ReturnsInHanded {} Tryz.checked os 6 .any (Rows.sickMoreSpec.pre6 enc Tryz.prog Tryz.f6 Rows.sickMoreRow.domain false) (Rows.sickMoreSpec.post enc Tryz.prog Tryz.f6 false true false false) := by
  refine law_stepS (k := 6) (ts := [77, 5]) started (by kernel_rfl) (by kernel_rfl) rfl (by kernel_rfl) rfl pars6 (fun ds hd => ?_)
    (ChangeSpec.witness6 (enc := enc) (C := Tryz.checked) false ⟨#[], #[.agg #[.slice none 0 0, .slice none 0 0, .int .i64 0, .slice none 0 0, .int .i64 0, .int .i64 0, .slice none 0 0, .slice none 0 0, .slice none 0 0], .agg #[.int .i64 0, .bool false], .int .u8 0], []⟩ 12 (by kernel_rfl) (by kernel_rfl) (by kernel_rfl) (by kernel_rfl))
    (fun xs h hb => args6 xs (pars6 ▸ h) hb)
  rw [size6] at hd
  match ds, hd with
  | [d0, d1, d2], _ => exact ⟨rfl, rfl, rfl⟩
set_option maxRecDepth 100000 in
theorem sickMore_holds : Rows.SickMoreSaid :=
  OpenClaim.holds_of_wide 6 Tryz.f6 rfl rfl rfl rfl rfl rfl rfl ⟨rfl, rfl, rfl, rfl, rfl⟩ rfl rfl rfl rfl rfl (by kernel_rfl) (by kernel_rfl) (by kernel_rfl)
    (of_decide_eq_true (by kernel_rfl)) (by unfold Func.isWrapper; first | (rw [if_pos (by decide +kernel)]; kernel_rfl) | (rw [if_neg (by decide +kernel)]; exact ⟨rfl, rfl⟩))
    (fun os started H enc _ => lift6 os started H enc)
#print axioms sickMore_holds
end Go.Proofs.YthnfcdkiaihfcaaGreat

