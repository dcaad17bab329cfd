/-
  No cell of these rows narrows 'for every input' (looked for: loops, veiled, ifaces, maps, wideKeys, modest, calm, conditions, laid).
  DERIVED. THE GIVEN ROWS OF THIS SEAT. 16 by the template 'for every input the law returns true; each argument reads behind the call as it read before'; 0 by the template 'total and deterministic' (their statements: YthnfcdkiaihfcaaGreatTotals.lean).
  GIVEN WITH THE SEED: the statements are not yours to turn. If you find one false, say at which input.
  Laid BY PROGRAM, IN A SANDBOX (cutbox-rows.mjs): the forced cells as the released guide's own fill.sh prints them over the translation e34ef5a6c900d3e9… (all of the seat's roots in one cut). By AI agents, Wed Nov 11 2026. No macro, syntax, notation, axiom, sorry.
-/
import Derived.Test.YthnfcdkiaihfcaaGreatChecked
import GoSem.Claim
import GoSem.ClaimJoined
import GoSem.ClaimMapViews
import Derived.JoinedTies
import Derived.KernelRfl
namespace Go.Proofs.YthnfcdkiaihfcaaGreat
/- THE CELL 'sum', in the pinned program and in every row, IS THE sha256 OF THE DUMP (.gsa) THAT YthnfcdkiaihfcaaGreatProg.lean LOADS. Nothing in Lean hashes anything: it is a label: what it is worth is what the hold of that sum in a sandbox is worth. -/
noncomputable def Tryz.pinned : Pinned := { name := "ythnfcdkiaihfcaagreat", sum := "e34ef5a6c900d3e9b7776f81bbec62c85a7945113bc78e4cc311417f83e5a1c5", checked := Tryz.checked }
namespace Rows
def none {H : Type} : Left H := { results := [], args := [] }

/-- 'posserlaw06.SickCarries': WHATEVER THE INPUT: true; the input reads as it did. -/
def sickCarriesSpec : ChangeSpec := { name := "sickCarries", fn := fun _ => fun
  | [d] => { results := [.lit (.bool true)], args := [d] }
  | _ => none }
def sickCarriesRow : OpenClaim := { program := "ythnfcdkiaihfcaagreat", sum := "e34ef5a6c900d3e9b7776f81bbec62c85a7945113bc78e4cc311417f83e5a1c5", func := "posser/posserlaw06.SickCarries", spec := "sickCarries", unfollowed := true, recurses := true, plainKeys := false, apart := false }
def SickCarriesSaid : Prop := sickCarriesRow.holds Tryz.pinned (OpenSpec.ofChange sickCarriesSpec)

/-- ITS FALSE NEIGHBOUR: 'it returns false'. Refute it at one input. -/
def sickCarriesWrong : ChangeSpec := { name := "sickCarries", fn := fun _ => fun
  | [d] => { results := [.lit (.bool false)], args := [d] }
  | _ => none }
def SickCarriesWrongFalsely : Prop := sickCarriesRow.holds Tryz.pinned (OpenSpec.ofChange sickCarriesWrong)

/-- 'posserlaw06.SickLeaves': WHATEVER THE INPUT: true; the input reads as it did. -/
def sickLeavesSpec : ChangeSpec := { name := "sickLeaves", fn := fun _ => fun
  | [d] => { results := [.lit (.bool true)], args := [d] }
  | _ => none }
def sickLeavesRow : OpenClaim := { program := "ythnfcdkiaihfcaagreat", sum := "e34ef5a6c900d3e9b7776f81bbec62c85a7945113bc78e4cc311417f83e5a1c5", func := "posser/posserlaw06.SickLeaves", spec := "sickLeaves", unfollowed := true, recurses := true, plainKeys := false, apart := false }
def SickLeavesSaid : Prop := sickLeavesRow.holds Tryz.pinned (OpenSpec.ofChange sickLeavesSpec)

/-- ITS FALSE NEIGHBOUR: 'it returns false'. Refute it at one input. -/
def sickLeavesWrong : ChangeSpec := { name := "sickLeaves", fn := fun _ => fun
  | [d] => { results := [.lit (.bool false)], args := [d] }
  | _ => none }
def SickLeavesWrongFalsely : Prop := sickLeavesRow.holds Tryz.pinned (OpenSpec.ofChange sickLeavesWrong)

/-- 'posserlaw06.SickTouched': WHATEVER THE INPUT: true; the input reads as it did. -/
def sickTouchedSpec : ChangeSpec := { name := "sickTouched", fn := fun _ => fun
  | [d1, d2, d3, d4, d5] => { results := [.lit (.bool true)], args := [d1, d2, d3, d4, d5] }
  | _ => none }
def sickTouchedRow : OpenClaim := { program := "ythnfcdkiaihfcaagreat", sum := "e34ef5a6c900d3e9b7776f81bbec62c85a7945113bc78e4cc311417f83e5a1c5", func := "posser/posserlaw06.SickTouched", spec := "sickTouched", unfollowed := true, recurses := true, plainKeys := false, apart := false }
def SickTouchedSaid : Prop := sickTouchedRow.holds Tryz.pinned (OpenSpec.ofChange sickTouchedSpec)

/-- ITS FALSE NEIGHBOUR: 'it returns false'. Refute it at one input. -/
def sickTouchedWrong : ChangeSpec := { name := "sickTouched", fn := fun _ => fun
  | [d1, d2, d3, d4, d5] => { results := [.lit (.bool false)], args := [d1, d2, d3, d4, d5] }
  | _ => none }
def SickTouchedWrongFalsely : Prop := sickTouchedRow.holds Tryz.pinned (OpenSpec.ofChange sickTouchedWrong)

/-- 'posserlaw06.SickMore': WHATEVER THE INPUT: true; the input reads as it did. -/
def sickMoreSpec : ChangeSpec := { name := "sickMore", fn := fun _ => fun
  | [d1, d2, d3] => { results := [.lit (.bool true)], args := [d1, d2, d3] }
  | _ => none }
def sickMoreRow : OpenClaim := { program := "ythnfcdkiaihfcaagreat", sum := "e34ef5a6c900d3e9b7776f81bbec62c85a7945113bc78e4cc311417f83e5a1c5", func := "posser/posserlaw06.SickMore", spec := "sickMore", unfollowed := true, recurses := true, plainKeys := false, apart := false }
def SickMoreSaid : Prop := sickMoreRow.holds Tryz.pinned (OpenSpec.ofChange sickMoreSpec)

/-- ITS FALSE NEIGHBOUR: 'it returns false'. Refute it at one input. -/
def sickMoreWrong : ChangeSpec := { name := "sickMore", fn := fun _ => fun
  | [d1, d2, d3] => { results := [.lit (.bool false)], args := [d1, d2, d3] }
  | _ => none }
def SickMoreWrongFalsely : Prop := sickMoreRow.holds Tryz.pinned (OpenSpec.ofChange sickMoreWrong)

/-- 'possertop.TopBoiled': WHATEVER THE INPUT: true; the input reads as it did. -/
def topBoiledSpec : ChangeSpec := { name := "topBoiled", fn := fun _ => fun
  | [d1, d2, d3] => { results := [.lit (.bool true)], args := [d1, d2, d3] }
  | _ => none }
def topBoiledRow : OpenClaim := { program := "ythnfcdkiaihfcaagreat", sum := "e34ef5a6c900d3e9b7776f81bbec62c85a7945113bc78e4cc311417f83e5a1c5", func := "posser/possertop.TopBoiled", spec := "topBoiled", unfollowed := true, recurses := true, plainKeys := false, apart := false }
def TopBoiledSaid : Prop := topBoiledRow.holds Tryz.pinned (OpenSpec.ofChange topBoiledSpec)

/-- ITS FALSE NEIGHBOUR: 'it returns false'. Refute it at one input. -/
def topBoiledWrong : ChangeSpec := { name := "topBoiled", fn := fun _ => fun
  | [d1, d2, d3] => { results := [.lit (.bool false)], args := [d1, d2, d3] }
  | _ => none }
def TopBoiledWrongFalsely : Prop := topBoiledRow.holds Tryz.pinned (OpenSpec.ofChange topBoiledWrong)

/-- 'posserlaw06.SickWider': WHATEVER THE INPUT: true; the input reads as it did. -/
def sickWiderSpec : ChangeSpec := { name := "sickWider", fn := fun _ => fun
  | [d1, d2, d3, d4] => { results := [.lit (.bool true)], args := [d1, d2, d3, d4] }
  | _ => none }
def sickWiderRow : OpenClaim := { program := "ythnfcdkiaihfcaagreat", sum := "e34ef5a6c900d3e9b7776f81bbec62c85a7945113bc78e4cc311417f83e5a1c5", func := "posser/posserlaw06.SickWider", spec := "sickWider", unfollowed := true, recurses := true, plainKeys := false, apart := false }
def SickWiderSaid : Prop := sickWiderRow.holds Tryz.pinned (OpenSpec.ofChange sickWiderSpec)

/-- ITS FALSE NEIGHBOUR: 'it returns false'. Refute it at one input. -/
def sickWiderWrong : ChangeSpec := { name := "sickWider", fn := fun _ => fun
  | [d1, d2, d3, d4] => { results := [.lit (.bool false)], args := [d1, d2, d3, d4] }
  | _ => none }
def SickWiderWrongFalsely : Prop := sickWiderRow.holds Tryz.pinned (OpenSpec.ofChange sickWiderWrong)

/-- 'posserlaw06.SickSicker': WHATEVER THE INPUT: true; the input reads as it did. -/
def sickSickerSpec : ChangeSpec := { name := "sickSicker", fn := fun _ => fun
  | [d1, d2] => { results := [.lit (.bool true)], args := [d1, d2] }
  | _ => none }
def sickSickerRow : OpenClaim := { program := "ythnfcdkiaihfcaagreat", sum := "e34ef5a6c900d3e9b7776f81bbec62c85a7945113bc78e4cc311417f83e5a1c5", func := "posser/posserlaw06.SickSicker", spec := "sickSicker", unfollowed := true, recurses := true, plainKeys := false, apart := false }
def SickSickerSaid : Prop := sickSickerRow.holds Tryz.pinned (OpenSpec.ofChange sickSickerSpec)

/-- ITS FALSE NEIGHBOUR: 'it returns false'. Refute it at one input. -/
def sickSickerWrong : ChangeSpec := { name := "sickSicker", fn := fun _ => fun
  | [d1, d2] => { results := [.lit (.bool false)], args := [d1, d2] }
  | _ => none }
def SickSickerWrongFalsely : Prop := sickSickerRow.holds Tryz.pinned (OpenSpec.ofChange sickSickerWrong)

/-- 'posserlaw06.SickFirst': WHATEVER THE INPUT: true; the input reads as it did. -/
def sickFirstSpec : ChangeSpec := { name := "sickFirst", fn := fun _ => fun
  | [d] => { results := [.lit (.bool true)], args := [d] }
  | _ => none }
def sickFirstRow : OpenClaim := { program := "ythnfcdkiaihfcaagreat", sum := "e34ef5a6c900d3e9b7776f81bbec62c85a7945113bc78e4cc311417f83e5a1c5", func := "posser/posserlaw06.SickFirst", spec := "sickFirst", unfollowed := true, recurses := true, plainKeys := false, apart := false }
def SickFirstSaid : Prop := sickFirstRow.holds Tryz.pinned (OpenSpec.ofChange sickFirstSpec)

/-- ITS FALSE NEIGHBOUR: 'it returns false'. Refute it at one input. -/
def sickFirstWrong : ChangeSpec := { name := "sickFirst", fn := fun _ => fun
  | [d] => { results := [.lit (.bool false)], args := [d] }
  | _ => none }
def SickFirstWrongFalsely : Prop := sickFirstRow.holds Tryz.pinned (OpenSpec.ofChange sickFirstWrong)

/-- 'posserlaw06.SickLeft': WHATEVER THE INPUT: true; the input reads as it did. -/
def sickLeftSpec : ChangeSpec := { name := "sickLeft", fn := fun _ => fun
  | [d1, d2] => { results := [.lit (.bool true)], args := [d1, d2] }
  | _ => none }
def sickLeftRow : OpenClaim := { program := "ythnfcdkiaihfcaagreat", sum := "e34ef5a6c900d3e9b7776f81bbec62c85a7945113bc78e4cc311417f83e5a1c5", func := "posser/posserlaw06.SickLeft", spec := "sickLeft", unfollowed := true, recurses := true, plainKeys := false, apart := false }
def SickLeftSaid : Prop := sickLeftRow.holds Tryz.pinned (OpenSpec.ofChange sickLeftSpec)

/-- ITS FALSE NEIGHBOUR: 'it returns false'. Refute it at one input. -/
def sickLeftWrong : ChangeSpec := { name := "sickLeft", fn := fun _ => fun
  | [d1, d2] => { results := [.lit (.bool false)], args := [d1, d2] }
  | _ => none }
def SickLeftWrongFalsely : Prop := sickLeftRow.holds Tryz.pinned (OpenSpec.ofChange sickLeftWrong)

/-- 'posserlaw06.SickBoils': WHATEVER THE INPUT: true; the input reads as it did. -/
def sickBoilsSpec : ChangeSpec := { name := "sickBoils", fn := fun _ => fun
  | [d1, d2, d3, d4] => { results := [.lit (.bool true)], args := [d1, d2, d3, d4] }
  | _ => none }
def sickBoilsRow : OpenClaim := { program := "ythnfcdkiaihfcaagreat", sum := "e34ef5a6c900d3e9b7776f81bbec62c85a7945113bc78e4cc311417f83e5a1c5", func := "posser/posserlaw06.SickBoils", spec := "sickBoils", unfollowed := true, recurses := true, plainKeys := false, apart := false }
def SickBoilsSaid : Prop := sickBoilsRow.holds Tryz.pinned (OpenSpec.ofChange sickBoilsSpec)

/-- ITS FALSE NEIGHBOUR: 'it returns false'. Refute it at one input. -/
def sickBoilsWrong : ChangeSpec := { name := "sickBoils", fn := fun _ => fun
  | [d1, d2, d3, d4] => { results := [.lit (.bool false)], args := [d1, d2, d3, d4] }
  | _ => none }
def SickBoilsWrongFalsely : Prop := sickBoilsRow.holds Tryz.pinned (OpenSpec.ofChange sickBoilsWrong)

/-- 'posserlaw06.SickOrders': WHATEVER THE INPUT: true; the input reads as it did. -/
def sickOrdersSpec : ChangeSpec := { name := "sickOrders", fn := fun _ => fun
  | [d1, d2, d3, d4] => { results := [.lit (.bool true)], args := [d1, d2, d3, d4] }
  | _ => none }
def sickOrdersRow : OpenClaim := { program := "ythnfcdkiaihfcaagreat", sum := "e34ef5a6c900d3e9b7776f81bbec62c85a7945113bc78e4cc311417f83e5a1c5", func := "posser/posserlaw06.SickOrders", spec := "sickOrders", unfollowed := true, recurses := true, plainKeys := false, apart := false }
def SickOrdersSaid : Prop := sickOrdersRow.holds Tryz.pinned (OpenSpec.ofChange sickOrdersSpec)

/-- ITS FALSE NEIGHBOUR: 'it returns false'. Refute it at one input. -/
def sickOrdersWrong : ChangeSpec := { name := "sickOrders", fn := fun _ => fun
  | [d1, d2, d3, d4] => { results := [.lit (.bool false)], args := [d1, d2, d3, d4] }
  | _ => none }
def SickOrdersWrongFalsely : Prop := sickOrdersRow.holds Tryz.pinned (OpenSpec.ofChange sickOrdersWrong)

/-- 'posserlaw06.SickSources': WHATEVER THE INPUT: true; the input reads as it did. -/
def sickSourcesSpec : ChangeSpec := { name := "sickSources", fn := fun _ => fun
  | [d1, d2] => { results := [.lit (.bool true)], args := [d1, d2] }
  | _ => none }
def sickSourcesRow : OpenClaim := { program := "ythnfcdkiaihfcaagreat", sum := "e34ef5a6c900d3e9b7776f81bbec62c85a7945113bc78e4cc311417f83e5a1c5", func := "posser/posserlaw06.SickSources", spec := "sickSources", unfollowed := true, recurses := true, plainKeys := false, apart := false }
def SickSourcesSaid : Prop := sickSourcesRow.holds Tryz.pinned (OpenSpec.ofChange sickSourcesSpec)

/-- ITS FALSE NEIGHBOUR: 'it returns false'. Refute it at one input. -/
def sickSourcesWrong : ChangeSpec := { name := "sickSources", fn := fun _ => fun
  | [d1, d2] => { results := [.lit (.bool false)], args := [d1, d2] }
  | _ => none }
def SickSourcesWrongFalsely : Prop := sickSourcesRow.holds Tryz.pinned (OpenSpec.ofChange sickSourcesWrong)

/-- 'posserlaw06.SickPlays': WHATEVER THE INPUT: true; the input reads as it did. -/
def sickPlaysSpec : ChangeSpec := { name := "sickPlays", fn := fun _ => fun
  | [d1, d2] => { results := [.lit (.bool true)], args := [d1, d2] }
  | _ => none }
def sickPlaysRow : OpenClaim := { program := "ythnfcdkiaihfcaagreat", sum := "e34ef5a6c900d3e9b7776f81bbec62c85a7945113bc78e4cc311417f83e5a1c5", func := "posser/posserlaw06.SickPlays", spec := "sickPlays", unfollowed := true, recurses := true, plainKeys := false, apart := false }
def SickPlaysSaid : Prop := sickPlaysRow.holds Tryz.pinned (OpenSpec.ofChange sickPlaysSpec)

/-- ITS FALSE NEIGHBOUR: 'it returns false'. Refute it at one input. -/
def sickPlaysWrong : ChangeSpec := { name := "sickPlays", fn := fun _ => fun
  | [d1, d2] => { results := [.lit (.bool false)], args := [d1, d2] }
  | _ => none }
def SickPlaysWrongFalsely : Prop := sickPlaysRow.holds Tryz.pinned (OpenSpec.ofChange sickPlaysWrong)

/-- 'posserlaw06.SickTruth': WHATEVER THE INPUT: true; the input reads as it did. -/
def sickTruthSpec : ChangeSpec := { name := "sickTruth", fn := fun _ => fun
  | [d1, d2, d3, d4] => { results := [.lit (.bool true)], args := [d1, d2, d3, d4] }
  | _ => none }
def sickTruthRow : OpenClaim := { program := "ythnfcdkiaihfcaagreat", sum := "e34ef5a6c900d3e9b7776f81bbec62c85a7945113bc78e4cc311417f83e5a1c5", func := "posser/posserlaw06.SickTruth", spec := "sickTruth", unfollowed := true, recurses := true, plainKeys := false, apart := false }
def SickTruthSaid : Prop := sickTruthRow.holds Tryz.pinned (OpenSpec.ofChange sickTruthSpec)

/-- ITS FALSE NEIGHBOUR: 'it returns false'. Refute it at one input. -/
def sickTruthWrong : ChangeSpec := { name := "sickTruth", fn := fun _ => fun
  | [d1, d2, d3, d4] => { results := [.lit (.bool false)], args := [d1, d2, d3, d4] }
  | _ => none }
def SickTruthWrongFalsely : Prop := sickTruthRow.holds Tryz.pinned (OpenSpec.ofChange sickTruthWrong)

/-- 'posserlaw06.SickNoFewer': WHATEVER THE INPUT: true; the input reads as it did. -/
def sickNoFewerSpec : ChangeSpec := { name := "sickNoFewer", fn := fun _ => fun
  | [d1, d2, d3, d4] => { results := [.lit (.bool true)], args := [d1, d2, d3, d4] }
  | _ => none }
def sickNoFewerRow : OpenClaim := { program := "ythnfcdkiaihfcaagreat", sum := "e34ef5a6c900d3e9b7776f81bbec62c85a7945113bc78e4cc311417f83e5a1c5", func := "posser/posserlaw06.SickNoFewer", spec := "sickNoFewer", unfollowed := true, recurses := true, plainKeys := false, apart := false }
def SickNoFewerSaid : Prop := sickNoFewerRow.holds Tryz.pinned (OpenSpec.ofChange sickNoFewerSpec)

/-- ITS FALSE NEIGHBOUR: 'it returns false'. Refute it at one input. -/
def sickNoFewerWrong : ChangeSpec := { name := "sickNoFewer", fn := fun _ => fun
  | [d1, d2, d3, d4] => { results := [.lit (.bool false)], args := [d1, d2, d3, d4] }
  | _ => none }
def SickNoFewerWrongFalsely : Prop := sickNoFewerRow.holds Tryz.pinned (OpenSpec.ofChange sickNoFewerWrong)

/-- 'posserlaw06.SickOne': WHATEVER THE INPUT: true; the input reads as it did. -/
def sickOneSpec : ChangeSpec := { name := "sickOne", fn := fun _ => fun
  | [d1, d2, d3] => { results := [.lit (.bool true)], args := [d1, d2, d3] }
  | _ => none }
def sickOneRow : OpenClaim := { program := "ythnfcdkiaihfcaagreat", sum := "e34ef5a6c900d3e9b7776f81bbec62c85a7945113bc78e4cc311417f83e5a1c5", func := "posser/posserlaw06.SickOne", spec := "sickOne", unfollowed := true, recurses := true, plainKeys := false, apart := false }
def SickOneSaid : Prop := sickOneRow.holds Tryz.pinned (OpenSpec.ofChange sickOneSpec)

/-- ITS FALSE NEIGHBOUR: 'it returns false'. Refute it at one input. -/
def sickOneWrong : ChangeSpec := { name := "sickOne", fn := fun _ => fun
  | [d1, d2, d3] => { results := [.lit (.bool false)], args := [d1, d2, d3] }
  | _ => none }
def SickOneWrongFalsely : Prop := sickOneRow.holds Tryz.pinned (OpenSpec.ofChange sickOneWrong)

/- THE SECOND FORM. 'bulk': how many values and letters a reading holds, each counted each time it is reached (what is shared counts as often as it is met; a slice's spare places count too). A statement '..UptoSaid' is the law's where the arguments, and the package variables that the reading takes, are together of bulk at most 1048576: NARROWER than '..Said'. Prove '..Said' where nothing that the law and all that it calls make is longer than what came in: it says more and counts as full. Else prove '..UptoSaid'. A law counts once. -/
mutual
def uptoBulk {H : Type} : DataW H → Nat
  | .lit (.string bytes) => bytes.length + 1
  | .lit _ => 1
  | .nil => 1
  | .ptr d => uptoBulk d + 1
  | .slice elems spare => uptoBulkAll elems + uptoBulkAll spare + 1
  | .agg parts => uptoBulkAll parts + 1
  | .iface _ d => uptoBulk d + 1
  | .map entries => uptoBulkEntries entries + 1
  | .held _ => 1
def uptoBulkAll {H : Type} : List (DataW H) → Nat
  | [] => 0
  | d :: r => uptoBulk d + uptoBulkAll r
def uptoBulkEntries {H : Type} : List (Lit × DataW H) → Nat
  | [] => 0
  | x :: r => uptoBulkEntry x + uptoBulkEntries r
def uptoBulkEntry {H : Type} : Lit × DataW H → Nat
  | (.string bytes, d) => bytes.length + uptoBulk d + 1
  | (_, d) => uptoBulk d + 1
 end
def uptoSmall : (H : Type) → List (DataW H) → Bool := fun _ ds => decide (uptoBulkAll ds ≤ 1048576)
def OpenSpec.upto (s : _root_.Go.ChangeSpec) : _root_.Go.OpenSpec := { _root_.Go.OpenSpec.ofChange s with cond := some uptoSmall }

/-- 'posserlaw06.SickCarries', WHERE WHAT IT READS IS OF BULK AT MOST 1048576: true; the input reads as it did. -/
def sickCarriesUptoRow : OpenClaim := { program := "ythnfcdkiaihfcaagreat", sum := "e34ef5a6c900d3e9b7776f81bbec62c85a7945113bc78e4cc311417f83e5a1c5", func := "posser/posserlaw06.SickCarries", spec := "sickCarries", unfollowed := true, recurses := true, plainKeys := false, apart := false, narrowed := true }
def SickCarriesUptoSaid : Prop := sickCarriesUptoRow.holds Tryz.pinned (OpenSpec.upto sickCarriesSpec)

/-- 'posserlaw06.SickLeaves', WHERE WHAT IT READS IS OF BULK AT MOST 1048576: true; the input reads as it did. -/
def sickLeavesUptoRow : OpenClaim := { program := "ythnfcdkiaihfcaagreat", sum := "e34ef5a6c900d3e9b7776f81bbec62c85a7945113bc78e4cc311417f83e5a1c5", func := "posser/posserlaw06.SickLeaves", spec := "sickLeaves", unfollowed := true, recurses := true, plainKeys := false, apart := false, narrowed := true }
def SickLeavesUptoSaid : Prop := sickLeavesUptoRow.holds Tryz.pinned (OpenSpec.upto sickLeavesSpec)

/-- 'posserlaw06.SickTouched', WHERE WHAT IT READS IS OF BULK AT MOST 1048576: true; the input reads as it did. -/
def sickTouchedUptoRow : OpenClaim := { program := "ythnfcdkiaihfcaagreat", sum := "e34ef5a6c900d3e9b7776f81bbec62c85a7945113bc78e4cc311417f83e5a1c5", func := "posser/posserlaw06.SickTouched", spec := "sickTouched", unfollowed := true, recurses := true, plainKeys := false, apart := false, narrowed := true }
def SickTouchedUptoSaid : Prop := sickTouchedUptoRow.holds Tryz.pinned (OpenSpec.upto sickTouchedSpec)

/-- 'posserlaw06.SickMore', WHERE WHAT IT READS IS OF BULK AT MOST 1048576: true; the input reads as it did. -/
def sickMoreUptoRow : OpenClaim := { program := "ythnfcdkiaihfcaagreat", sum := "e34ef5a6c900d3e9b7776f81bbec62c85a7945113bc78e4cc311417f83e5a1c5", func := "posser/posserlaw06.SickMore", spec := "sickMore", unfollowed := true, recurses := true, plainKeys := false, apart := false, narrowed := true }
def SickMoreUptoSaid : Prop := sickMoreUptoRow.holds Tryz.pinned (OpenSpec.upto sickMoreSpec)

/-- 'possertop.TopBoiled', WHERE WHAT IT READS IS OF BULK AT MOST 1048576: true; the input reads as it did. -/
def topBoiledUptoRow : OpenClaim := { program := "ythnfcdkiaihfcaagreat", sum := "e34ef5a6c900d3e9b7776f81bbec62c85a7945113bc78e4cc311417f83e5a1c5", func := "posser/possertop.TopBoiled", spec := "topBoiled", unfollowed := true, recurses := true, plainKeys := false, apart := false, narrowed := true }
def TopBoiledUptoSaid : Prop := topBoiledUptoRow.holds Tryz.pinned (OpenSpec.upto topBoiledSpec)

/-- 'posserlaw06.SickWider', WHERE WHAT IT READS IS OF BULK AT MOST 1048576: true; the input reads as it did. -/
def sickWiderUptoRow : OpenClaim := { program := "ythnfcdkiaihfcaagreat", sum := "e34ef5a6c900d3e9b7776f81bbec62c85a7945113bc78e4cc311417f83e5a1c5", func := "posser/posserlaw06.SickWider", spec := "sickWider", unfollowed := true, recurses := true, plainKeys := false, apart := false, narrowed := true }
def SickWiderUptoSaid : Prop := sickWiderUptoRow.holds Tryz.pinned (OpenSpec.upto sickWiderSpec)

/-- 'posserlaw06.SickSicker', WHERE WHAT IT READS IS OF BULK AT MOST 1048576: true; the input reads as it did. -/
def sickSickerUptoRow : OpenClaim := { program := "ythnfcdkiaihfcaagreat", sum := "e34ef5a6c900d3e9b7776f81bbec62c85a7945113bc78e4cc311417f83e5a1c5", func := "posser/posserlaw06.SickSicker", spec := "sickSicker", unfollowed := true, recurses := true, plainKeys := false, apart := false, narrowed := true }
def SickSickerUptoSaid : Prop := sickSickerUptoRow.holds Tryz.pinned (OpenSpec.upto sickSickerSpec)

/-- 'posserlaw06.SickFirst', WHERE WHAT IT READS IS OF BULK AT MOST 1048576: true; the input reads as it did. -/
def sickFirstUptoRow : OpenClaim := { program := "ythnfcdkiaihfcaagreat", sum := "e34ef5a6c900d3e9b7776f81bbec62c85a7945113bc78e4cc311417f83e5a1c5", func := "posser/posserlaw06.SickFirst", spec := "sickFirst", unfollowed := true, recurses := true, plainKeys := false, apart := false, narrowed := true }
def SickFirstUptoSaid : Prop := sickFirstUptoRow.holds Tryz.pinned (OpenSpec.upto sickFirstSpec)

/-- 'posserlaw06.SickLeft', WHERE WHAT IT READS IS OF BULK AT MOST 1048576: true; the input reads as it did. -/
def sickLeftUptoRow : OpenClaim := { program := "ythnfcdkiaihfcaagreat", sum := "e34ef5a6c900d3e9b7776f81bbec62c85a7945113bc78e4cc311417f83e5a1c5", func := "posser/posserlaw06.SickLeft", spec := "sickLeft", unfollowed := true, recurses := true, plainKeys := false, apart := false, narrowed := true }
def SickLeftUptoSaid : Prop := sickLeftUptoRow.holds Tryz.pinned (OpenSpec.upto sickLeftSpec)

/-- 'posserlaw06.SickBoils', WHERE WHAT IT READS IS OF BULK AT MOST 1048576: true; the input reads as it did. -/
def sickBoilsUptoRow : OpenClaim := { program := "ythnfcdkiaihfcaagreat", sum := "e34ef5a6c900d3e9b7776f81bbec62c85a7945113bc78e4cc311417f83e5a1c5", func := "posser/posserlaw06.SickBoils", spec := "sickBoils", unfollowed := true, recurses := true, plainKeys := false, apart := false, narrowed := true }
def SickBoilsUptoSaid : Prop := sickBoilsUptoRow.holds Tryz.pinned (OpenSpec.upto sickBoilsSpec)

/-- 'posserlaw06.SickOrders', WHERE WHAT IT READS IS OF BULK AT MOST 1048576: true; the input reads as it did. -/
def sickOrdersUptoRow : OpenClaim := { program := "ythnfcdkiaihfcaagreat", sum := "e34ef5a6c900d3e9b7776f81bbec62c85a7945113bc78e4cc311417f83e5a1c5", func := "posser/posserlaw06.SickOrders", spec := "sickOrders", unfollowed := true, recurses := true, plainKeys := false, apart := false, narrowed := true }
def SickOrdersUptoSaid : Prop := sickOrdersUptoRow.holds Tryz.pinned (OpenSpec.upto sickOrdersSpec)

/-- 'posserlaw06.SickSources', WHERE WHAT IT READS IS OF BULK AT MOST 1048576: true; the input reads as it did. -/
def sickSourcesUptoRow : OpenClaim := { program := "ythnfcdkiaihfcaagreat", sum := "e34ef5a6c900d3e9b7776f81bbec62c85a7945113bc78e4cc311417f83e5a1c5", func := "posser/posserlaw06.SickSources", spec := "sickSources", unfollowed := true, recurses := true, plainKeys := false, apart := false, narrowed := true }
def SickSourcesUptoSaid : Prop := sickSourcesUptoRow.holds Tryz.pinned (OpenSpec.upto sickSourcesSpec)

/-- 'posserlaw06.SickPlays', WHERE WHAT IT READS IS OF BULK AT MOST 1048576: true; the input reads as it did. -/
def sickPlaysUptoRow : OpenClaim := { program := "ythnfcdkiaihfcaagreat", sum := "e34ef5a6c900d3e9b7776f81bbec62c85a7945113bc78e4cc311417f83e5a1c5", func := "posser/posserlaw06.SickPlays", spec := "sickPlays", unfollowed := true, recurses := true, plainKeys := false, apart := false, narrowed := true }
def SickPlaysUptoSaid : Prop := sickPlaysUptoRow.holds Tryz.pinned (OpenSpec.upto sickPlaysSpec)

/-- 'posserlaw06.SickTruth', WHERE WHAT IT READS IS OF BULK AT MOST 1048576: true; the input reads as it did. -/
def sickTruthUptoRow : OpenClaim := { program := "ythnfcdkiaihfcaagreat", sum := "e34ef5a6c900d3e9b7776f81bbec62c85a7945113bc78e4cc311417f83e5a1c5", func := "posser/posserlaw06.SickTruth", spec := "sickTruth", unfollowed := true, recurses := true, plainKeys := false, apart := false, narrowed := true }
def SickTruthUptoSaid : Prop := sickTruthUptoRow.holds Tryz.pinned (OpenSpec.upto sickTruthSpec)

/-- 'posserlaw06.SickNoFewer', WHERE WHAT IT READS IS OF BULK AT MOST 1048576: true; the input reads as it did. -/
def sickNoFewerUptoRow : OpenClaim := { program := "ythnfcdkiaihfcaagreat", sum := "e34ef5a6c900d3e9b7776f81bbec62c85a7945113bc78e4cc311417f83e5a1c5", func := "posser/posserlaw06.SickNoFewer", spec := "sickNoFewer", unfollowed := true, recurses := true, plainKeys := false, apart := false, narrowed := true }
def SickNoFewerUptoSaid : Prop := sickNoFewerUptoRow.holds Tryz.pinned (OpenSpec.upto sickNoFewerSpec)

/-- 'posserlaw06.SickOne', WHERE WHAT IT READS IS OF BULK AT MOST 1048576: true; the input reads as it did. -/
def sickOneUptoRow : OpenClaim := { program := "ythnfcdkiaihfcaagreat", sum := "e34ef5a6c900d3e9b7776f81bbec62c85a7945113bc78e4cc311417f83e5a1c5", func := "posser/posserlaw06.SickOne", spec := "sickOne", unfollowed := true, recurses := true, plainKeys := false, apart := false, narrowed := true }
def SickOneUptoSaid : Prop := sickOneUptoRow.holds Tryz.pinned (OpenSpec.upto sickOneSpec)

end Rows
end Go.Proofs.YthnfcdkiaihfcaaGreat
