/- Part 18 of the proof: the tools and contracts. Conditions: none. -/
import Derived.Test.YthnfcdkiaihfcaaGreatP17
set_option linter.unusedVariables false
set_option linter.unusedSimpArgs false
namespace Go.Lift
open Go

/-- A function: how many temporaries, its results, its abstract code. -/
def fnC (P : Program) (f : FuncId) (certs : Nat → Option Cert) : Option (Nat × List ResultVar × ACode) := match P.funcs[f]? with
  | some fn => match fn.body with
    | some c => if entersB P f && fn.results.toList.all (fun r => decide (resTmp r < fn.ntmps)) then (tr P fn.ntmps certs true c).map fun ac => (fn.ntmps, fn.results.toList, ac) else none
    | none => none
  | none => none

theorem fn_of {P : Program} (hm : P.follows .mixedOrders = true) {certs : Nat → Option Cert} {f : FuncId} {N : Nat} {rs : List ResultVar} {ac : ACode} {xs : List AV} {H : AHeap} {R : AV → AHeap → Prop}
    (hf : fnC P f certs = some (N, rs, ac)) (hl : xs.length ≤ N) (h : aexec P N ac (fin P rs N R) (ienv xs) H) : ACalls P f xs H R := by
  unfold fnC at hf
  split at hf
  · rename_i fn hfn
    split at hf
    · rename_i c hc
      split at hf
      · rename_i hh
        rw [Option.map_eq_some_iff] at hf
        obtain ⟨ac', ht, he⟩ := hf
        simp only [Prod.mk.injEq] at he
        obtain ⟨rfl, rfl, rfl⟩ := he
        rw [Bool.and_eq_true] at hh
        exact calls_of hm certs hfn hc hh.1 rfl hl hh.2 ht h
      · cases hf
    · cases hf
  · cases hf

/-- The range over a function in a piece of code. -/
def rangeP : Code → Option (Code × Code)
  | .seq a b => (rangeP a).orElse fun _ => rangeP b
  | .cond _ a b => (rangeP a).orElse fun _ => rangeP b
  | .loop a => rangeP a
  | .block _ a => rangeP a
  | .scope a => rangeP a
  | .rangeFunc _ _ a b => some (a, b)
  | _ => none
def rangeF (fn : Func) : Code × Code := match fn.body with
  | some c => (rangeP c).getD (.skip, .skip)
  | none => (.skip, .skip)
end Go.Lift

