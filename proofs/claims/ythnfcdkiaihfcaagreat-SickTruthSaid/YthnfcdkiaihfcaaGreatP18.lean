/- Part 18 of the proof: the tools and contracts. Conditions: none. -/
import Derived.Test.YthnfcdkiaihfcaaGreatP17
set_option linter.unusedVariables false
set_option linter.unusedSimpArgs false
namespace Go.Lift
open Go

/-- A function: how many temporaries, its results, its abstract code. -/
def fnC (P : Program) (f : FuncId) (certs : Nat → Option Cert) : Option (Nat × List ResultVar × ACode) := match P.funcs[f]? with
  | some fn => match fn.body with
    | some c => if entersB P f && fn.results.toList.all (fun r => decide (resTmp r < fn.ntmps)) then (tr P fn.ntmps certs true c).map fun ac => (fn.ntmps, fn.results.toList, ac) else none
    | none => none
  | none => none

theorem fn_of {P : Program} (hm : P.follows .mixedOrders = true) {certs : Nat → Option Cert} {f : FuncId} {N : Nat} {rs : List ResultVar} {ac : ACode} {xs : List AV} {H : AHeap} {R : AV → AHeap → Prop}
    (hf : fnC P f certs = some (N, rs, ac)) (hl : xs.length ≤ N) (h : aexec P N ac (fin P rs N R) (ienv xs) H) : ACalls P f xs H R := by
  unfold fnC at hf
  split at hf
  · rename_i fn hfn
    split at hf
    · rename_i c hc
      split at hf
      · rename_i hh
        rw [Option.map_eq_some_iff] at hf
        obtain ⟨ac', ht, he⟩ := hf
        simp only [Prod.mk.injEq] at he
        obtain ⟨rfl, rfl, rfl⟩ := he
        rw [Bool.and_eq_true] at hh
        exact calls_of hm certs hfn hc hh.1 rfl hl hh.2 ht h
      · cases hf
    · cases hf
  · cases hf

abbrev kI (n : Int) : Opd := .c (.int .i64 n)
abbrev kT : Opd := .c (.bool true)
abbrev kF : Opd := .c (.bool false)
abbrev kE : Opd := .c .emp
abbrev z9 : List AV := [.emp, .emp, .int .i64 0, .emp, .int .i64 0, .int .i64 0, .emp, .emp, .emp]
abbrev lF : Tag := .load false 1
abbrev lT2 : Tag := .load true 2
abbrev lT3 : Tag := .load true 3
abbrev lT4 : Tag := .load true 4
abbrev lT7 : Tag := .load true 7
abbrev lT9 : Tag := .load true 9
abbrev fA0 : Tag := .fieldaddr 0
abbrev fA1 : Tag := .fieldaddr 1
abbrev fA2 : Tag := .fieldaddr 2
abbrev fA3 : Tag := .fieldaddr 3
abbrev fA4 : Tag := .fieldaddr 4
abbrev fA5 : Tag := .fieldaddr 5
abbrev fA6 : Tag := .fieldaddr 6
abbrev fA7 : Tag := .fieldaddr 7
abbrev fA8 : Tag := .fieldaddr 8
abbrev fA9 : Tag := .fieldaddr 9
abbrev x0 : Tag := .extract 0
abbrev x1 : Tag := .extract 1
abbrev bE : Tag := .bin .eql
abbrev bN : Tag := .bin .neq
abbrev bA : Tag := .bin .add
abbrev bL : Tag := .bin .lss
abbrev oA (d : Nat) (t : Tag) (xs : List Opd) : AOp := ⟨some d, t, xs, none⟩
abbrev oG (d : Nat) (t : Tag) (xs : List Opd) (g : Nat) (b : Bool) : AOp := ⟨some d, t, xs, some (g, b)⟩
abbrev oZ (t : Tag) (xs : List Opd) : AOp := ⟨none, t, xs, none⟩
abbrev uM (d a : Nat) : AOp := ⟨some d, .mov, [.t a], none⟩
abbrev gM (d a g : Nat) (b : Bool) : AOp := ⟨some d, .mov, [.t a], some (g, b)⟩
abbrev uO (d : Nat) (t : Tag) (a : Nat) : AOp := ⟨some d, t, [.t a], none⟩
abbrev gO (d : Nat) (t : Tag) (a g : Nat) (b : Bool) : AOp := ⟨some d, t, [.t a], some (g, b)⟩
abbrev uB (d : Nat) (t : Tag) (a c : Nat) : AOp := ⟨some d, t, [.t a, .t c], none⟩
abbrev gB (d : Nat) (t : Tag) (a c g : Nat) (b : Bool) : AOp := ⟨some d, t, [.t a, .t c], some (g, b)⟩
/-- The range over a function in a piece of code. -/
def rangeP : Code → Option (Code × Code)
  | .seq a b => (rangeP a).orElse fun _ => rangeP b
  | .cond _ a b => (rangeP a).orElse fun _ => rangeP b
  | .loop a => rangeP a
  | .block _ a => rangeP a
  | .scope a => rangeP a
  | .rangeFunc _ _ a b => some (a, b)
  | _ => none
def rangeF (fn : Func) : Code × Code := match fn.body with
  | some c => (rangeP c).getD (.skip, .skip)
  | none => (.skip, .skip)
end Go.Lift

