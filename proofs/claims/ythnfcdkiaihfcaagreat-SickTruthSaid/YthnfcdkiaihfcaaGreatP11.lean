/- Part 11 of the proof: the tools and contracts. Conditions: none. -/
import Derived.Test.YthnfcdkiaihfcaaGreatP10
set_option linter.unusedVariables false
set_option linter.unusedSimpArgs false
namespace Go.Lift
open Go

def markOf (r : Nat) : Deferred := { target := .collected r, args := #[] }
def defs : AV → List Deferred
  | .ptr r _ => [markOf r]
  | _ => []

/-- A frame's state: its N temporaries; at N: the mark of a range over a function, if there was one. -/
structure StRel (N : Nat) (H : AHeap) (w : World) (env : Env) (a : Act) : Prop where
  size : a.tmps.size = N
  rep : ∀ t, t < N → Rep H w (a.tmps.getD t undef) (env t)
  defers : a.defers = defs (env N)

theorem StRel.mono {N : Nat} {H : AHeap} {w : World} {H' : AHeap} {w' : World} {env : Env} {a : Act} (e : Evolve H w H' w') (h : StRel N H w env a) : StRel N H' w' env a :=
  ⟨h.size, fun t ht => (h.rep t ht).mono e, h.defers⟩

def updO (env : Env) : Option Nat → AV → Env
  | none, _ => env
  | some d, v => upd env d v

theorem put_getD_ne (a : Act) (dst : Option Tmp) (v : Value) (t : Nat) (h : dst ≠ some t) : (a.put dst v).tmps.getD t undef = a.tmps.getD t undef := by
  cases dst with
  | none => rfl
  | some d =>
    simp only [Act.put]
    rw [Array.getD_eq_getD_getElem?, Array.getD_eq_getD_getElem?, Array.getElem?_setIfInBounds]
    rw [if_neg (fun e => h (by rw [e]))]
theorem put_getD_eq (a : Act) (d : Tmp) (v : Value) (h : d < a.tmps.size) : (a.put (some d) v).tmps.getD d undef = v := by
  simp only [Act.put]
  rw [Array.getD_eq_getD_getElem?, Array.getElem?_setIfInBounds]
  simp [h]
theorem put_size (a : Act) (dst : Option Tmp) (v : Value) : (a.put dst v).tmps.size = a.tmps.size := by cases dst <;> simp [Act.put]
theorem put_defers (a : Act) (dst : Option Tmp) (v : Value) : (a.put dst v).defers = a.defers := by cases dst <;> rfl

theorem StRel.put {N : Nat} {H : AHeap} {w : World} {env : Env} {a : Act} (h : StRel N H w env a) {dst : Option Nat} {v : Value} {x : AV} (hd : ∀ d, dst = some d → d < N) (hv : Rep H w v x) : StRel N H w (updO env dst x) (a.put dst v) := by
  refine ⟨by rw [put_size]; exact h.size, fun t ht => ?_, ?_⟩
  · cases dst with
    | none => exact h.rep t ht
    | some d =>
      simp only [updO]
      by_cases he : t = d
      · subst he
        rw [upd_same, put_getD_eq a t v (by rw [h.size]; exact ht)]; exact hv
      · rw [upd_ne _ _ he, put_getD_ne a (some d) v t (fun e => he (by cases e; rfl))]; exact h.rep t ht
  · rw [put_defers, h.defers]
    cases dst with
    | none => rfl
    | some d =>
      have h1 := hd d rfl
      simp only [updO]; rw [upd_ne _ _ (show N ≠ d by omega)]

section
variable {P : Program} {H : AHeap} {w : World} {R : AV → AHeap → Prop}

theorem wf_fn (ro : Option Nat) (f : FuncId) : (WF ro).fn f := trivial
theorem wf_room (ro : Option Nat) (n : Nat) : (WF ro).room n := fun d h => by cases h
theorem calls_ro {ro : Option Nat} {f : FuncId} {vs : Array Value} {Q : Ending → World → Prop} {n m : Nat} (h : CallsIn (WF none) n P f vs w Q) : CallsIn (WF ro) m P f vs w Q :=
  ⟨trivial, fun cs _ => h.2 cs (wf_room _ _)⟩
theorem round_ro {ro : Option Nat} {l f : Nat} {tmps : Array Value} {assign body : Code} {Q : Ending → World → Prop} {n m : Nat} (h : RoundIn (WF none) n P l f tmps assign body w Q) : RoundIn (WF ro) m P l f tmps assign body w Q :=
  ⟨trivial, fun c cs _ => h.2 c cs (wf_room _ _)⟩

theorem not_defer {o : Oper} {q : Tag × List Opd} (h : trOp P o = some q) : ∀ c, o.op ≠ .defer c := by
  intro c hc
  simp only [trOp, hc] at h
  cases h

theorem callFunc_run {f : FuncId} (h : entersB P f = true) (vs : Array Value) : (callFunc f vs).run P w = .ok (.enter f vs) w := by
  unfold entersB at h
  split at h
  · rename_i fn hf
    simp only [Bool.and_eq_true, bne_iff_ne] at h
    have hbody : ¬ fn.body = none := by
      intro hb; simp [hb] at h
    simp [callFunc, program, Sem.run, hf, h.1, hbody]
  · cases h

/-- What an operation's run comes to, in a frame. -/
def OpPost (H : AHeap) (w : World) (R : AV → AHeap → Prop) (dst : Option Tmp) (a : Act) (a' : Act) (w' : World) : Prop := ∃ v, a' = a.put dst v ∧ Post H w R v w'

theorem enter_ok {ro : Option Nat} {o : Oper} {a : Act} {f : FuncId} {vs : Array Value} {xs : List AV} (hH : HRel H w) (hd : ∀ c, o.op ≠ .defer c) (hrun : (execOp a.eval o).run P w = .ok (.enter f vs) w) (hv : Reps H w vs xs) (hR : ACalls P f xs H R) :
    o.wpIn (WF ro) 0 P a w (OpPost H w R o.dst a) (fun _ _ _ => False) := by
  refine ⟨fun f _ => trivial, ?_⟩
  rw [Oper.semAt_eq _ _ _ hd, hrun, Oper.uponIn_enter]
  refine ⟨fun h => (by cases h), (calls_ro (hR.2 w vs hH hv)).mono ?_⟩
  rintro e w' ⟨v, rfl, hp⟩
  exact ⟨v, rfl, hp⟩

theorem trOp_call {o : Oper} {tag : Tag} {xs : List Opd} (ht : trOp P o = some (tag, xs)) (hc : tag.isCall = true) : ∃ f args argTypes, o.op = .call ⟨.value f, args, argTypes⟩ := by
  obtain ⟨dst, op, type, pos, after, guard⟩ := o
  cases op with
  | call c =>
    obtain ⟨callee, args, argTypes⟩ := c
    cases callee with
    | value f => exact ⟨f, args, argTypes, rfl⟩
    | invoke r m => simp only [trOp] at ht; cases ht
    | builtin b =>
      exfalso
      cases b <;> simp only [trOp] at ht <;> (try (cases ht; done)) <;> (repeat' split at ht) <;> (try (cases ht; done)) <;> cases ht <;> cases hc
  | unOp op t x => cases op <;> simp only [trOp] at ht <;> cases ht; cases hc
  | makeMap t r => cases r <;> simp only [trOp] at ht <;> cases ht; cases hc
  | lookup t m k ok =>
    cases ok <;> simp only [trOp] at ht <;> (try (cases ht; done))
    (repeat' split at ht) <;> (try (cases ht; done)) <;> cases ht <;> cases hc
  | move x => simp only [trOp] at ht; cases ht; cases hc
  | assign x => simp only [trOp] at ht; cases ht; cases hc
  | pick c a b => simp only [trOp] at ht; cases ht; cases hc
  | box t x => simp only [trOp] at ht; cases ht; cases hc
  | nilCheck x => simp only [trOp] at ht; cases ht; cases hc
  | extract x i => simp only [trOp] at ht; cases ht; cases hc
  | makeFunc fn first cap => simp only [trOp] at ht; cases ht; cases hc
  | entryStore t m s v => simp only [trOp] at ht; cases ht; cases hc
  | _ => simp only [trOp] at ht <;> (repeat' split at ht) <;> (try (cases ht; done)) <;> cases ht <;> cases hc

theorem op_sound {ro : Option Nat} {o : Oper} {a : Act} {env : Env} {tag : Tag} {xs : List Opd} (ht : trOp P o = some (tag, xs)) (hR : aopV P tag (xs.map (ev env)) H R) (hH : HRel H w)
    (hE : ∀ t, Rep H w (a.tmps.getD t undef) (env t)) : o.wpIn (WF ro) 0 P a w (OpPost H w R o.dst a) (fun _ _ _ => False) := by
  have hρ : ∀ x, Rep H w (a.eval x) (ev env (opd x)) := by
    intro x
    cases x with
    | tmp t => exact hE t
    | const v => exact avC_rep H w v
    | global g => exact .any _
    | func f => exact .func _ _ _ _ _ rfl rfl (fun i x h => by simp at h) (fun i x h => by simp at h)
  have hd := not_defer ht
  by_cases hc : tag.isCall = false
  · rcases eff_sound ht hc hR hH hρ (fun _ => rfl) with ⟨v, w', h1, h2⟩ | ⟨w', h1, h2⟩
    · refine ⟨fun f _ => trivial, ?_⟩
      rw [Oper.semAt_eq _ _ _ hd, h1, Oper.uponIn_value]
      exact ⟨v, rfl, h2⟩
    · refine ⟨fun f _ => trivial, ?_⟩
      rw [Oper.semAt_eq _ _ _ hd, h1, Oper.uponIn_skip]
      exact ⟨undef, rfl, h2⟩
  · have hargs : ∀ l : List Operand, Reps H w (l.map a.eval).toArray ((l.map opd).map (ev env)) := fun l => rep_arr hρ l
    obtain ⟨f, args, argTypes, hop⟩ := trOp_call ht (by cases h : tag.isCall <;> simp_all)
    obtain ⟨dst, op, type, pos, after, guard⟩ := o
    simp only at hop
    subst hop
    · have hval : ∀ x, (∀ g, x ≠ Operand.func g) → trOp P ⟨dst, .call ⟨.value x, args, argTypes⟩, type, pos, after, guard⟩ = some (.callv, opd x :: args.toList.map opd) := by
        intro x hx
        cases x <;> first | rfl | exact absurd rfl (hx _)
      by_cases hf : ∃ g, f = .func g
      · obtain ⟨g, rfl⟩ := hf
        simp only [trOp] at ht
        split at ht
        · rename_i hen
          cases ht
          refine enter_ok hH hd (f := g) (vs := (args.toList.map a.eval).toArray) ?_ (hargs args.toList) hR
          have := callFunc_run (w := w) hen (args.map a.eval)
          have e1 : (args.toList.map a.eval).toArray = args.map a.eval := by apply Array.ext'; simp
          rw [e1]
          simp [execOp, resolve, Deferred.ofValue, Act.eval, invoke, this]
        · cases ht
      · have ht' := hval f (fun g e => hf ⟨g, e⟩)
        rw [ht'] at ht
        cases ht
        simp only [List.map_cons, aopV] at hR
        have hx := hρ f
        generalize hvf : a.eval f = vf at hx
        generalize ev env (opd f) = af at hx hR
        cases hx <;> (try (exact hR.elim))
        rename_i fn first cap af ac hf1 hc1 hx1 hy1
        have e1 : (args.toList.map a.eval).toArray = args.map a.eval := by apply Array.ext'; simp
        cases fn with
        | func g =>
          simp only at hR
          refine enter_ok hH hd (f := g) (vs := first ++ (args.toList.map a.eval).toArray ++ cap) ?_ ?_ hR
          · have := callFunc_run (w := w) hR.1 (first ++ args.map a.eval ++ cap)
            rw [e1]
            rw [Array.append_assoc] at this
            simp [execOp, resolve, hvf, Deferred.ofValue, invoke, this]
          · obtain ⟨h1, h2⟩ := hargs args.toList
            refine ⟨by simp only [Array.size_append, List.length_append]; omega, fun i x hi => ?_⟩
            rw [getD_toList, List.getD_eq_getElem?_getD]
            simp only [Array.toList_append]
            by_cases hi1 : i < af.length
            · rw [List.append_assoc, List.getElem?_append_left hi1] at hi
              rw [List.append_assoc, List.getElem?_append_left (by simpa [hf1] using hi1)]
              have := hx1 i x hi
              rwa [getD_toList, List.getD_eq_getElem?_getD] at this
            · rw [List.append_assoc, List.getElem?_append_right (by omega)] at hi
              rw [List.append_assoc, List.getElem?_append_right (by simp; omega)]
              simp only [Array.length_toList, hf1]
              by_cases hi2 : i - af.length < ((args.toList.map opd).map (ev env)).length
              · rw [List.getElem?_append_left hi2] at hi
                rw [List.getElem?_append_left (by simp at hi2 ⊢; omega)]
                have := h2 _ x hi
                rwa [getD_toList, List.getD_eq_getElem?_getD] at this
              · rw [List.getElem?_append_right (by omega)] at hi
                rw [List.getElem?_append_right (by simp at hi2 ⊢; omega)]
                have := hy1 _ x hi
                rw [getD_toList, List.getD_eq_getElem?_getD] at this
                simpa using this
        | yield l =>
          cases af <;> cases ac <;> simp only at hR
          simp only [List.length_nil] at hf1 hc1
          obtain ⟨f', tmps, assign, body, hy, hround⟩ := hR w (args.toList.map a.eval).toArray hH (hargs args.toList)
          refine ⟨fun f _ => trivial, ?_⟩
          have hfirst : first = #[] := Array.eq_empty_of_size_eq_zero hf1
          have hcap : cap = #[] := Array.eq_empty_of_size_eq_zero hc1
          subst hfirst; subst hcap
          rw [Oper.semAt_eq _ _ _ hd]
          have hrun : (execOp a.eval ⟨dst, .call ⟨.value f, args, argTypes⟩, type, pos, after, guard⟩).run P w = .ok (.round l f' tmps assign body) w := by
            rw [e1] at hy
            simp [execOp, resolve, hvf, Deferred.ofValue, invoke, hy]
          rw [hrun, Oper.uponIn_round]
          refine ⟨fun h => (by cases h), (round_ro hround).mono ?_⟩
          rintro e w' ⟨v, rfl, hp⟩
          exact ⟨v, rfl, hp⟩
        | _ => simp only at hR
end
end Go.Lift

