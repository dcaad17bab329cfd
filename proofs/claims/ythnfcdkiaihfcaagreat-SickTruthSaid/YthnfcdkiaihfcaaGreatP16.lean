/- Part 16 of the proof: the tools and contracts. Conditions: none. -/
import Derived.Test.YthnfcdkiaihfcaaGreatP15
set_option linter.unusedVariables false
set_option linter.unusedSimpArgs false
namespace Go.Lift
open Go

inductive AEx where
  | norm
  | exit (id : Nat)
  | ret

inductive ACode where
  | skip
  | ret
  | label
  | exit (id : Nat)
  | seq (a b : ACode)
  | cond (c : Opd) (t e : ACode)
  | loop (b : ACode)
  | block (id : Nat) (b : ACode)
  | ops (l : List AOp)
  | draw (pre : List (Bool × AOp)) (tl : ATr)
  | range (g : Opd) (ps : Array Tmp) (ga gb : Code)

def aseq (Q K : AEx → Env → AHeap → Prop) : AEx → Env → AHeap → Prop
  | .norm, env, H => K .norm env H
  | ex, env, H => Q ex env H
def ablock (id : Nat) (Q : AEx → Env → AHeap → Prop) : AEx → Env → AHeap → Prop
  | .exit id', env, H => if id' = id then Q .norm env H else Q (.exit id') env H
  | ex, env, H => Q ex env H
def aloop (Q : AEx → Env → AHeap → Prop) (I : Nat → Env → AHeap → Prop) (k : Nat) : AEx → Env → AHeap → Prop
  | .norm, env, H => ∃ k', k' < k ∧ I k' env H
  | ex, env, H => Q ex env H

/-- What a loop's pending jump is. -/
def pendV : Option Code → Option AEx
  | none => some .norm
  | some .ret => some .ret
  | some (.exit id) => some (.exit id)
  | _ => none

/-- A range over a function: the call of the function, with the loop's record laid. -/
def arange (P : Program) (N : Nat) (g : Opd) (ps : Array Tmp) (ga gb : Code) (Q : AEx → Env → AHeap → Prop) (env : Env) (H : AHeap) : Prop :=
  env N = .any ∧ ∃ gf fs cs, ev env g = .func (.func gf) fs cs ∧ ∀ r l, H r = none → H l = none → l ≠ r →
    ACalls P gf (fs ++ [.func (.yield l) [] []] ++ cs) (updH (updH H r .deferd) l (.loop .ready none N env ps ga gb r)) fun _ H2 =>
      ∃ st pend env' ps' ga' gb' d, H2 l = some (.loop st pend N env' ps' ga' gb' d) ∧ st ≠ .busy ∧ ∃ ex, pendV pend = some ex ∧ Q ex (upd env N (.ptr r 0)) (delH H2 l)

def aexec (P : Program) (N : Nat) : ACode → (AEx → Env → AHeap → Prop) → Env → AHeap → Prop
  | .skip, Q, env, H => Q .norm env H
  | .label, Q, env, H => Q .norm env H
  | .ret, Q, env, H => Q .ret env H
  | .exit id, Q, env, H => Q (.exit id) env H
  | .seq a b, Q, env, H => aexec P N a (aseq Q fun _ env' H' => aexec P N b Q env' H') env H
  | .cond c t e, Q, env, H => ∃ b, ev env c = .bool b ∧ (b = true → aexec P N t Q env H) ∧ (b = false → aexec P N e Q env H)
  | .loop b, Q, env, H => ∃ I : Nat → Env → AHeap → Prop, (∃ k, I k env H) ∧ ∀ k env H, I k env H → aexec P N b (aloop Q I k) env H
  | .block id b, Q, env, H => aexec P N b (ablock id Q) env H
  | .ops l, Q, env, H => aops P l (Q .norm) env H
  | .draw pre tl, Q, env, H => adraw P pre tl (Q .norm) env H
  | .range g ps ga gb, Q, env, H => arange P N g ps ga gb Q env H

def tr (P : Program) (N : Nat) (certs : Nat → Option Cert) (rng : Bool) : Code → Option ACode
  | .skip => some .skip
  | .ret => some .ret
  | .label _ => some .label
  | .exit id => some (.exit id)
  | .seq a b => match tr P N certs rng a, tr P N certs rng b with
    | some x, some y => some (.seq x y)
    | _, _ => none
  | .cond c t e => match tr P N certs rng t, tr P N certs rng e with
    | some x, some y => if (opTmps [opd c]).all (fun t => decide (t < N)) then some (.cond (opd c) x y) else none
    | _, _ => none
  | .loop b => (tr P N certs rng b).map .loop
  | .block id b => (tr P N certs rng b).map (.block id)
  | .scope b => tr P N certs rng b
  | .region _ ops false => (trOps P N ops).map .ops
  | .region id ops true => match certs id with
    | some c => (trDraw P N ops c).map fun p => .draw p.1 p.2
    | none => none
  | .rangeFunc g ps assign body => if rng && (opTmps [opd g]).all (fun t => decide (t < N)) then some (.range (opd g) ps assign body) else none
  | _ => none

section
variable {P : Program} {b : Frame} {a : Act} {k : List Item} {cs : List Frame} {w : World}
theorem stepR_scope {c : Code} : step P (lone (b.atR a (.code (.scope c) :: k)) cs w) = .next (lone (b.atR a (.code c :: .inScope c :: k)) cs w) :=
  step_lone_go (by simp [stepG, stepG.exec, Frame.atR])
theorem stepR_inScope {c : Code} : step P (lone (b.atR a (.inScope c :: k)) cs w) = .next (lone (b.atR a k) cs w) :=
  step_lone_go (by simp [stepG, stepG.exec, Frame.atR])
end
theorem wpIn_scope' {F : Fence} {n : Nat} {P : Program} {Q : Exit → Act → World → Prop} {a : Act} {w : World} {c : Code} (h : c.wpIn F n P Q a w) (hg : ∀ l a w, ¬ Q (.goto l) a w) : (Code.scope c).wpIn F n P Q a w := by
  intro b k cs hro hb hr
  have h0 : (lone (b.atR a (.code (.scope c) :: k)) cs w).fenced P F := fenced_calm hb hr rfl
  obtain ⟨e, a₁, w₁, hq, harr⟩ := h b (.inScope c :: k) cs hro hb hr
  cases e with
  | normal => exact ⟨.normal, a₁, w₁, hq, .head h0 stepR_scope (StepsIn.trans harr (.one (fenced_calm hb hr rfl) stepR_inScope))⟩
  | exit id' =>
    have hx : exitTo id' (.inScope c :: k) = exitTo id' k := by simp [exitTo]
    exact ⟨.exit id', a₁, w₁, hq, fun k' hk => .head h0 stepR_scope (harr.1 k' (by rw [hx]; exact hk)),
      fun hr' hk => let ⟨k₁, h1, h2⟩ := harr.2 hr' (by rw [hx]; exact hk); ⟨k₁, h1, .head h0 stepR_scope h2⟩⟩
  | goto l => exact absurd hq (hg l a₁ w₁)
  | ret => exact ⟨_, a₁, w₁, hq, .of_steps (.one h0 stepR_scope) harr⟩
  | panic ch => exact ⟨_, a₁, w₁, hq, .of_steps (.one h0 stepR_scope) harr⟩
  | outgrown => exact ⟨_, a₁, w₁, hq, .of_steps (.one h0 stepR_scope) harr⟩

/-- What is left behind a piece of code. -/
def QR (N : Nat) (H : AHeap) (w : World) (Q : AEx → Env → AHeap → Prop) : Exit → Act → World → Prop
  | .normal, a, w' => StepPost N H w (Q .norm) a w'
  | .exit id, a, w' => StepPost N H w (Q (.exit id)) a w'
  | .ret, a, w' => StepPost N H w (Q .ret) a w'
  | _, _, _ => False

section
variable {P : Program} {N : Nat}

theorem QR.mono {H0 : AHeap} {w0 : World} {H : AHeap} {w : World} {Q Q' : AEx → Env → AHeap → Prop} (hQ : ∀ ex env H, Q ex env H → Q' ex env H) (e : Evolve H0 w0 H w) : ∀ ex a w', QR N H w Q ex a w' → QR N H0 w0 Q' ex a w'
  | .normal, a, w', ⟨env, H', h1, h2, h3, h4⟩ => ⟨env, H', hQ _ _ _ h1, h2, h3, e.trans h4⟩
  | .exit id, a, w', ⟨env, H', h1, h2, h3, h4⟩ => ⟨env, H', hQ _ _ _ h1, h2, h3, e.trans h4⟩
  | .ret, a, w', ⟨env, H', h1, h2, h3, h4⟩ => ⟨env, H', hQ _ _ _ h1, h2, h3, e.trans h4⟩
  | .goto _, _, _, h => h.elim
  | .panic _, _, _, h => h.elim
  | .outgrown, _, _, h => h.elim

theorem least {p : Nat → Prop} : ∀ k, p k → ∃ m, p m ∧ ∀ j, p j → m ≤ j := by
  intro k
  induction k using Nat.strongRecOn with
  | _ k ih =>
    intro hk
    by_cases h : ∃ j, j < k ∧ p j
    · obtain ⟨j, hj, hp⟩ := h; exact ih j hj hp
    · exact ⟨k, hk, fun j hj => by
        rcases Nat.lt_or_ge j k with hlt | hge
        · exact absurd ⟨j, hlt, hj⟩ h
        · exact hge⟩

theorem eval_rep {H : AHeap} {w : World} {env : Env} {a : Act} {x : Operand} (hS : StRel N H w env a) (hx : ∀ t ∈ opTmps [opd x], t < N) : Rep H w (a.eval x) (ev env (opd x)) := by
  cases x with
  | tmp t => exact hS.rep t (hx t (by simp [opd, opTmps]))
  | const v => exact avC_rep H w v
  | global g => exact .any _
  | func f => exact .func _ _ _ _ _ rfl rfl (fun i x h => by simp at h) (fun i x h => by simp at h)

theorem post_rangeFunc {ro : Option Nat} {g : Operand} {ps : Array Tmp} {ga gb : Code} {Q : AEx → Env → AHeap → Prop} {env : Env} {H : AHeap} {a : Act} {w : World} (hro : ro = none) (hg : ∀ t ∈ opTmps [opd g], t < N)
    (h : arange P N (opd g) ps ga gb Q env H) (hH : HRel H w) (hS : StRel N H w env a) : (Code.rangeFunc g ps ga gb).wpIn (WF ro) 0 P (QR N H w Q) a w := by
  subst hro
  obtain ⟨hany, gf, fs, cs, hev, h⟩ := h
  have hge := eval_rep hS hg
  rw [hev] at hge
  have hd0 : a.defers = [] := by rw [hS.defers, hany]; rfl
  generalize hvg : a.eval g = vg at hge
  cases hge with
  | func fn first cap af ac hf hc hx hy =>
  refine wpIn_rangeFunc fun fn _ => ?_
  have hr0 := hH.none (Nat.le_refl w.heap.size)
  let w1 : World := (w.alloc (.deferred (some []))).alloc (.loop { state := .ready, pending := none, fn, tmps := a.tmps, params := ps, assign := ga, body := gb, defers := w.heap.size })
  have hw1 : (w.alloc (.deferred (some []))).alloc (.loop { state := .ready, pending := none, fn, tmps := a.tmps, params := ps, assign := ga, body := gb, defers := w.heap.size }) = w1 := rfl
  have hg1 := WG.push w (.deferred (some []))
  have hEa : Evolve H w (updH H w.heap.size .deferd) (w.alloc (.deferred (some []))) := Evolve.new hH hg1.os hg1.tape hg1.output hg1.size hg1.keep _ _ (Nat.le_refl _)
  have hHa : HRel (updH H w.heap.size .deferd) (w.alloc (.deferred (some []))) := by
    refine hH.step hEa w.heap.size (fun x hx hlt => hg1.keep x hlt) (fun x o hx h => by rwa [updH_ne _ _ hx] at h) (fun o ho => ?_)
    rw [updH_same] at ho; cases ho
    show (w.heap.push (.deferred (some [])))[w.heap.size]? = _
    rw [Array.getElem?_push_size]
  have hsz : (w.alloc (.deferred (some []))).heap.size = w.heap.size + 1 := by simp
  have hg2 := WG.push (w.alloc (.deferred (some []))) (.loop { state := .ready, pending := none, fn, tmps := a.tmps, params := ps, assign := ga, body := gb, defers := w.heap.size })
  have hEb : Evolve (updH H w.heap.size .deferd) (w.alloc (.deferred (some []))) (updH (updH H w.heap.size .deferd) (w.heap.size + 1) (.loop .ready none N env ps ga gb w.heap.size)) w1 :=
    Evolve.new hHa hg2.os hg2.tape hg2.output hg2.size hg2.keep _ _ (by rw [hsz]; exact Nat.le_refl _)
  have hHb : HRel (updH (updH H w.heap.size .deferd) (w.heap.size + 1) (.loop .ready none N env ps ga gb w.heap.size)) w1 := by
    refine hHa.step hEb (w.heap.size + 1) (fun x hx hlt => hg2.keep x hlt) (fun x o hx h => by rwa [updH_ne _ _ hx] at h) (fun o ho => ?_)
    rw [updH_same] at ho; cases ho
    refine ⟨fn, a.tmps, ?_, hS.size, fun t ht => ((hS.rep t ht).mono hEa).mono hEb⟩
    rw [← hw1]
    show ((w.alloc (.deferred (some []))).heap.push _)[w.heap.size + 1]? = _
    rw [← hsz, Array.getElem?_push_size]
  obtain ⟨hen, hcall⟩ := h w.heap.size (w.heap.size + 1) hr0 (hH.none (by omega)) (by omega)
  have hreps : Reps (updH (updH H w.heap.size .deferd) (w.heap.size + 1) (.loop .ready none N env ps ga gb w.heap.size)) w1 (first ++ #[.func (.yield (w.heap.size + 1)) #[] #[]] ++ cap) (fs ++ [.func (.yield (w.heap.size + 1)) [] []] ++ cs) := by
    refine ⟨by simp [hf, hc]; omega, fun i x hi => ?_⟩
    rw [getD_toList, List.getD_eq_getElem?_getD]
    simp only [Array.toList_append]
    by_cases hi1 : i < fs.length
    · rw [List.append_assoc, List.getElem?_append_left hi1] at hi
      rw [List.append_assoc, List.getElem?_append_left (by simpa [hf] using hi1)]
      have := ((hx i x hi).mono hEa).mono hEb
      rwa [getD_toList, List.getD_eq_getElem?_getD] at this
    · rw [List.append_assoc, List.getElem?_append_right (by omega)] at hi
      rw [List.append_assoc, List.getElem?_append_right (by simp; omega)]
      simp only [Array.length_toList, hf]
      cases hk : i - fs.length with
      | zero =>
        rw [hk] at hi
        simp at hi
        subst hi
        exact .func _ _ _ _ _ rfl rfl (fun i x h => by simp at h) (fun i x h => by simp at h)
      | succ k =>
        rw [hk] at hi
        simp at hi
        have := ((hy k x hi).mono hEa).mono hEb
        rw [getD_toList, List.getD_eq_getElem?_getD] at this
        simpa using this
  refine ⟨w.heap.size + 1, [{ target := .collected w.heap.size, args := #[] }], w1, { target := .fn (.func gf) cap, args := first ++ #[.func (.yield (w.heap.size + 1)) #[] #[]] }, w1, gf, first ++ #[.func (.yield (w.heap.size + 1)) #[] #[]] ++ cap, w1, ?_, ?_, fun _ _ => trivial, ?_, fun h => (by cases h), ?_⟩
  · exact run_enterLoop_outer _ _ _ _ _
  · have hcst : ∀ v, a.eval (.const v) = v := fun _ => rfl
    simp [resolve, rangeCall, hvg, Deferred.ofValue, hcst]
  · simp only [invoke]; exact callFunc_run hen _
  · refine (calls_ro (ro := none) (hcall w1 _ hHb hreps)).mono ?_
    rintro e w3 ⟨v, rfl, r', H3, ⟨st, pend, env', ps', ga', gb', d, hl, hst, ex, hpend, hQ⟩, hH3, _, hE3⟩
    obtain ⟨fn3, tmps3, hw3, hsz3, hrep3⟩ := hH3 _ _ hl
    have hend := run_endLoop (P := P) hw3 hst
    refine ⟨pend, _, hend, ?_⟩
    have hEnd : Evolve H3 w3 (delH H3 (w.heap.size + 1)) (w3.putObj (w.heap.size + 1) (.loop { state := .exhausted, pending := pend, fn := fn3, tmps := tmps3, params := ps', assign := ga', body := gb', defers := d })) := by
      refine ⟨rfl, rfl, rfl, by simp [World.putObj], fun x hx hn => ?_, fun x n sz cp off q hxt ho hq => ?_⟩
      · have hxl : x ≠ w.heap.size + 1 := fun h => by subst h; rw [hl] at hn; cases hn
        exact ⟨by rw [delH_ne _ hxl]; exact hn, World.putObj_heap_other hxl⟩
      · have hxl : x ≠ w.heap.size + 1 := fun h => by subst h; rw [hl] at hxt; cases hxt
        exact ⟨.inr ⟨n, sz, cp, by rw [delH_ne _ hxl]; exact hxt, ho⟩, by rw [cell_congr (a := ⟨x, off, none⟩) (World.putObj_heap_other hxl)]; exact hq⟩
    have hHend : HRel (delH H3 (w.heap.size + 1)) (w3.putObj (w.heap.size + 1) (.loop { state := .exhausted, pending := pend, fn := fn3, tmps := tmps3, params := ps', assign := ga', body := gb', defers := d })) := by
      intro x o hx
      have hxl : x ≠ w.heap.size + 1 := fun h => by subst h; simp at hx
      rw [delH_ne _ hxl] at hx
      exact (hH3 x o hx).mono hEnd (World.putObj_heap_other hxl)
    have hEall := ((hEa.trans hEb).trans hE3).trans hEnd
    have hSt : StRel N (delH H3 (w.heap.size + 1)) (w3.putObj (w.heap.size + 1) (.loop { state := .exhausted, pending := pend, fn := fn3, tmps := tmps3, params := ps', assign := ga', body := gb', defers := d })) (upd env N (.ptr w.heap.size 0)) { a with defers := [{ target := .collected w.heap.size, args := #[] }] ++ a.defers } := by
      refine ⟨hS.size, fun t ht => ?_, ?_⟩
      · rw [upd_ne _ _ (show t ≠ N by omega)]; exact (hS.rep t ht).mono hEall
      · rw [upd_same, hd0]; rfl
    have hSP : StepPost N H w (Q ex) { a with defers := [{ target := .collected w.heap.size, args := #[] }] ++ a.defers } (w3.putObj (w.heap.size + 1) (.loop { state := .exhausted, pending := pend, fn := fn3, tmps := tmps3, params := ps', assign := ga', body := gb', defers := d })) :=
      ⟨_, _, hQ, hHend, hSt, hEall⟩
    cases pend with
    | none => simp only [pendV, Option.some.injEq] at hpend; subst hpend; exact hSP
    | some c =>
      cases c <;> simp only [pendV] at hpend <;> (try (cases hpend; done))
      · simp only [Option.some.injEq] at hpend; subst hpend
        exact wpIn_exit hSP
      · simp only [Option.some.injEq] at hpend; subst hpend
        exact wpIn_ret hSP

theorem code_sound (hm : P.follows .mixedOrders = true) (certs : Nat → Option Cert) {ro : Option Nat} {rng : Bool} (hrng : rng = true → ro = none) : ∀ (c : Code) (ac : ACode), tr P N certs rng c = some ac → ∀ (Q : AEx → Env → AHeap → Prop) (env : Env) (H : AHeap) (a : Act) (w : World),
    aexec P N ac Q env H → HRel H w → StRel N H w env a → c.wpIn (WF ro) 0 P (QR N H w Q) a w := by
  intro c
  induction c with
  | skip => intro ac ht Q env H a w h hH hS; cases ht; exact wpIn_skip ⟨env, H, h, hH, hS, Evolve.refl _ _⟩
  | ret => intro ac ht Q env H a w h hH hS; cases ht; exact wpIn_ret ⟨env, H, h, hH, hS, Evolve.refl _ _⟩
  | label l => intro ac ht Q env H a w h hH hS; cases ht; exact wpIn_label ⟨env, H, h, hH, hS, Evolve.refl _ _⟩
  | exit id => intro ac ht Q env H a w h hH hS; cases ht; exact wpIn_exit ⟨env, H, h, hH, hS, Evolve.refl _ _⟩
  | seq x y ihx ihy =>
    intro ac ht Q env H a w h hH hS
    simp only [tr] at ht
    split at ht
    · rename_i ax ay hx hy
      cases ht
      simp only [aexec] at h
      refine wpIn_seq (wpIn_mono (ihx ax hx _ env H a w h hH hS) ?_)
      intro ex a' w' hq
      cases ex with
      | normal =>
        obtain ⟨env', H', h1, h2, h3, h4⟩ := hq
        simp only [aseq] at h1
        exact wpIn_mono (ihy ay hy Q env' H' a' w' h1 h2 h3) (QR.mono (fun _ _ _ h => h) h4)
      | exit id => exact hq
      | ret => exact hq
      | goto l => exact hq
      | panic ch => exact hq
      | outgrown => exact hq
    · cases ht
  | cond c t e iht ihe =>
    intro ac ht Q env H a w h hH hS
    simp only [tr] at ht
    split at ht
    · rename_i at' ae h1 h2
      split at ht
      · rename_i hc
        cases ht
        obtain ⟨b, hb, ht', he'⟩ := h
        have hr := eval_rep (x := c) hS (fun t ht => by simpa using List.all_eq_true.1 hc t ht)
        rw [hb] at hr
        refine wpIn_cond hr.bool_inv ?_
        cases b with
        | true => rw [if_pos rfl]; exact iht at' h1 Q env H a w (ht' rfl) hH hS
        | false => rw [if_neg (by simp)]; exact ihe ae h2 Q env H a w (he' rfl) hH hS
      · cases ht
    · cases ht
  | loop b ih =>
    intro ac ht Q env H a w h hH hS
    simp only [tr, Option.map_eq_some_iff] at ht
    obtain ⟨ab, hb, rfl⟩ := ht
    obtain ⟨I, ⟨k0, hk0⟩, hround⟩ := h
    let C : Nat → Act → World → Prop := fun k a' w' => ∃ env' H', I k env' H' ∧ HRel H' w' ∧ StRel N H' w' env' a' ∧ Evolve H w H' w'
    have hleast : ∀ a' w', (∃ k, C k a' w') → ∃ m, C m a' w' ∧ ∀ j, C j a' w' → m ≤ j := fun a' w' ⟨k, hk⟩ => least k hk
    let μ : Act → World → Nat := fun a' w' => @dite _ (∃ k, C k a' w') (Classical.propDecidable _) (fun h => Classical.choose (hleast a' w' h)) (fun _ => 0)
    have hμ : ∀ a' w' (h : ∃ k, C k a' w'), C (μ a' w') a' w' ∧ ∀ j, C j a' w' → μ a' w' ≤ j := by
      intro a' w' h
      have := Classical.choose_spec (hleast a' w' h)
      simp only [μ]
      rw [dif_pos h]
      exact this
    refine wpIn_loop (fun a' w' => ∃ k, C k a' w') μ ⟨k0, env, H, hk0, hH, hS, Evolve.refl _ _⟩ ?_
    intro a' w' hI
    obtain ⟨⟨env', H', i1, i2, i3, i4⟩, hmin⟩ := hμ a' w' hI
    refine wpIn_mono (ih ab hb _ env' H' a' w' (hround _ env' H' i1) i2 i3) ?_
    intro ex a'' w'' hq
    cases ex with
    | normal =>
      obtain ⟨env'', H'', ⟨k', hk', hI'⟩, h2, h3, h4⟩ := hq
      have hC : C k' a'' w'' := ⟨env'', H'', hI', h2, h3, i4.trans h4⟩
      have := (hμ a'' w'' ⟨k', hC⟩).2 k' hC
      exact ⟨⟨k', hC⟩, by omega⟩
    | exit id => obtain ⟨env'', H'', h1, h2, h3, h4⟩ := hq; exact ⟨env'', H'', h1, h2, h3, i4.trans h4⟩
    | ret => obtain ⟨env'', H'', h1, h2, h3, h4⟩ := hq; exact ⟨env'', H'', h1, h2, h3, i4.trans h4⟩
    | goto l => exact hq.elim
    | panic ch => exact hq.elim
    | outgrown => exact hq.elim
  | block id b ih =>
    intro ac ht Q env H a w h hH hS
    simp only [tr, Option.map_eq_some_iff] at ht
    obtain ⟨ab, hb, rfl⟩ := ht
    simp only [aexec] at h
    refine wpIn_block (wpIn_mono (ih ab hb _ env H a w h hH hS) ?_)
    intro ex a' w' hq
    cases ex with
    | normal => exact hq
    | exit id' =>
      obtain ⟨env', H', h1, h2, h3, h4⟩ := hq
      simp only [ablock] at h1
      simp only [Exit.inBlock]
      split
      · rename_i he; rw [if_pos he] at h1; exact ⟨env', H', h1, h2, h3, h4⟩
      · rename_i he; rw [if_neg he] at h1; exact ⟨env', H', h1, h2, h3, h4⟩
    | ret => exact hq
    | goto l => exact hq
    | panic ch => exact hq
    | outgrown => exact hq
  | scope b ih =>
    intro ac ht Q env H a w h hH hS
    simp only [tr] at ht
    exact wpIn_scope' (ih ac ht _ env H a w h hH hS) (fun _ _ _ h => h)
  | region id ops draw =>
    intro ac ht Q env H a w h hH hS
    cases draw with
    | false =>
      simp only [tr, Option.map_eq_some_iff] at ht
      obtain ⟨aos, haos, rfl⟩ := ht
      exact wpIn_region (ops_sound (List.range ops.size) aos (trOps_map haos) env H w a h hH hS (fun _ _ h => h))
    | true =>
      simp only [tr] at ht
      split at ht
      · rename_i c hc
        rw [Option.map_eq_some_iff] at ht
        obtain ⟨p, hp, rfl⟩ := ht
        obtain ⟨preA, tlA⟩ := p
        exact trDraw_sound hm hp h hH hS (fun _ _ h => h)
      · cases ht
  | rangeFunc g ps ga gb iha ihb =>
    intro ac ht Q env H a w h hH hS
    simp only [tr] at ht
    split at ht
    · rename_i hc
      cases ht
      simp only [Bool.and_eq_true, List.all_eq_true, decide_eq_true_eq] at hc
      exact post_rangeFunc (hrng hc.1) hc.2 h hH hS
    · cases ht
  | goto l => intro ac ht; cases ht
  | refuse why => intro ac ht; cases ht
end
end Go.Lift

