/- Part 12 of the proof: the tools and contracts. Conditions: none. -/
import Derived.Test.YthnfcdkiaihfcaaGreatP11
set_option linter.unusedVariables false
set_option linter.unusedSimpArgs false
namespace Go.Lift
open Go

def opTmps : List Opd → List Nat
  | [] => []
  | .t n :: xs => n :: opTmps xs
  | .c _ :: xs => opTmps xs

def guardOf (ops : Array Oper) : Option (Nat × Bool) → Option (Option (Nat × Bool))
  | none => some none
  | some (j, want) => ((ops[j]?).bind (·.dst)).map fun t => some (t, want)

def gTmp : Option (Nat × Bool) → List Nat
  | none => []
  | some (t, _) => [t]

def trOper (P : Program) (N : Nat) (ops : Array Oper) (o : Oper) : Option AOp :=
  match trOp P o, guardOf ops o.guard with
  | some (tag, xs), some g => if (opTmps xs ++ gTmp g ++ o.dst.toList).all (fun t => decide (t < N)) then some ⟨o.dst, tag, xs, g⟩ else none
  | _, _ => none

def aop1 (P : Program) (o : AOp) (env : Env) (H : AHeap) (K : Env → AHeap → Prop) : Prop :=
  match o.guard with
  | none => aopV P o.tag (o.xs.map (ev env)) H fun r H' => K (updO env o.dst r) H'
  | some (t, want) => match env t with
    | .bool b => if b = want then aopV P o.tag (o.xs.map (ev env)) H fun r H' => K (updO env o.dst r) H' else K (updO env o.dst (.tup [])) H
    | .tup [] => K (updO env o.dst (.tup [])) H
    | _ => False

def aops (P : Program) : List AOp → (Env → AHeap → Prop) → Env → AHeap → Prop
  | [], K, env, H => K env H
  | o :: rest, K, env, H => aop1 P o env H (aops P rest K)

def cenv (N : Nat) (env : Env) : Env := fun t => if t < N then env t else .any

theorem ev_cenv {N : Nat} {env : Env} : ∀ {xs : List Opd}, (∀ t ∈ opTmps xs, t < N) → xs.map (ev (cenv N env)) = xs.map (ev env)
  | [], _ => rfl
  | .t n :: xs, h => by
    simp only [List.map_cons]
    rw [ev_cenv (xs := xs) (fun t ht => h t (by simp [opTmps, ht]))]
    simp only [ev, cenv]
    rw [if_pos (h n (by simp [opTmps]))]
  | .c v :: xs, h => by
    simp only [List.map_cons]
    rw [ev_cenv (xs := xs) (fun t ht => h t (by simpa [opTmps] using ht))]
    rfl

theorem StRel.cenv {N : Nat} {H : AHeap} {w : World} {env : Env} {a : Act} (h : StRel N H w env a) : ∀ t, Rep H w (a.tmps.getD t undef) (cenv N env t) := by
  intro t
  unfold Lift.cenv
  split
  · rename_i ht; exact h.rep t ht
  · exact .any _

section
variable {P : Program} {H : AHeap} {w : World}

theorem trOper_inv {N : Nat} {ops : Array Oper} {o : Oper} {ao : AOp} (h : trOper P N ops o = some ao) :
    trOp P o = some (ao.tag, ao.xs) ∧ guardOf ops o.guard = some ao.guard ∧ ao.dst = o.dst ∧ (∀ t ∈ opTmps ao.xs, t < N) ∧ (∀ t ∈ gTmp ao.guard, t < N) ∧ (∀ d, o.dst = some d → d < N) := by
  unfold trOper at h
  split at h
  · rename_i tag xs g h1 h2
    split at h
    · rename_i hall
      cases h
      simp only [List.all_eq_true, List.mem_append, decide_eq_true_eq] at hall
      refine ⟨h1, h2, rfl, fun t ht => hall t (.inl (.inl ht)), fun t ht => hall t (.inl (.inr ht)), fun d hd => hall d (.inr (by simp [hd]))⟩
    · cases h
  · cases h

theorem wpIn_monoQ {F : Fence} {n : Nat} {o : Oper} {a : Act} {K : Act → World → Prop} {Q : Exit → Act → World → Prop} (h : o.wpIn F n P a w K (fun _ _ _ => False)) : o.wpIn F n P a w K Q := by
  refine ⟨h.1, ?_⟩
  have h := h.2
  generalize (o.semAt F.round a.eval).run P w = r at *
  cases r with
  | ok x w' =>
    cases x <;> simp only [Oper.uponIn] at h ⊢ <;> first
      | exact h
      | exact ⟨h.1, CallsIn.mono h.2 (fun e w'' he => by cases e <;> first | exact he | exact he.elim | exact absurd he (by simp [LetsOut]))⟩
      | exact ⟨h.1, RowsIn.mono h.2 (fun _ _ he => he)⟩
      | exact ⟨h.1, RoundIn.mono h.2 (fun e w'' he => by cases e <;> first | exact he | exact he.elim | exact absurd he (by simp [LetsOut]))⟩
  | halt x w' => cases x <;> simp only [Oper.uponIn] at h ⊢ <;> first | exact h | exact h.elim

theorem wanted_of {ops : Array Oper} {o : Oper} {g : Option (Nat × Bool)} {env : Env} {a : Act} (hg : guardOf ops o.guard = some g) (hr : ∀ t ∈ gTmp g, Rep H w (a.tmps.getD t undef) (env t)) (hs : ∀ t ∈ gTmp g, t < a.tmps.size) :
    (g = none → Region.wanted o (yielded ops a.tmps) = true) ∧ (∀ t want b, g = some (t, want) → env t = .bool b → Region.wanted o (yielded ops a.tmps) = (b == want)) ∧ ∀ t want, g = some (t, want) → env t = .tup [] → Region.wanted o (yielded ops a.tmps) = false := by
  unfold guardOf at hg
  split at hg
  · rename_i h0
    cases hg
    refine ⟨fun _ => by simp [Region.wanted, h0], ?_, ?_⟩
    · intro t want b h; cases h
    · intro t want h; cases h
  · rename_i j want h0
    rw [Option.map_eq_some_iff] at hg
    obtain ⟨t, ht, rfl⟩ := hg
    refine ⟨fun h => (by cases h), fun t' want' b h hb => ?_, fun t' want' h hb => ?_⟩
    rotate_left
    · cases h
      have hr' := hr t (by simp [gTmp])
      rw [hb] at hr'
      have hlt := hs t (by simp [gTmp])
      generalize hv : a.tmps.getD t undef = v at hr'
      cases hr'
      rw [Array.getD_eq_getD_getElem?, Array.getElem?_eq_getElem hlt] at hv
      simp only [Option.getD_some] at hv
      simp only [Region.wanted, h0, yielded, ht, Option.bind_some, Array.getElem?_eq_getElem hlt, hv]
      rfl
    cases h
    have hr' := hr t (by simp [gTmp])
    rw [hb] at hr'
    have hlt := hs t (by simp [gTmp])
    have hv := hr'.bool_inv
    rw [Array.getD_eq_getD_getElem?, Array.getElem?_eq_getElem hlt] at hv
    simp only [Option.getD_some] at hv
    simp only [Region.wanted, h0, yielded, ht, Option.bind_some, Array.getElem?_eq_getElem hlt, hv]
    cases b <;> cases want <;> rfl

/-- What is left behind a step of a region. -/
def StepPost (N : Nat) (H : AHeap) (w : World) (K : Env → AHeap → Prop) (a : Act) (w' : World) : Prop :=
  ∃ env' H', K env' H' ∧ HRel H' w' ∧ StRel N H' w' env' a ∧ Evolve H w H' w'

theorem und_rep : Rep H w undef (.tup []) := .tup _ _ rfl (fun i x h => by simp at h)
theorem aop1_sound {ro : Option Nat} {N : Nat} {ops : Array Oper} {i : Nat} {o : Oper} {ao : AOp} {env : Env} {a : Act} {K : Env → AHeap → Prop} {Q : Exit → Act → World → Prop} (hi : ops[i]? = some o) (ht : trOper P N ops o = some ao)
    (h : aop1 P ao env H K) (hH : HRel H w) (hS : StRel N H w env a) : wpOpIn (WF ro) 0 P ops Q i (StepPost N H w K) a w := by
  obtain ⟨h1, h2, h3, h4, h5, h6⟩ := trOper_inv ht
  have hw := wanted_of (H := H) (w := w) (env := env) (a := a) h2 (fun t ht => hS.rep t (h5 t ht)) (fun t ht => by rw [hS.size]; exact h5 t ht)
  have run : aopV P ao.tag (ao.xs.map (ev env)) H (fun r H' => K (updO env ao.dst r) H') → o.wpIn (WF ro) 0 P a w (StepPost N H w K) Q := by
    intro hR
    rw [← ev_cenv h4] at hR
    refine wpIn_monoQ (Oper.wpIn_mono ?_ (op_sound (ro := ro) h1 hR hH hS.cenv))
    rintro a' w' ⟨v, rfl, r, H', hK, hH', hr, hE⟩
    refine ⟨_, H', hK, hH', ?_, hE⟩
    rw [h3]
    exact (hS.mono hE).put h6 hr
  unfold wpOpIn
  simp only [hi]
  unfold aop1 at h
  split at h
  · rename_i hg
    rw [hw.1 hg, if_pos rfl]
    exact run h
  · rename_i t want hg
    split at h
    · rename_i b hb
      rw [hw.2.1 t want b hg hb]
      by_cases hbw : b = want
      · rw [if_pos hbw] at h
        rw [if_pos (by simp [hbw])]
        exact run h
      · rw [if_neg hbw] at h
        rw [if_neg (by simp [hbw])]
        refine ⟨fun _ _ => trivial, _, H, h, hH, ?_, Evolve.refl _ _⟩
        rw [h3]
        exact hS.put h6 und_rep
    · rename_i hb
      rw [hw.2.2 t want hg hb, if_neg (by simp)]
      refine ⟨fun _ _ => trivial, _, H, h, hH, ?_, Evolve.refl _ _⟩
      rw [h3]
      exact hS.put h6 und_rep
    · cases h

theorem StepPost.trans {N : Nat} {H1 : AHeap} {w1 : World} {K : Env → AHeap → Prop} {a : Act} {w' : World} (e : Evolve H w H1 w1) (h : StepPost N H1 w1 K a w') : StepPost N H w K a w' := by
  obtain ⟨env', H', a1, a2, a3, a4⟩ := h
  exact ⟨env', H', a1, a2, a3, e.trans a4⟩

theorem ops_sound {ro : Option Nat} {N : Nat} {ops : Array Oper} {K : Env → AHeap → Prop} {Q : Exit → Act → World → Prop} : ∀ (is : List Nat) (aos : List AOp), is.map (fun i => (ops[i]?).bind (trOper P N ops)) = aos.map some →
    ∀ (env : Env) (H : AHeap) (w : World) (a : Act), aops P aos K env H → HRel H w → StRel N H w env a → (∀ a' w', StepPost N H w K a' w' → Q .normal a' w') → wpOpsIn (WF ro) 0 P ops Q is a w
  | [], aos, hm, env, H, w, a, h, hH, hS, hQ => by
    have : aos = [] := by simpa using hm.symm
    subst this
    exact hQ a w ⟨env, H, h, hH, hS, Evolve.refl _ _⟩
  | i :: is, aos, hm, env, H, w, a, h, hH, hS, hQ => by
    cases aos with
    | nil => simp at hm
    | cons ao aos =>
      simp only [List.map_cons, List.cons.injEq] at hm
      obtain ⟨h1, h2⟩ := hm
      rw [Option.bind_eq_some_iff] at h1
      obtain ⟨o, ho, ht⟩ := h1
      rw [wpOpsIn_cons]
      refine wpOpIn_mono ?_ (aop1_sound (ro := ro) (Q := Q) ho ht h hH hS)
      rintro a' w' ⟨env', H', hK, hH', hS', hE⟩
      exact ops_sound is aos h2 env' H' w' a' hK hH' hS' (fun a'' w'' hp => hQ a'' w'' (hp.trans hE))

def trOps (P : Program) (N : Nat) (ops : Array Oper) : Option (List AOp) := ops.toList.mapM (trOper P N ops)

theorem mapM_some {α β : Type} {f : α → Option β} : ∀ {l : List α} {out : List β}, l.mapM f = some out → l.map f = out.map some
  | [], out, h => by simp at h; subst h; rfl
  | x :: l, out, h => by
    rw [List.mapM_cons] at h
    simp only [Option.bind_eq_bind, Option.bind_eq_some_iff, Option.pure_def, Option.some.injEq] at h
    obtain ⟨b, hb, bs, hbs, rfl⟩ := h
    simp only [List.map_cons, hb, mapM_some hbs]

theorem trOps_map {N : Nat} {ops : Array Oper} {aos : List AOp} (h : trOps P N ops = some aos) : (List.range ops.size).map (fun i => (ops[i]?).bind (trOper P N ops)) = aos.map some := by
  rw [← mapM_some h]
  apply List.ext_getElem?
  intro i
  simp only [List.getElem?_map]
  by_cases hi : i < ops.size
  · rw [List.getElem?_range hi, Array.getElem?_toList, Array.getElem?_eq_getElem hi]; simp [hi]
  · rw [List.getElem?_eq_none (by simpa using hi), Array.getElem?_toList, Array.getElem?_eq_none (by omega)]; rfl
end
end Go.Lift

