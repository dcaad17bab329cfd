/- Part 17 of the proof: the tools and contracts. Conditions: none. -/
import Derived.Test.YthnfcdkiaihfcaaGreatP16
set_option linter.unusedVariables false
set_option linter.unusedSimpArgs false
namespace Go.Lift
open Go

/-- What may be handed on behind a return: names are dropped, what was private is fixed. -/
def Settle (H1 : AHeap) (r : AV) (H2 : AHeap) (r' : AV) : Prop := (∀ b o, H2 b = some o → H1 b = some o) ∧ ∀ w v, HRel H1 w → Rep H1 w v r → Rep H2 w v r'

theorem Settle.refl {H1 H2 : AHeap} {r : AV} (h : ∀ b o, H2 b = some o → H1 b = some o) : Settle H1 r H2 r := ⟨h, fun _ _ _ hr => hr.mono (Evolve.drop h)⟩

def resV (P : Program) (env : Env) (H : AHeap) : ResultVar → Option AV
  | .tmp t => some (env t)
  | .cell a t => match isAggB P t, szB P t with
    | some ag, some n => (cellsAt H (env a)).bind (takeV ag n)
    | _, _ => none

def resTmp : ResultVar → Nat
  | .tmp t => t
  | .cell a _ => a

def oneOf : List AV → AV
  | [x] => x
  | l => .tup l

def aret (P : Program) (rs : List ResultVar) (env : Env) (H : AHeap) : Option AV := (rs.mapM (resV P env H)).map oneOf

/-- What is asked where a function's body ends. -/
def fin (P : Program) (rs : List ResultVar) (N : Nat) (R : AV → AHeap → Prop) : AEx → Env → AHeap → Prop
  | .exit _, _, _ => False
  | _, env, H => ∃ H1, ((env N = .any ∧ H1 = H) ∨ (∃ b, env N = .ptr b 0 ∧ H b = some .deferd ∧ H1 = delH H b)) ∧ ∃ r, aret P rs env H1 = some r ∧ ∃ r' H2, Settle H1 r H2 r' ∧ R r' H2

def ienv (xs : List AV) : Env := fun t => xs.getD t .any

section
variable {P : Program} {N : Nat}

def resOne (tmps : Array Value) : ResultVar → Sem Value
  | .tmp t => pure (tmps.getD t undef)
  | .cell a t => do loadVar t (← asAddr (tmps.getD a undef))

theorem results_eq (fn : Func) (tmps : Array Value) : results fn tmps = (do let vs ← fn.results.mapM (resOne tmps); pure (if h : vs.size = 1 then vs[0] else .tuple vs)) := by
  unfold results
  congr 1
  first | done | (congr 1; funext r; cases r <;> rfl)

theorem results_run {H : AHeap} {w : World} (hH : HRel H w) {env : Env} {tmps : Array Value} (hsz : tmps.size = N) (hrep : ∀ t, t < N → Rep H w (tmps.getD t undef) (env t)) :
    ∀ (rs : List ResultVar) (xs : List AV), (∀ r ∈ rs, resTmp r < N) → rs.mapM (resV P env H) = some xs →
      ∃ vs : List Value, (rs.mapM (m := Sem) (resOne tmps)).run P w = .ok vs w ∧ vs.length = xs.length ∧ ∀ (i : Nat) (x : AV), xs[i]? = some x → Rep H w (vs.getD i undef) x
  | [], xs, _, h => by simp at h; subst h; exact ⟨[], rfl, rfl, fun i x hi => by simp at hi⟩
  | r :: rs, xs, hlt, h => by
    rw [List.mapM_cons] at h
    simp only [Option.bind_eq_bind, Option.bind_eq_some_iff, Option.pure_def, Option.some.injEq] at h
    obtain ⟨y, hy, ys, hys, rfl⟩ := h
    obtain ⟨vs, h1, h2, h3⟩ := results_run hH hsz hrep rs ys (fun r hr => hlt r (by simp [hr])) hys
    have hr := hlt r (by simp)
    have hone : ∃ v, (resOne tmps r).run P w = .ok v w ∧ Rep H w v y := by
      cases r with
      | tmp t => simp only [resV, Option.some.injEq] at hy; subst hy; exact ⟨_, rfl, hrep t hr⟩
      | cell a t =>
        simp only [resV] at hy
        split at hy
        · rename_i ag n hag hn
          rw [Option.bind_eq_some_iff] at hy
          obtain ⟨cs, hc, ht⟩ := hy
          obtain ⟨u, hu, hru⟩ := run_loadVar_rep hH hag hn (hrep a hr) hc ht
          obtain ⟨b, off, hp, _⟩ := cellsAt_rep hH (hrep a hr) hc
          refine ⟨u, ?_, hru⟩
          rw [hp] at hu
          simp only [resOne]
          rw [hp]
          simpa [Instr.loadAt, Instr.sureAddr, asAddr] using hu
        · cases hy
    obtain ⟨v, hv, hrv⟩ := hone
    refine ⟨v :: vs, ?_, by simp [h2], fun i x hi => ?_⟩
    · rw [List.mapM_cons]
      simp only [Sem.run_bind, hv, Result.andThen_ok, h1, Sem.run_pure]
    · cases i with
      | zero => simp only [List.getElem?_cons_zero, Option.some.injEq] at hi; subst hi; exact hrv
      | succ i => simpa using h3 i x (by simpa using hi)

theorem aret_run {H : AHeap} {w : World} (hH : HRel H w) {env : Env} {fn : Func} {tmps : Array Value} (hsz : tmps.size = N) (hrep : ∀ t, t < N → Rep H w (tmps.getD t undef) (env t)) {r : AV}
    (hlt : ∀ r ∈ fn.results.toList, resTmp r < N) (h : aret P fn.results.toList env H = some r) : ∃ v, (results fn tmps).run P w = .ok v w ∧ Rep H w v r := by
  simp only [aret, Option.map_eq_some_iff] at h
  obtain ⟨xs, hxs, rfl⟩ := h
  obtain ⟨vs, h1, h2, h3⟩ := results_run (P := P) hH hsz hrep fn.results.toList xs hlt hxs
  have hm : (fn.results.mapM (m := Sem) (resOne tmps)).run P w = .ok vs.toArray w := by
    rw [← Array.toArray_toList (xs := fn.results), List.mapM_toArray]
    simp only [Sem.run_map, h1, Result.andThen_ok]
  refine ⟨if h : vs.toArray.size = 1 then vs.toArray[0] else .tuple vs.toArray, ?_, ?_⟩
  · rw [results_eq]
    simp only [Sem.run_bind]
    rw [hm]
    simp only [Result.andThen_ok, Sem.run_pure]
  · rcases vs with _ | ⟨v, _ | ⟨v', vs⟩⟩
    · rcases xs with _ | ⟨x, xs⟩
      · simp only [oneOf]; exact .tup _ _ rfl (fun i x hi => by simp at hi)
      · simp at h2
    · rcases xs with _ | ⟨x, _ | ⟨x', xs⟩⟩
      · simp at h2
      · simpa [oneOf] using h3 0 x rfl
      · simp at h2
    · rcases xs with _ | ⟨x, _ | ⟨x', xs⟩⟩
      · simp at h2
      · simp at h2
      · simp only [oneOf]
        rw [dif_neg (by simp)]
        exact .tup _ _ (by simp at h2 ⊢; omega) (fun i x hi => by rw [getD_toList]; exact h3 i x hi)

/-- **A function's contract out of its body's abstract run.** -/
theorem calls_of' {f : FuncId} {fn : Func} {c : Code} {xs : List AV} {H : AHeap} {R : AV → AHeap → Prop} (hf : P.funcs[f]? = some fn) (hb : fn.body = some c)
    (he : entersB P f = true) (hN : fn.ntmps = N) (hl : xs.length ≤ N) (hres : fn.results.toList.all (fun r => decide (resTmp r < N)) = true) 
    (h : ∀ (a : Act) (w : World), HRel H w → StRel N H w (ienv xs) a → c.wpIn (WF none) 0 P (QR N H w (fin P fn.results.toList N R)) a w) : ACalls P f xs H R := by
  refine ⟨he, fun w vs hH hv => ?_⟩
  refine callsIn_of_wp_marks hf hb trivial ?_ rfl
  have hS : StRel N H w (ienv xs) { tmps := vs ++ Array.replicate (fn.ntmps - vs.size) undef, defers := [] } := by
    refine ⟨by simp [hN, hv.1]; omega, fun t ht => ?_, ?_⟩
    · simp only [ienv]
      rw [Array.getD_eq_getD_getElem?, List.getD_eq_getElem?_getD]
      by_cases htl : t < xs.length
      · rw [Array.getElem?_append_left (by rw [hv.1]; exact htl), List.getElem?_eq_getElem htl]
        have := hv.2 t _ (List.getElem?_eq_getElem htl)
        rwa [Array.getD_eq_getD_getElem?] at this
      · rw [List.getElem?_eq_none (by omega)]; exact .any _
    · simp only [ienv]
      rw [List.getD_eq_getElem?_getD, List.getElem?_eq_none (by omega)]
      rfl
  have hlt : ∀ r ∈ fn.results.toList, resTmp r < N := fun r hr => by simpa using List.all_eq_true.1 hres r hr
  have hend : ∀ (ex : AEx), (∀ id, ex ≠ .exit id) → ∀ a' w', StepPost N H w (fin P fn.results.toList N R ex) a' w' → LeavesInM (WF none) 0 P fn a'.tmps (EndPost H w R) a'.defers .returning w' := by
    rintro ex hex a' w' ⟨env', H', hfin, hH', hS', hE⟩
    have hfin' : ∃ H1, ((env' N = .any ∧ H1 = H') ∨ (∃ b, env' N = .ptr b 0 ∧ H' b = some .deferd ∧ H1 = delH H' b)) ∧ ∃ r, aret P fn.results.toList env' H1 = some r ∧ ∃ r' H2, Settle H1 r H2 r' ∧ R r' H2 := by
      cases ex with
      | exit id => exact absurd rfl (hex id)
      | norm => exact hfin
      | ret => exact hfin
    obtain ⟨H1, hcase, r, hr, r', H2, hset, hR⟩ := hfin'
    have last : ∀ w1, HRel H1 w1 → Evolve H w H1 w1 → (∀ t, t < N → Rep H1 w1 (a'.tmps.getD t undef) (env' t)) → ∃ v, (results fn a'.tmps).run P w1 = .ok v w1 ∧ EndPost H w R (.returned v) w1 := by
      intro w1 hH1 hE1 hrep1
      obtain ⟨v, hv1, hv2⟩ := aret_run hH1 hS'.size hrep1 hlt hr
      exact ⟨v, hv1, v, rfl, r', H2, hR, hH1.drop hset.1, hset.2 w1 v hH1 hv2, hE1.trans (Evolve.drop hset.1)⟩
    rcases hcase with ⟨hany, rfl⟩ | ⟨b, hp, hd, rfl⟩
    · rw [hS'.defers, hany]
      exact last w' hH' hE (fun t ht => hS'.rep t ht)
    · rw [hS'.defers, hp]
      have hw := hH' b _ hd
      refine ⟨by simp, .inl ⟨b, _, rfl, run_takeDeferred hw, ?_⟩⟩
      have hE1 : Evolve H' w' (delH H' b) (w'.putObj b (.deferred none)) := by
        refine ⟨rfl, rfl, rfl, by simp [World.putObj], fun x hx hn => ?_, fun x n sz cp off q hxt ho hq => ?_⟩
        · have hxl : x ≠ b := fun h => by subst h; rw [hd] at hn; cases hn
          exact ⟨by rw [delH_ne _ hxl]; exact hn, World.putObj_heap_other hxl⟩
        · have hxl : x ≠ b := fun h => by subst h; rw [hd] at hxt; cases hxt
          exact ⟨.inr ⟨n, sz, cp, by rw [delH_ne _ hxl]; exact hxt, ho⟩, by rw [cell_congr (a := ⟨x, off, none⟩) (World.putObj_heap_other hxl)]; exact hq⟩
      have hH1 : HRel (delH H' b) (w'.putObj b (.deferred none)) := by
        intro x o hx
        have hxl : x ≠ b := fun h => by subst h; simp at hx
        rw [delH_ne _ hxl] at hx
        exact (hH' x o hx).mono hE1 (World.putObj_heap_other hxl)
      exact last _ hH1 (hE.trans hE1) (fun t ht => (hS'.rep t ht).mono hE1)
  refine wpIn_mono (h _ w hH hS) ?_
  intro ex a' w' hq
  cases ex with
  | normal => exact hend .norm (by simp) a' w' hq
  | ret => exact hend .ret (by simp) a' w' hq
  | exit id => obtain ⟨_, _, h, _⟩ := hq; exact h.elim
  | goto l => exact hq.elim
  | panic ch => exact hq.elim
  | outgrown => exact hq.elim

theorem calls_of (hm : P.follows .mixedOrders = true) (certs : Nat → Option Cert) {f : FuncId} {fn : Func} {c : Code} {ac : ACode} {xs : List AV} {H : AHeap} {R : AV → AHeap → Prop} (hf : P.funcs[f]? = some fn) (hb : fn.body = some c)
    (he : entersB P f = true) (hN : fn.ntmps = N) (hl : xs.length ≤ N) (hres : fn.results.toList.all (fun r => decide (resTmp r < N)) = true) (ht : tr P N certs true c = some ac)
    (h : aexec P N ac (fin P fn.results.toList N R) (ienv xs) H) : ACalls P f xs H R :=
  calls_of' hf hb he hN hl hres fun a w hH hS => code_sound (ro := none) hm certs (fun _ => rfl) c ac ht _ (ienv xs) H a w h hH hS

theorem ACalls.mono {f : FuncId} {xs : List AV} {H : AHeap} {R R' : AV → AHeap → Prop} (h : ACalls P f xs H R) (hR : ∀ r H', R r H' → R' r H') : ACalls P f xs H R' :=
  aopV_mono (tag := .call f) hR h

def setPs (env : Env) : List Nat → List AV → Env
  | p :: ps, x :: xs => setPs (upd env p x) ps xs
  | _, _ => env

/-- What is asked where a round's body ends. -/
def rfin (N : Nat) (l : Nat) (R : AV → AHeap → Prop) (ex : AEx) (_ : Env) (H : AHeap) : Prop :=
  ∃ st pend env' ps ga gb d, H l = some (.loop st pend N env' ps ga gb d) ∧ (match ex with
    | .norm => R (.bool true) (updH H l (.loop .ready none N env' ps ga gb d))
    | .ret => R (.bool false) (updH H l (.loop .done (some .ret) N env' ps ga gb d))
    | .exit id => R (.bool false) (updH H l (.loop .done (some (.exit id)) N env' ps ga gb d)))

theorem turn_loop {H : AHeap} {w : World} (hH : HRel H w) {l : Nat} {st st' : LoopState} {pend pend' : Option Code} {env : Env} {ps : Array Tmp} {ga gb : Code} {d : Nat} (hl : H l = some (.loop st pend N env ps ga gb d)) :
    ∃ fn tmps, w.heap[l]? = some (.loop { state := st, pending := pend, fn := fn, tmps := tmps, params := ps, assign := ga, body := gb, defers := d }) ∧ tmps.size = N ∧ (∀ t, t < N → Rep H w (tmps.getD t undef) (env t)) ∧
      HRel (updH H l (.loop st' pend' N env ps ga gb d)) (w.putObj l (.loop { state := st', pending := pend', fn := fn, tmps := tmps, params := ps, assign := ga, body := gb, defers := d })) ∧
      Evolve H w (updH H l (.loop st' pend' N env ps ga gb d)) (w.putObj l (.loop { state := st', pending := pend', fn := fn, tmps := tmps, params := ps, assign := ga, body := gb, defers := d })) := by
  obtain ⟨fn, tmps, h1, h2, h3⟩ := hH l _ hl
  have hlt := hH.lt hl
  have hE : Evolve H w (updH H l (.loop st' pend' N env ps ga gb d)) (w.putObj l (.loop { state := st', pending := pend', fn := fn, tmps := tmps, params := ps, assign := ga, body := gb, defers := d })) :=
    Evolve.turn (w' := w.putObj l (.loop { state := st', pending := pend', fn := fn, tmps := tmps, params := ps, assign := ga, body := gb, defers := d })) hH rfl rfl rfl (by simp [World.putObj]) l _ _ hl (by intro n sz cap; simp) (fun x hx _ => World.putObj_heap_other hx)
  refine ⟨fn, tmps, h1, h2, h3, ?_, hE⟩
  refine hH.step hE l (fun x hx _ => World.putObj_heap_other hx) (fun x o hx h => by rwa [updH_ne _ _ hx] at h) (fun o ho => ?_)
  rw [updH_same] at ho; cases ho
  exact ⟨fn, tmps, by simp [World.putObj, hlt], h2, fun t ht => (h3 t ht).mono hE⟩

theorem setPs_rel {H : AHeap} {w : World} {M : Nat} : ∀ (ps : List Nat) (xs : List AV) (vs : List Value) (env : Env) (tmps : Array Value), (∀ p ∈ ps, p < M) → vs.length = xs.length → (∀ (i : Nat) (x : AV), xs[i]? = some x → Rep H w (vs.getD i undef) x) →
    tmps.size = M → (∀ t, t < M → Rep H w (tmps.getD t undef) (env t)) →
    ((ps.zip vs).foldl (fun (tmps : Array Value) (p : Nat × Value) => tmps.setIfInBounds p.1 p.2) tmps).size = M ∧
      ∀ t, t < M → Rep H w (((ps.zip vs).foldl (fun (tmps : Array Value) (p : Nat × Value) => tmps.setIfInBounds p.1 p.2) tmps).getD t undef) (setPs env ps xs t)
  | [], xs, vs, env, tmps, _, _, _, hs, hr => ⟨by simpa using hs, fun t ht => by simpa [setPs] using hr t ht⟩
  | p :: ps, [], vs, env, tmps, _, hl, _, hs, hr => by
    have : vs = [] := by simpa using hl
    subst this
    exact ⟨by simpa using hs, fun t ht => by simpa [setPs] using hr t ht⟩
  | p :: ps, x :: xs, [], env, tmps, _, hl, _, hs, hr => by simp at hl
  | p :: ps, x :: xs, v :: vs, env, tmps, hp, hl, hv, hs, hr => by
    simp only [List.zip_cons_cons, List.foldl_cons, setPs]
    refine setPs_rel ps xs vs (upd env p x) (tmps.setIfInBounds p v) (fun q hq => hp q (by simp [hq])) (by simpa using hl) (fun i y hi => by simpa using hv (i + 1) y (by simpa using hi)) (by simpa using hs) (fun t ht => ?_)
    by_cases he : t = p
    · subst he
      rw [upd_same, Array.getD_eq_getD_getElem?, Array.getElem?_setIfInBounds]
      simp only [if_true]
      rw [if_pos (by omega)]
      simpa using hv 0 x rfl
    · rw [upd_ne _ _ he, Array.getD_eq_getD_getElem?, Array.getElem?_setIfInBounds, if_neg (fun e => he e.symm)]
      have := hr t ht
      rwa [Array.getD_eq_getD_getElem?] at this

/-- **A round's contract out of its code's abstract run.** -/
theorem yield_of (hm : P.follows .mixedOrders = true) (certs : Nat → Option Cert) {l : Nat} {xs : List AV} {H : AHeap} {R : AV → AHeap → Prop} {env : Env} {ps : Array Tmp} {ga gb : Code} {d : Nat} {aga agb : ACode} (hl : H l = some (.loop .ready none N env ps ga gb d))
    (hps : ps.size = xs.length) (hpN : ps.toList.all (fun t => decide (t < N)) = true) (hga : tr P N certs false ga = some aga) (hgb : tr P N certs false gb = some agb)
    (h : aexec P N aga (fun ex env1 H1 => ex = .norm ∧ ∃ pend env0 ps0 ga0 gb0 d0, H1 l = some (.loop .ready pend N env0 ps0 ga0 gb0 d0) ∧ aexec P N agb (rfin N l R) env1 (updH H1 l (.loop .busy pend N env0 ps0 ga0 gb0 d0))) (upd (setPs env ps.toList xs) N .any) H) : AYield P l xs H R := by
  intro w vs hH hv
  obtain ⟨fn, tmps, h1, h2, h3⟩ := hH l _ hl
  have hy := run_yield (P := P) (args := vs) h1 (by rw [hv.1]; exact hps.symm)
  refine ⟨fn, _, ga, gb, hy, roundIn_of_wpIn trivial ?_⟩
  have hfold : ((ps.zip vs).foldl (fun (tmps : Array Value) (p : Tmp × Value) => tmps.setIfInBounds p.1 p.2) tmps) = (ps.toList.zip vs.toList).foldl (fun (tmps : Array Value) (p : Nat × Value) => tmps.setIfInBounds p.1 p.2) tmps := by
    rw [← Array.foldl_toList, Array.toList_zip]
  have hrel := setPs_rel (H := H) (w := w) (M := N) ps.toList xs vs.toList env tmps (fun p hp => by simpa using List.all_eq_true.1 hpN p hp) (by simpa using hv.1) (fun i x hi => by rw [← getD_toList]; exact hv.2 i x hi) h2 h3
  have hS : StRel N H w (upd (setPs env ps.toList xs) N .any) { tmps := (ps.zip vs).foldl (fun tmps (t, a) => tmps.setIfInBounds t a) tmps, defers := [] } := by
    refine ⟨by rw [← hrel.1, ← hfold], fun t ht => ?_, by rw [upd_same]; rfl⟩
    rw [upd_ne _ _ (show t ≠ N by omega)]
    have := hrel.2 t ht
    rw [← hfold] at this
    exact this
  refine wpIn_mono (code_sound (ro := some l) hm certs (fun h => by cases h) ga aga hga _ _ H _ w h hH hS) ?_
  intro ex a1 w1 hq
  cases ex with
  | normal =>
    obtain ⟨env1, H1, ⟨_, pend, env0, ps0, ga0, gb0, d0, hl1, hbody⟩, hH1, hS1, hE1⟩ := hq
    obtain ⟨fn1, tmps1, g1, g2, g3, g4, g5⟩ := turn_loop (st' := .busy) (pend' := pend) hH1 hl1
    refine ⟨_, run_beginRound g1 rfl, ?_⟩
    refine wpIn_mono (code_sound (ro := some l) hm certs (fun h => by cases h) gb agb hgb _ env1 _ a1 _ hbody g4 (hS1.mono g5)) ?_
    have hE2 := hE1.trans g5
    have endr : ∀ (jump : Option Code) (b : Bool) (st' : LoopState) (env3 : Env) (H3 : AHeap) (a3 : Act) (w3 : World), jump.isNone = b → (if jump.isNone then LoopState.ready else .done) = st' → HRel H3 w3 → Evolve H w H3 w3 →
        (∃ st pend env' ps ga gb d, H3 l = some (.loop st pend N env' ps ga gb d) ∧ R (.bool b) (updH H3 l (.loop st' jump N env' ps ga gb d))) →
        ∃ v w', (Instr.endRound l jump).run P w3 = .ok v w' ∧ EndPost H w R (.returned v) w' := by
      intro jump b st' env3 H3 a3 w3 hj hst hH3 hE3 ⟨st, pend, env', ps', ga', gb', d', hl3, hR⟩
      obtain ⟨fn3, tmps3, k1, k2, k3, k4, k5⟩ := turn_loop (st' := st') (pend' := jump) hH3 hl3
      have hend := run_endRound (P := P) jump k1
      rw [hst] at hend
      exact ⟨_, _, hend, _, rfl, .bool b, _, hR, k4, by rw [hj]; exact .bool b, hE3.trans k5⟩
    intro ex2 a3 w3 hq3
    cases ex2 with
    | normal =>
      obtain ⟨env3, H3, ⟨st, pend', env', ps', ga', gb', d', hl3, hR⟩, hH3, hS3, hE3⟩ := hq3
      exact endr none true .ready env3 H3 a3 w3 rfl rfl hH3 (hE2.trans hE3) ⟨st, pend', env', ps', ga', gb', d', hl3, hR⟩
    | ret =>
      obtain ⟨env3, H3, ⟨st, pend', env', ps', ga', gb', d', hl3, hR⟩, hH3, hS3, hE3⟩ := hq3
      exact endr (some .ret) false .done env3 H3 a3 w3 rfl rfl hH3 (hE2.trans hE3) ⟨st, pend', env', ps', ga', gb', d', hl3, hR⟩
    | exit id =>
      obtain ⟨env3, H3, ⟨st, pend', env', ps', ga', gb', d', hl3, hR⟩, hH3, hS3, hE3⟩ := hq3
      exact endr (some (.exit id)) false .done env3 H3 a3 w3 rfl rfl hH3 (hE2.trans hE3) ⟨st, pend', env', ps', ga', gb', d', hl3, hR⟩
    | goto t => exact hq3.elim
    | panic ch => exact hq3.elim
    | outgrown => exact hq3.elim
  | exit id => obtain ⟨_, _, ⟨h, _⟩, _⟩ := hq; cases h
  | ret => obtain ⟨_, _, ⟨h, _⟩, _⟩ := hq; cases h
  | goto l => exact hq.elim
  | panic ch => exact hq.elim
  | outgrown => exact hq.elim
end
end Go.Lift

