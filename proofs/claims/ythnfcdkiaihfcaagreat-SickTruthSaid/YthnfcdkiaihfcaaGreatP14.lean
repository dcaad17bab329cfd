/- Part 14 of the proof: the tools and contracts. Conditions: none. -/
import Derived.Test.YthnfcdkiaihfcaaGreatP13
set_option linter.unusedVariables false
set_option linter.unusedSimpArgs false
namespace Go.Lift
open Go

def opAll (u : AOp) : List Nat := opTmps u.xs ++ gTmp u.guard

/-- What is known of an operation of the first part. -/
def VOK (P : Program) (fr : Bool) (u : AOp) (env : Env) (H : AHeap) : Prop :=
  ∃ r, (∀ d, u.dst = some d → env d = r) ∧ ((wantedA env u.guard = some true ∧ pval P fr u (u.xs.map (ev env)) H r) ∨ (wantedA env u.guard = some false ∧ r = .tup []))

theorem ev_congr {env env' : Env} : ∀ {xs : List Opd}, (∀ t ∈ opTmps xs, env' t = env t) → xs.map (ev env') = xs.map (ev env)
  | [], _ => rfl
  | .t n :: xs, h => by
    simp only [List.map_cons]
    rw [ev_congr (xs := xs) (fun t ht => h t (by simp [opTmps, ht]))]
    simp only [ev]
    rw [h n (by simp [opTmps])]
  | .c v :: xs, h => by
    simp only [List.map_cons]
    rw [ev_congr (xs := xs) (fun t ht => h t (by simpa [opTmps] using ht))]
    rfl
theorem wanted_congr {env env' : Env} {g : Option (Nat × Bool)} (h : ∀ t ∈ gTmp g, env' t = env t) : wantedA env' g = wantedA env g := by
  cases g with
  | none => rfl
  | some p => obtain ⟨t, b⟩ := p; simp only [wantedA]; rw [h t (by simp [gTmp])]

theorem VOK.congr {P : Program} {fr : Bool} {u : AOp} {env env' : Env} {H : AHeap} (h : VOK P fr u env H) (h1 : ∀ t ∈ opAll u, env' t = env t) (h2 : ∀ d, u.dst = some d → env' d = env d) : VOK P fr u env' H := by
  obtain ⟨r, a, b⟩ := h
  refine ⟨r, fun d hd => (h2 d hd).trans (a d hd), ?_⟩
  rw [wanted_congr (fun t ht => h1 t (by simp [opAll, ht])), ev_congr (fun t ht => h1 t (by simp [opAll, ht]))]
  exact b

/-- The operations of the first part stand in an order in which each one's operands are there. -/
def preOK : List AOp → Bool
  | [] => true
  | u :: rest => (u :: rest).all (fun v => match v.dst with | some d => !(opAll u).contains d | none => true) && rest.all (fun v => v.dst.isNone || v.dst != u.dst) && preOK rest

theorem apre_vals {P : Program} {H : AHeap} : ∀ (l : List (Bool × AOp)) (env : Env) (K : Env → Prop), preOK (l.map (·.2)) = true → apre P l env H K →
    ∃ env', K env' ∧ (∀ t, (∀ p ∈ l, p.2.dst ≠ some t) → env' t = env t) ∧ ∀ p ∈ l, VOK P p.1 p.2 env' H
  | [], env, K, _, h => ⟨env, h, fun _ _ => rfl, fun p hp => by simp at hp⟩
  | (fr, u) :: rest, env, K, hok, h => by
    simp only [List.map_cons, preOK, Bool.and_eq_true, List.all_eq_true] at hok
    obtain ⟨⟨h1, h2⟩, h3⟩ := hok
    have hself : ∀ d, u.dst = some d → d ∉ opAll u := by
      intro d hd
      have := h1 u (by simp)
      simp only [hd] at this
      simpa using this
    have hrest : ∀ v ∈ rest.map (·.2), ∀ d, v.dst = some d → d ∉ opAll u := by
      intro v hv d hd
      have := h1 v (by simp at hv ⊢; exact .inr hv)
      simp only [hd] at this
      simpa using this
    have hdst : ∀ v ∈ rest.map (·.2), ∀ d, v.dst = some d → u.dst ≠ some d := by
      intro v hv d hd hu
      have := h2 v hv
      simp [hd, hu] at this
    have key : ∀ r, ((wantedA env u.guard = some true ∧ pval P fr u (u.xs.map (ev env)) H r) ∨ (wantedA env u.guard = some false ∧ r = .tup [])) → apre P rest (updO env u.dst r) H K →
        ∃ env', K env' ∧ (∀ t, (∀ p ∈ (fr, u) :: rest, p.2.dst ≠ some t) → env' t = env t) ∧ ∀ p ∈ (fr, u) :: rest, VOK P p.1 p.2 env' H := by
      intro r hr ha
      obtain ⟨env', a1, a2, a3⟩ := apre_vals rest (updO env u.dst r) K h3 ha
      have hops : ∀ t ∈ opAll u, env' t = env t := by
        intro t ht
        rw [a2 t (fun p hp hd => hrest p.2 (List.mem_map_of_mem hp) t hd ht)]
        cases hu : u.dst with
        | none => rfl
        | some d =>
          simp only [updO]
          rw [upd_ne _ _ (fun e => hself d hu (by rw [← e]; exact ht))]
      refine ⟨env', a1, fun t ht => ?_, fun p hp => ?_⟩
      · rw [a2 t (fun p hp => ht p (by simp [hp]))]
        have := ht (fr, u) (by simp)
        cases hu : u.dst with
        | none => rfl
        | some d =>
          simp only [updO]
          rw [upd_ne _ _ (fun e => this (by simp [hu, e]))]
      · simp only [List.mem_cons] at hp
        rcases hp with rfl | hp
        · refine ⟨r, fun d hd => ?_, ?_⟩
          · rw [a2 d (fun p hp hp2 => hdst p.2 (List.mem_map_of_mem hp) d hp2 hd)]
            simp only at hd
            simp [updO, hd]
          · simp only
            rw [wanted_congr (fun t ht => hops t (by simp [opAll, ht])), ev_congr (fun t ht => hops t (by simp [opAll, ht]))]
            exact hr
        · exact a3 p hp
    simp only [apre] at h
    split at h
    · rename_i hw
      obtain ⟨r, hr, ha⟩ := h
      exact key r (.inl ⟨hw, hr⟩) ha
    · rename_i hw
      exact key (.tup []) (.inr ⟨hw, rfl⟩) h
    · cases h

/-- What the rule asks of a region. -/
structure DrawFacts (P : Program) (N : Nat) (ops : Array Oper) (pre : List Nat) (C : List Nat → CT → Bool) (A : Nat → Nat → Prop) : Prop where
  trans : ∀ i, i < ops.size → ∃ ao, (ops[i]?).bind (trOper P N ops) = some ao
  edge : ∀ (i : Nat) (o : Oper), ops[i]? = some o → ∀ e ∈ o.after, Region.binds .any e = true → e.on < i
  anc : ∀ i j, i < ops.size → A i j → ∃ o, ops[i]? = some o ∧ ∃ e ∈ o.after, Region.binds .any e = true ∧ (j = e.on ∨ A e.on j)
  preLt : ∀ i ∈ pre, i < ops.size
  dst : ∀ (i j : Nat) (o q : Oper) (d : Nat), ops[i]? = some o → ops[j]? = some q → o.dst = some d → q.dst = some d → i = j
  opn : ∀ (i j : Nat) (ao : AOp) (q : Oper) (t : Nat), (ops[i]?).bind (trOper P N ops) = some ao → ops[j]? = some q → q.dst = some t → t ∈ opAll ao → j ∈ pre → A i j
  war : ∀ (i j : Nat) (ao : AOp) (q : Oper) (t : Nat), (ops[i]?).bind (trOper P N ops) = some ao → ops[j]? = some q → q.dst = some t → t ∈ opAll ao → i ∈ pre → j ∉ pre → A j i
  next : ∀ s t, C s t = true → ∀ i, i < ops.size → i ∉ pre → i ∉ s → (∀ j, A i j → j ∉ pre → j ∈ s) → ∃ t', (i, t') ∈ t.heads
  head : ∀ s t, C s t = true → ∀ p ∈ t.heads, p.1 < ops.size ∧ p.1 ∉ pre ∧ p.1 ∉ s

section
variable {P : Program}

theorem drew_wg (w : World) : WG w { w with drawn := w.drawn + 1 } := ⟨rfl, rfl, rfl, Nat.le_refl _, fun _ _ => rfl⟩

/-- The invariant while the operations are carried out. -/
structure Inv (P : Program) (N : Nat) (ops : Array Oper) (pre : List Nat) (C : List Nat → CT → Bool) (fr : Nat → Bool) (T : Nat → AOp × List AOp) (K : Env → AHeap → Prop) (H0 : AHeap) (w0 : World) (listed : Array Bool) (a : Act) (w : World) (s : List Nat) (ct : CT) (env : Env) (H : AHeap) : Prop where
  sizeL : listed.size = ops.size
  closed : ∀ (i : Nat) (o : Oper), ops[i]? = some o → listed.getD i false = true → ∀ e ∈ o.after, Region.binds .any e = true → listed.getD e.on false = true
  ok : C s ct = true
  sub : ct.sub C s = true
  tails : ∀ i, i < ops.size → i ∉ pre → (listed.getD i false = true ↔ i ∈ s)
  hrel : HRel H w
  size : a.tmps.size = N
  defers : a.defers = defs (env N)
  rep : ∀ t, t < N → (∃ j q, j ∈ pre ∧ ops[j]? = some q ∧ q.dst = some t ∧ listed.getD j false = false) ∨ Rep H w (a.tmps.getD t undef) (env t)
  vals : ∀ u ∈ pre, listed.getD u false = false → ∀ ao, (ops[u]?).bind (trOper P N ops) = some ao → VOK P (fr u) ao env H
  rest : atl P (ct.tr T) K env H
  ev : Evolve H0 w0 H w

theorem Inv.anc {N : Nat} {ops : Array Oper} {pre : List Nat} {C : List Nat → CT → Bool} {A : Nat → Nat → Prop} (F : DrawFacts P N ops pre C A) {listed : Array Bool}
    (closed : ∀ (i : Nat) (o : Oper), ops[i]? = some o → listed.getD i false = true → ∀ e ∈ o.after, Region.binds .any e = true → listed.getD e.on false = true) :
    ∀ (i : Nat), i < ops.size → listed.getD i false = true → ∀ j, A i j → listed.getD j false = true := by
  intro i
  induction i using Nat.strongRecOn with
  | _ i ih =>
    intro hi hl j hA
    obtain ⟨o, ho, e, he, hb, hj⟩ := F.anc i j hi hA
    have hon := closed i o ho hl e he hb
    have hlt := F.edge i o ho e he hb
    rcases hj with rfl | hj
    · exact hon
    · exact ih e.on hlt (by omega) hon j hj

/-- A ready operation's ancestors are all done. -/
theorem ready_anc {N : Nat} {ops : Array Oper} {pre : List Nat} {C : List Nat → CT → Bool} {A : Nat → Nat → Prop} (F : DrawFacts P N ops pre C A) {listed : Array Bool}
    (closed : ∀ (i : Nat) (o : Oper), ops[i]? = some o → listed.getD i false = true → ∀ e ∈ o.after, Region.binds .any e = true → listed.getD e.on false = true)
    {i : Nat} (hi : i ∈ Region.ready .any ops listed) : ∀ j, A i j → listed.getD j false = true := by
  intro j hA
  obtain ⟨_, o, ho, hall⟩ := mem_ready.1 hi
  have hlt : i < ops.size := (Array.getElem?_eq_some_iff.1 ho).1
  obtain ⟨o', ho', e, he, hb, hj⟩ := F.anc i j hlt hA
  rw [ho] at ho'
  cases ho'
  have hon := hall e he hb
  rcases hj with rfl | hj
  · exact hon
  · have := F.edge i o ho e he hb
    exact Inv.anc F closed e.on (by omega) hon j hj

theorem getD_listed (listed : Array Bool) (i j : Nat) (hi : i < listed.size) : (listed.setIfInBounds i true).getD j false = (if j = i then true else listed.getD j false) := by
  by_cases h : j = i
  · subst h; simp [hi]
  · rw [if_neg h, getD_set_ne false (fun e => h e.symm)]

theorem draw_step {ro : Option Nat} {N : Nat} {ops : Array Oper} {pre : List Nat} {C : List Nat → CT → Bool} {A : Nat → Nat → Prop} (F : DrawFacts P N ops pre C A) {fr : Nat → Bool} {T : Nat → AOp × List AOp} {K : Env → AHeap → Prop} {H0 : AHeap} {w0 : World} {Q : Exit → Act → World → Prop}
    (hT : ∀ i, i < ops.size → i ∉ pre → (ops[i]?).bind (trOper P N ops) = some (T i).1 ∧ ∀ u ∈ pre, ¬ A i u → (∃ au, (ops[u]?).bind (trOper P N ops) = some au ∧ (au.tag.isCall = true → fr u = true) ∧ (au.tag.isCall = false → au.tag.reads = true → au ∈ (T i).2)))
    (hreads : ∀ u ∈ pre, ∀ au, (ops[u]?).bind (trOper P N ops) = some au → au.tag.reads = true → au.dst.isSome = true)
    {listed : Array Bool} {a : Act} {w : World} {s : List Nat} {ct : CT} {env : Env} {H : AHeap} (I : Inv P N ops pre C fr T K H0 w0 listed a w s ct env H) {i : Nat} (hi : i ∈ Region.ready .any ops listed) :
    wpOpIn (WF ro) 0 P ops Q i (fun a' w' => ∃ s' ct' env' H', Inv P N ops pre C fr T K H0 w0 (listed.setIfInBounds i true) a' w' s' ct' env' H') a w := by
  obtain ⟨hun, o, ho, hall⟩ := mem_ready.1 hi
  have hlt : i < ops.size := (Array.getElem?_eq_some_iff.1 ho).1
  have hiL : listed.getD i false = false := by
    rw [Array.getD_eq_getD_getElem?, Array.getElem?_eq_getElem (by rw [I.sizeL]; exact hlt)] at hun ⊢
    simpa using hun
  have hanc := ready_anc F I.closed hi
  obtain ⟨ao, hao⟩ := F.trans i hlt
  have htr : trOper P N ops o = some ao := by rw [ho] at hao; exact hao
  obtain ⟨_, _, hdst, hx, hg, hdN⟩ := trOper_inv htr
  -- the state as far as it is known
  have hbad : ∃ bad : Nat → Prop, ∀ t, bad t ↔ ∃ j q, j ∈ pre ∧ ops[j]? = some q ∧ q.dst = some t ∧ listed.getD j false = false := ⟨_, fun _ => Iff.rfl⟩
  obtain ⟨bad, hbad⟩ := hbad
  let envv : Env := fun t => @ite _ (t < N ∧ bad t) (Classical.propDecidable _) AV.any (env t)
  have henvv : ∀ t, ¬ bad t → envv t = env t := fun t ht => by simp only [envv]; rw [if_neg (fun h => ht h.2)]
  have hN : envv N = env N := by simp only [envv]; rw [if_neg (fun h => by omega)]
  have hS : StRel N H w envv a := by
    refine ⟨I.size, fun t ht => ?_, by rw [hN]; exact I.defers⟩
    by_cases hb : bad t
    · simp only [envv]; rw [if_pos ⟨ht, hb⟩]; exact .any _
    · rw [henvv t hb]
      rcases I.rep t ht with h | h
      · exact absurd ((hbad t).2 h) hb
      · exact h
  have hopn : ∀ t ∈ opAll ao, ¬ bad t := by
    intro t ht hb
    obtain ⟨j, q, hjp, hq, hqd, hjl⟩ := (hbad t).1 hb
    have := hanc j (F.opn i j ao q t hao hq hqd ht hjp)
    rw [this] at hjl; cases hjl
  have hops : ao.xs.map (Lift.ev envv) = ao.xs.map (Lift.ev env) := ev_congr (fun t ht => henvv t (hopn t (by simp [opAll, ht])))
  have hwan : wantedA envv ao.guard = wantedA env ao.guard := wanted_congr (fun t ht => henvv t (hopn t (by simp [opAll, ht])))
  -- what is common to both cases
  have closed' : ∀ (j : Nat) (q : Oper), ops[j]? = some q → (listed.setIfInBounds i true).getD j false = true → ∀ e ∈ q.after, Region.binds .any e = true → (listed.setIfInBounds i true).getD e.on false = true := by
    intro j q hq hl e he hb
    rw [getD_listed _ _ _ (by rw [I.sizeL]; exact hlt)] at hl ⊢
    split at hl
    · rename_i hji
      subst hji
      rw [ho] at hq; cases hq
      rw [hall e he hb]; simp
    · rw [I.closed j q hq hl e he hb]; simp
  have bad' : ∀ t, bad t → o.dst ≠ some t → ∃ j q, j ∈ pre ∧ ops[j]? = some q ∧ q.dst = some t ∧ (listed.setIfInBounds i true).getD j false = false := by
    intro t hb hne
    obtain ⟨j, q, hjp, hq, hqd, hjl⟩ := (hbad t).1 hb
    refine ⟨j, q, hjp, hq, hqd, ?_⟩
    rw [getD_listed _ _ _ (by rw [I.sizeL]; exact hlt), if_neg ?_]
    · exact hjl
    · intro hji
      subst hji
      rw [ho] at hq; cases hq
      exact hne hqd
  by_cases hp : i ∈ pre
  · -- an operation of the first part
    obtain ⟨r, hr1, hr2⟩ := I.vals i hp hiL ao hao
    have ha1 : aop1 P ao envv H (fun env' H' => env' = updO envv ao.dst r ∧ H' = H) := by
      unfold aop1
      rcases hr2 with ⟨hw, hv⟩ | ⟨hw, rfl⟩
      · have main : aopV P ao.tag (ao.xs.map (Lift.ev envv)) H (fun r' H' => updO envv ao.dst r' = updO envv ao.dst r ∧ H' = H) := by
          rw [hops]
          unfold pval at hv
          split at hv
          · split at hv
            · exact aopV_mono (fun r' H' h => ⟨by rw [h.1], h.2⟩) (hv H)
            · exact aopV_mono (fun r' H' h => ⟨by rw [h.1], h.2⟩) hv
          · exact aopV_of_det hv ⟨rfl, rfl⟩
        rw [← hwan] at hw
        split
        · exact main
        · rename_i t want hgd
          rw [hgd] at hw
          simp only [wantedA] at hw
          split at hw
          · rename_i b hb
            rw [hb]
            simp only [Option.some.injEq, beq_iff_eq] at hw
            simp only [hw, if_true]
            exact main
          · cases hw
          · cases hw
      · rw [← hwan] at hw
        split
        · rename_i hgd; rw [hgd] at hw; cases hw
        · rename_i t want hgd
          rw [hgd] at hw
          simp only [wantedA] at hw
          split at hw
          · rename_i b hb
            rw [hb]
            simp only [Option.some.injEq, beq_eq_false_iff_ne] at hw
            simp only [hw, if_false]
            exact ⟨trivial, trivial⟩
          · rename_i hb
            rw [hb]
            exact ⟨rfl, rfl⟩
          · cases hw
    refine wpOpIn_mono ?_ (aop1_sound (ro := ro) (Q := Q) ho htr ha1 I.hrel hS)
    rintro a' w' ⟨env', H', ⟨rfl, rfl⟩, hH', hS', hE⟩
    refine ⟨s, ct, env, H', ⟨by simp [I.sizeL], closed', I.ok, I.sub, fun j hj hjp => ?_, hH', hS'.size, ?_, fun t ht => ?_, fun u hu hul au hau => ?_, I.rest, I.ev.trans hE⟩⟩
    · rw [getD_listed _ _ _ (by rw [I.sizeL]; exact hlt), if_neg (fun e => hjp (by subst e; exact hp))]
      exact I.tails j hj hjp
    · rw [hS'.defers]
      cases hd : ao.dst with
      | none => simp only [updO]; rw [hN]
      | some d =>
        have := hdN d (by rw [← hdst]; exact hd)
        simp only [updO]; rw [upd_ne _ _ (show N ≠ d from Nat.ne_of_gt this), hN]
    · by_cases hd : o.dst = some t
      · right
        have := hS'.rep t ht
        rw [hdst, hd] at this
        simp only [updO, upd_same] at this
        rwa [hr1 t (by rw [hdst]; exact hd)]
      · by_cases hb : bad t
        · exact .inl (bad' t hb hd)
        · right
          have := hS'.rep t ht
          rw [hdst] at this
          have e1 : updO envv o.dst r t = env t := by
            cases hod : o.dst with
            | none => simp only [updO]; exact henvv t hb
            | some d => simp only [updO]; rw [upd_ne _ _ (fun e => hd (by rw [hod, e])), henvv t hb]
          rwa [e1] at this
    · rw [getD_listed _ _ _ (by rw [I.sizeL]; exact hlt)] at hul
      split at hul
      · cases hul
      · exact I.vals u hu hul au hau
  · -- the next one of the chain
    have hitk : i ∉ s := fun h => by have := (I.tails i hlt hp).2 h; rw [hiL] at this; cases this
    obtain ⟨ct', hmem'⟩ := F.next s ct I.ok i hlt hp hitk (fun j hA hjp => by
      have hj := hanc j hA
      have hjlt : j < ops.size := by
        have h0 : j < listed.size := by
          rcases Nat.lt_or_ge j listed.size with h | h
          · exact h
          · rw [Array.getD_eq_getD_getElem?, Array.getElem?_eq_none h] at hj; cases hj
        rw [← I.sizeL]; exact h0
      exact (I.tails j hjlt hjp).1 hj)
    obtain ⟨h2, hloose⟩ := hT i hlt hp
    have hrest := atl_head I.rest _ hmem'
    have hsub := CT.sub_head I.sub _ hmem'
    simp only at hrest hsub
    have hTi : ∃ us, T i = (ao, us) := by
      rw [hao] at h2; injection h2 with h2; exact ⟨(T i).2, by rw [h2]⟩
    obtain ⟨us, hTi⟩ := hTi
    rw [hTi] at hrest hloose
    simp only at hrest hloose
    -- the same in the state that is known
    have ha1 : aop1 P ao envv H (fun env' H' => ∃ r, env' = updO envv ao.dst r ∧ stab us (updO env ao.dst r) H' ∧ atl P (ct'.tr T) K (updO env ao.dst r) H') := by
      unfold aop1 at hrest ⊢
      have main : aopV P ao.tag (ao.xs.map (Lift.ev env)) H (fun r H' => stab us (updO env ao.dst r) H' ∧ atl P (ct'.tr T) K (updO env ao.dst r) H') →
          aopV P ao.tag (ao.xs.map (Lift.ev envv)) H (fun r H' => ∃ r', updO envv ao.dst r = updO envv ao.dst r' ∧ stab us (updO env ao.dst r') H' ∧ atl P (ct'.tr T) K (updO env ao.dst r') H') := by
        intro h
        rw [hops]
        exact aopV_mono (fun r H' h => ⟨r, rfl, h⟩) h
      split at hrest
      · rename_i hgd
        exact main hrest
      · rename_i t want hgd
        have ht : envv t = env t := henvv t (hopn t (by simp [opAll, hgd, gTmp]))
        rw [ht]
        split at hrest
        · rename_i b hb
          split at hrest
          · rename_i hbw; rw [if_pos hbw]; exact main hrest
          · rename_i hbw; rw [if_neg hbw]; exact ⟨.tup [], rfl, hrest⟩
        · exact ⟨.tup [], rfl, hrest⟩
        · cases hrest
    refine wpOpIn_mono ?_ (aop1_sound (ro := ro) (Q := Q) ho htr ha1 I.hrel hS)
    rintro a' w' ⟨env', H', ⟨r, rfl, hstab, hatl⟩, hH', hS', hE⟩
    refine ⟨i :: s, ct', updO env ao.dst r, H', ⟨by simp [I.sizeL], closed', hsub.1, hsub.2, fun j hj hjp => ?_, hH', hS'.size, ?_, fun t ht => ?_, fun u hu hul au hau => ?_, hatl, I.ev.trans hE⟩⟩
    · rw [getD_listed _ _ _ (by rw [I.sizeL]; exact hlt)]
      by_cases hji : j = i
      · subst hji; simp
      · rw [if_neg hji, I.tails j hj hjp]; simp [hji]
    · rw [hS'.defers]
      cases hd : ao.dst with
      | none => simp only [updO]; rw [hN]
      | some d =>
        have := hdN d (by rw [← hdst]; exact hd)
        simp only [updO]; rw [upd_ne _ _ (show N ≠ d from Nat.ne_of_gt this), upd_ne _ _ (show N ≠ d from Nat.ne_of_gt this), hN]
    · by_cases hd : o.dst = some t
      · right
        have := hS'.rep t ht
        rw [hdst, hd] at this ⊢
        simpa only [updO, upd_same] using this
      · by_cases hb : bad t
        · exact .inl (bad' t hb hd)
        · right
          have := hS'.rep t ht
          rw [hdst] at this ⊢
          have e1 : updO envv o.dst r t = updO env o.dst r t := by
            cases hod : o.dst with
            | none => simp only [updO]; exact henvv t hb
            | some d => simp only [updO]; rw [upd_ne _ _ (fun e => hd (by rw [hod, e])), upd_ne _ _ (fun e => hd (by rw [hod, e])), henvv t hb]
          rwa [e1] at this
    · rw [getD_listed _ _ _ (by rw [I.sizeL]; exact hlt)] at hul
      split at hul
      · cases hul
      · rename_i hui
        have hnA : ¬ A i u := fun h => by have := hanc u h; rw [hul] at this; cases this
        obtain ⟨au', hau', hcall, hmem⟩ := hloose u hu hnA
        rw [hau] at hau'; cases hau'
        obtain ⟨sv, hs1, hs2⟩ := I.vals u hu hul au hau
        have hulr : u < ops.size := F.preLt u hu
        obtain ⟨ou, hou⟩ : ∃ ou, ops[u]? = some ou := ⟨_, Array.getElem?_eq_getElem hulr⟩
        have htru : trOper P N ops ou = some au := by rw [hou] at hau; exact hau
        have hdu := (trOper_inv htru).2.2.1
        have henv1 : ∀ t, t ∈ opAll au ∨ au.dst = some t → updO env ao.dst r t = env t := by
          intro t ht
          cases hd : ao.dst with
          | none => rfl
          | some d =>
            simp only [updO]
            refine upd_ne _ _ (fun e => ?_)
            subst e
            have hod : o.dst = some t := by rw [← hdst]; exact hd
            rcases ht with ht | ht
            · exact hnA (F.war u i au o t hau ho hod ht hu hp)
            · exact hui (F.dst u i ou o t hou ho (by rw [← hdu]; exact ht) hod)
        refine ⟨sv, fun d hd => by rw [henv1 d (.inr hd)]; exact hs1 d hd, ?_⟩
        rw [wanted_congr (fun t ht => henv1 t (.inl (by simp [opAll, ht]))), ev_congr (fun t ht => henv1 t (.inl (by simp [opAll, ht])))]
        rcases hs2 with ⟨hw, hv⟩ | h
        · refine .inl ⟨hw, ?_⟩
          unfold pval at hv ⊢
          by_cases hc : au.tag.isCall = true
          · rw [if_pos hc] at hv ⊢
            rw [if_pos (hcall hc)] at hv ⊢
            exact hv
          · rw [if_neg hc] at hv ⊢
            by_cases hrd : au.tag.reads = true
            · have hmu := hmem (by simpa using hc) hrd
              have hst : ∀ (l : List AOp), au ∈ l → stab l (updO env ao.dst r) H' → (wantedA (updO env ao.dst r) au.guard = some true → ∀ d, au.dst = some d → detV au.tag (au.xs.map (Lift.ev (updO env ao.dst r))) H' = some (updO env ao.dst r d)) := by
                intro l
                induction l with
                | nil => intro h; simp at h
                | cons x l ih =>
                  intro h hs
                  simp only [stab] at hs
                  rcases List.mem_cons.1 h with rfl | h
                  · exact hs.1
                  · exact ih h hs.2
              have := hst us hmu hstab
              rw [wanted_congr (fun t ht => henv1 t (.inl (by simp [opAll, ht]))), ev_congr (fun t ht => henv1 t (.inl (by simp [opAll, ht])))] at this
              have hsome := hreads u hu au hau hrd
              cases hd : au.dst with
              | none => rw [hd] at hsome; cases hsome
              | some d =>
                have h5 := this hw d hd
                rw [henv1 d (.inr hd), hs1 d hd] at h5
                exact h5
            · rw [detV_heap (by simpa using hrd) _ H' H]; exact hv
        · exact .inr h
end
end Go.Lift

