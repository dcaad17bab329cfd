/- Part 13 of the proof: the tools and contracts. Conditions: none. -/
import Derived.Test.YthnfcdkiaihfcaaGreatP12
set_option linter.unusedVariables false
set_option linter.unusedSimpArgs false
namespace Go.Lift
open Go

/-- Does what is computed hang on the private heap? -/
def Tag.reads : Tag → Bool
  | .load _ _ | .lookup _ => true
  | _ => false

def wantedA (env : Env) : Option (Nat × Bool) → Option Bool
  | none => some true
  | some (t, want) => match env t with
    | .bool b => some (b == want)
    | .tup [] => some false
    | _ => none

/-- What an operation of the first part comes to. -/
def pval (P : Program) (fr : Bool) (u : AOp) (xs : List AV) (H : AHeap) (r : AV) : Prop :=
  if u.tag.isCall then (if fr then ∀ H', aopV P u.tag xs H' (fun r' H'' => r' = r ∧ H'' = H') else aopV P u.tag xs H (fun r' H'' => r' = r ∧ H'' = H))
  else detV u.tag xs H = some r

def apre (P : Program) : List (Bool × AOp) → Env → AHeap → (Env → Prop) → Prop
  | [], env, _, K => K env
  | (fr, u) :: rest, env, H, K => match wantedA env u.guard with
    | some true => ∃ r, pval P fr u (u.xs.map (ev env)) H r ∧ apre P rest (updO env u.dst r) H K
    | some false => apre P rest (updO env u.dst (.tup [])) H K
    | none => False

/-- What was read is still so. -/
def stab : List AOp → Env → AHeap → Prop
  | [], _, _ => True
  | u :: us, env, H => (wantedA env u.guard = some true → ∀ d, u.dst = some d → detV u.tag (u.xs.map (ev env)) H = some (env d)) ∧ stab us env H

/-- The orders in which the operations with effects can come. -/
inductive ATr where
  | done
  | one (o : AOp) (us : List AOp) (t : ATr)
  | alt (a b : ATr)

def atl (P : Program) : ATr → (Env → AHeap → Prop) → Env → AHeap → Prop
  | .done, K, env, H => K env H
  | .one o us t, K, env, H => aop1 P o env H fun env' H' => stab us env' H' ∧ atl P t K env' H'
  | .alt a b, K, env, H => atl P a K env H ∧ atl P b K env H

def adraw (P : Program) (pre : List (Bool × AOp)) (tl : ATr) (K : Env → AHeap → Prop) (env : Env) (H : AHeap) : Prop :=
  apre P pre env H fun env' => atl P tl K env' H

/-- The same by the operations' numbers. -/
inductive CT where
  | done
  | one (i : Nat) (t : CT)
  | alt (a b : CT)

def CT.heads : CT → List (Nat × CT)
  | .done => []
  | .one i t => [(i, t)]
  | .alt a b => a.heads ++ b.heads
def CT.tr (T : Nat → AOp × List AOp) : CT → ATr
  | .done => .done
  | .one i t => .one (T i).1 (T i).2 (t.tr T)
  | .alt a b => .alt (a.tr T) (b.tr T)
/-- Of each tree further down. -/
def CT.sub (C : List Nat → CT → Bool) : List Nat → CT → Bool
  | _, .done => true
  | s, .one i t => C (i :: s) t && t.sub C (i :: s)
  | s, .alt a b => a.sub C s && b.sub C s

theorem CT.sub_head {C : List Nat → CT → Bool} {s : List Nat} : ∀ {t : CT}, t.sub C s = true → ∀ p ∈ t.heads, C (p.1 :: s) p.2 = true ∧ p.2.sub C (p.1 :: s) = true
  | .done, _, p, hp => by simp [CT.heads] at hp
  | .one i t, h, p, hp => by
    simp only [CT.heads, List.mem_singleton] at hp
    subst hp
    simpa [CT.sub] using h
  | .alt a b, h, p, hp => by
    simp only [CT.sub, Bool.and_eq_true] at h
    simp only [CT.heads, List.mem_append] at hp
    rcases hp with hp | hp
    · exact CT.sub_head h.1 p hp
    · exact CT.sub_head h.2 p hp
theorem atl_head {P : Program} {T : Nat → AOp × List AOp} {K : Env → AHeap → Prop} {env : Env} {H : AHeap} : ∀ {t : CT}, atl P (t.tr T) K env H → ∀ p ∈ t.heads, aop1 P (T p.1).1 env H fun env' H' => stab (T p.1).2 env' H' ∧ atl P (p.2.tr T) K env' H'
  | .done, _, p, hp => by simp [CT.heads] at hp
  | .one i t, h, p, hp => by
    simp only [CT.heads, List.mem_singleton] at hp
    subst hp; exact h
  | .alt a b, h, p, hp => by
    simp only [CT.heads, List.mem_append] at hp
    rcases hp with hp | hp
    · exact atl_head h.1 p hp
    · exact atl_head h.2 p hp
theorem atl_end {P : Program} {T : Nat → AOp × List AOp} {K : Env → AHeap → Prop} {env : Env} {H : AHeap} : ∀ {t : CT}, t.heads = [] → atl P (t.tr T) K env H → K env H
  | .done, _, h => h
  | .one i t, h, _ => by simp [CT.heads] at h
  | .alt a b, h, h' => by
    simp only [CT.heads, List.append_eq_nil_iff] at h
    exact atl_end h.1 h'.1

section
variable {P : Program} {H : AHeap} {w : World}

theorem aopV_mono {tag : Tag} {xs : List AV} {R R' : AV → AHeap → Prop} (hR : ∀ r H', R r H' → R' r H') (h : aopV P tag xs H R) : aopV P tag xs H R' := by
  have hcall : ∀ f xs, ACalls P f xs H R → ACalls P f xs H R' := fun f xs h => ⟨h.1, fun w vs h1 h2 => (h.2 w vs h1 h2).mono (by
    rintro e w' ⟨v, he, r, H', a1, a2⟩; exact ⟨v, he, r, H', hR _ _ a1, a2⟩)⟩
  unfold aopV at h ⊢
  split at h
  · exact ⟨h.1, fun b hb => hR _ _ (h.2 b hb)⟩
  · exact fun b hb => hR _ _ (h b hb)
  · obtain ⟨h1, h2, h3, h4⟩ := h
    refine ⟨h1, h2, h3, ?_⟩
    split at h4
    · split at h4
      · exact ⟨h4.1, hR _ _ h4.2⟩
      · exact h4
    · exact h4
  · exact fun b hb => hR _ _ (h b hb)
  · exact ⟨h.1, h.2.1, h.2.2.1, fun b hb => hR _ _ (h.2.2.2 b hb)⟩
  · obtain ⟨es, h1, h2, h3, h4⟩ := h
    refine ⟨es, h1, h2, h3, ?_⟩
    split at h4
    · exact ⟨fun he => hR _ _ (h4.1 he), fun he => ⟨(h4.2 he).1, (h4.2 he).2.1, fun b c hb hcp => ((h4.2 he).2.2 b c hb hcp).imp (hR _ _) (hR _ _)⟩⟩
    · exact ⟨h4.1, h4.2.1, h4.2.2.1, h4.2.2.2.1, fun b c hb => hR _ _ (h4.2.2.2.2 b c hb)⟩
    · exact h4
  · obtain ⟨es, h1, h2, h3, h4⟩ := h
    refine ⟨es, h1, h2, h3, ?_⟩
    split at h4
    · split at h4
      · exact ⟨h4.1, hR _ _ h4.2⟩
      · exact h4
    · exact h4
  · obtain ⟨h1, h2, h3⟩ := h
    refine ⟨h1, h2, ?_⟩
    split at h3
    · exact h3
    · split at h3
      · split at h3
        · exact hR _ _ h3
        · exact h3
      · exact h3
  · split at h
    · exact h
    · split at h
      · split at h
        · exact fun n => hR _ _ (h n)
        · exact h
      · exact h
  · split at h
    · split at h
      · exact ⟨h.1, hR _ _ h.2⟩
      · exact h
    · exact h
  · obtain ⟨es, h1, h2⟩ := h
    exact ⟨es, h1, fun b hb => hR _ _ (h2 b hb)⟩
  · exact hcall _ _ h
  · split at h
    · exact hcall _ _ h
    · exact fun w vs h1 h2 => by
        obtain ⟨f, tmps, asg, bo, hy, hr⟩ := h w vs h1 h2
        exact ⟨f, tmps, asg, bo, hy, hr.mono (by rintro e w' ⟨v, he, r, H', a1, a2⟩; exact ⟨v, he, r, H', hR _ _ a1, a2⟩)⟩
    · exact h
  · obtain ⟨r, h1, h2⟩ := h
    exact ⟨r, h1, hR _ _ h2⟩

theorem aopV_of_det {tag : Tag} {xs : List AV} {R : AV → AHeap → Prop} {r : AV} (hd : detV tag xs H = some r) (hR : R r H) : aopV P tag xs H R := by
  unfold aopV
  split <;> first
    | exact ⟨r, hd, hR⟩
    | (simp [detV] at hd; done)

theorem detV_heap {tag : Tag} (h : tag.reads = false) (xs : List AV) (H H' : AHeap) : detV tag xs H = detV tag xs H' := by
  cases tag
  case load => simp [Tag.reads] at h
  case lookup => simp [Tag.reads] at h
  case field ag n off => cases ag <;> (rcases xs with _ | ⟨x, _ | ⟨y, l⟩⟩ <;> first | rfl | (cases x <;> rfl))
  case idx len ag sz => cases ag <;> (rcases xs with _ | ⟨x, _ | ⟨y, _ | ⟨z, l⟩⟩⟩ <;> first | rfl | (cases x <;> first | rfl | (cases y <;> rfl)))
  case binb op => cases op <;> (rcases xs with _ | ⟨x, _ | ⟨y, _ | ⟨z, l⟩⟩⟩ <;> first | rfl | (cases x <;> first | rfl | (cases y <;> rfl)))
  all_goals (rcases xs with _ | ⟨x, _ | ⟨y, _ | ⟨z, _ | ⟨u, l⟩⟩⟩⟩ <;> first | rfl | (cases x <;> first | rfl | (cases y <;> first | rfl | (cases z <;> rfl))))
end
end Go.Lift

