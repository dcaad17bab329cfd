/- Part 7 of the proof: the tools and contracts. Conditions: none. -/
import Derived.Test.YthnfcdkiaihfcaaGreatP6
set_option linter.unusedVariables false
set_option linter.unusedSimpArgs false
namespace Go.Lift
open Go
section
variable {P : Program} {H : AHeap} {w : World}

theorem bin_ok {t : TypeId} {op : BinOp} {x y : Operand} {u v : Value} {a b r : AV} (h : Rep H w u a) (h' : Rep H w v b) (hd : detV (.bin op) [a, b] H = some r) :
    DetOK P H w (do pure (.value (← (do eqGuard op t x y u v; binOp op t u v)))) r := by
  cases a <;> cases b <;> (try (simp [detV] at hd; done))
  rename_i k n k' n'
  rw [h.int_inv, h'.int_inv]
  obtain ⟨z, hz, hr⟩ := binInt_sound (P := P) (H := H) (w := w) (by simpa [detV] using hd) t
  exact DetOK.of (v := z) (by simp only [Sem.run_bind, eqGuard_int, Result.andThen_ok, hz]) hr
theorem binb_ok {t : TypeId} {op : BinOp} {x y : Operand} {u v : Value} {a b r : AV} (hu : P.underlying t = some .bool) (h : Rep H w u a) (h' : Rep H w v b) (hd : detV (.binb op) [a, b] H = some r) :
    DetOK P H w (do pure (.value (← (do eqGuard op t x y u v; binOp op t u v)))) r := by
  cases a <;> cases b <;> (try (cases op <;> simp [detV] at hd; done))
  rename_i p q
  rw [h.bool_inv, h'.bool_inv]
  cases op <;> (try (simp [detV] at hd; done))
  · simp only [detV, Option.some.injEq] at hd; subst hd
    exact DetOK.of (v := .bool (p == q)) (by simp only [Sem.run_bind, eqGuard_bool, Result.andThen_ok]; simp [binOp, run_equal_bool w t p q hu]) (.bool _)
  · simp only [detV, Option.some.injEq] at hd; subst hd
    exact DetOK.of (v := .bool (p != q)) (by simp only [Sem.run_bind, eqGuard_bool, Result.andThen_ok]; simp [binOp, run_equal_bool w t p q hu, bne]) (.bool _)

theorem rep_arr {ρ : Operand → Value} {env : Env} (hρ : ∀ x, Rep H w (ρ x) (ev env (opd x))) (l : List Operand) : (l.map ρ).toArray.size = ((l.map opd).map (ev env)).length ∧ ∀ (i : Nat) (x : AV), ((l.map opd).map (ev env))[i]? = some x → Rep H w ((l.map ρ).toArray.getD i undef) x := by
  refine ⟨by simp, fun i x hx => ?_⟩
  simp only [List.getElem?_map] at hx
  cases hl : l[i]? with
  | none => rw [hl] at hx; simp at hx
  | some o =>
    rw [hl] at hx
    simp only [Option.map_some, Option.some.injEq] at hx
    subst hx
    rw [getD_toList, List.getD_eq_getElem?_getD]
    simp only [List.getElem?_map, hl, Option.map_some, Option.getD_some]
    exact hρ o

theorem det_sound {o : Oper} {ρ : Operand → Value} {env : Env} {tag : Tag} {xs : List Opd} {r : AV} (ht : trOp P o = some (tag, xs)) (hd : detV tag (xs.map (ev env)) H = some r) (hH : HRel H w)
    (hρ : ∀ x, Rep H w (ρ x) (ev env (opd x))) : DetOK P H w (execOp ρ o) r := by
  obtain ⟨dst, op, type, pos, after, guard⟩ := o
  cases op with
  | move x =>
    simp only [trOp, Option.some.injEq, Prod.mk.injEq] at ht; obtain ⟨rfl, rfl⟩ := ht
    simp only [List.map, detV, Option.some.injEq] at hd; subst hd
    exact ⟨ρ x, w, rfl, hρ x, WG.refl w⟩
  | assign x =>
    simp only [trOp, Option.some.injEq, Prod.mk.injEq] at ht; obtain ⟨rfl, rfl⟩ := ht
    simp only [List.map, detV, Option.some.injEq] at hd; subst hd
    exact ⟨ρ x, w, rfl, hρ x, WG.refl w⟩
  | pick c a b =>
    simp only [trOp, Option.some.injEq, Prod.mk.injEq] at ht; obtain ⟨rfl, rfl⟩ := ht
    simp only [List.map] at hd
    have hc := hρ c; generalize ev env (opd c) = ac at hc hd
    cases ac <;> (try (simp [detV] at hd; done))
    rename_i t
    simp only [detV, Option.some.injEq] at hd; subst hd
    refine ⟨if t then ρ a else ρ b, w, ?_, ?_, WG.refl w⟩
    · simp only [execOp, hc.bool_inv, asBool]; cases t <;> rfl
    · cases t <;> simp <;> exact hρ _
  | alloc t =>
    simp only [trOp] at ht; split at ht <;> cases ht; simp [detV] at hd
  | box t x =>
    simp only [trOp, Option.some.injEq, Prod.mk.injEq] at ht; obtain ⟨rfl, rfl⟩ := ht; simp [detV] at hd
  | build t parts =>
    simp only [trOp] at ht
    split at ht
    · rename_i fs zs hu hz
      split at ht
      · rename_i szs hs
        split at ht
        · rename_i ps hp
          cases ht
          refine build_ok (parts := parts) (ρ := ρ) hu hz hs hp (by simp) (fun i p x hi hx => ?_) hd
          simp only [List.map_map, List.getElem?_map, hi, Option.map_some, Option.some.injEq] at hx
          subst hx; exact hρ p.2
        · cases ht
      · cases ht
    · rename_i n e zs hu hz
      split at ht
      · rename_i sz hs
        split at ht
        · rename_i hp; subst hp; cases ht
          exact build_arr_ok hu hz hs hd
        · cases ht
      · cases ht
    · cases ht
  | panic x => simp only [trOp] at ht; cases ht; simp [detV] at hd
  | makeInterface t x => simp only [trOp] at ht; cases ht; simp [detV] at hd
  | buildSlice t len parts =>
    simp only [trOp] at ht
    split at ht
    · rename_i e hu
      split at ht
      · rename_i sz zs hs hz
        split at ht
        · rename_i hc
          cases ht
          refine bslice_ok (parts := parts) (ρ := ρ) hH hu hs hz hc.1 hc.2.1 hc.2.2 (by simp) (fun i p x hi hx => ?_) hd
          simp only [List.map_map, List.getElem?_map, hi, Option.map_some, Option.some.injEq] at hx
          subst hx; exact hρ p.2
        · cases ht
      · cases ht
    · cases ht
  | load t x =>
    simp only [trOp] at ht
    split at ht
    · rename_i ag n h1 h2; cases ht; exact load_ok hH h1 h2 (hρ x) hd
    · cases ht
  | store t p x =>
    simp only [trOp] at ht; split at ht <;> cases ht; simp [detV] at hd
  | nilCheck x =>
    simp only [trOp, Option.some.injEq, Prod.mk.injEq] at ht; obtain ⟨rfl, rfl⟩ := ht
    simp only [List.map] at hd
    have hx := hρ x; generalize ev env (opd x) = ax at hx hd
    have hrun : ∀ ad, ρ x = .pointer (some ad) → (execOp ρ ⟨dst, .nilCheck x, type, pos, after, guard⟩).run P w = .ok (.value (ρ x)) w := fun ad h => by simp [execOp, h]
    generalize hv : ρ x = v at hx hrun
    cases hx <;> simp only [detV] at hd <;> (try (cases hd; done))
    · cases hd; exact ⟨_, w, hrun _ rfl, .ptr _ _, WG.refl w⟩
    · rename_i b off cs vs hr hx
      cases hd; exact ⟨_, w, hrun _ rfl, .elem b off cs vs hr hx, WG.refl w⟩
  | binOp op t x y yt =>
    simp only [trOp] at ht
    split at ht
    · rename_i k hu
      cases ht
      exact bin_ok (hρ x) (hρ y) hd
    · rename_i hu
      split at ht
      · cases ht
        exact binb_ok hu (hρ x) (hρ y) hd
      · cases ht
    · split at ht <;> cases ht; simp [detV] at hd
    · rename_i n e hu
      split at ht
      · rename_i hc
        obtain ⟨rfl, h1, h2, h3⟩ := hc
        cases ht
        refine eqagg_ok (x := x) (y := y) hu h1 ?_ h3 (hρ x) (hρ y) hd
        cases hp : plainInt P e <;> simp_all
      · cases ht
    · cases ht
  | unOp op t x =>
    cases op <;> simp only [trOp] at ht <;> (try (cases ht; done))
    cases ht
    simp only [List.map] at hd
    have hx := hρ x; generalize ev env (opd x) = ax at hx hd
    cases ax <;> (try (simp [detV] at hd; done))
    simp only [detV, Option.some.injEq] at hd; subst hd
    exact ⟨_, w, by simp [execOp, hx.bool_inv, Op.unary], .bool _, WG.refl w⟩
  | convert s d x =>
    simp only [trOp] at ht
    split at ht
    · rename_i k1 k hu1 hu
      cases ht
      simp only [List.map] at hd
      have hx := hρ x; generalize ev env (opd x) = ax at hx hd
      cases ax <;> (try (simp [detV] at hd; done))
      rename_i k2 n
      simp only [detV, Option.some.injEq] at hd; subst hd
      exact ⟨.int k (k.wrap n), w, by simp [execOp, hx.int_inv, convert, run_underlying hu1, run_underlying hu, Conv.intToInt], .int _ _, WG.refl w⟩
    · cases ht
  | makeFunc fn first cap =>
    simp only [trOp, Option.some.injEq, Prod.mk.injEq] at ht; obtain ⟨rfl, rfl⟩ := ht
    simp only [detV, Option.some.injEq] at hd; subst hd
    have h1 := rep_arr hρ first.toList
    have h2 := rep_arr hρ cap.toList
    have e1 : List.take first.size (((first ++ cap).toList.map opd).map (ev env)) = (first.toList.map opd).map (ev env) := by
      simp only [Array.toList_append, List.map_append]; rw [List.take_append_of_le_length (by simp), List.take_of_length_le (by simp)]
    have e2 : List.drop first.size (((first ++ cap).toList.map opd).map (ev env)) = (cap.toList.map opd).map (ev env) := by
      simp only [Array.toList_append, List.map_append]; rw [List.drop_append_of_le_length (by simp), List.drop_of_length_le (by simp)]; simp
    rw [e1, e2]
    refine ⟨.func fn (first.map ρ) (cap.map ρ), w, by simp [execOp, Instr.makeFunc], ?_, WG.refl w⟩
    rw [show first.map ρ = (first.toList.map ρ).toArray from (by apply Array.ext'; simp), show cap.map ρ = (cap.toList.map ρ).toArray from (by apply Array.ext'; simp)]
    exact .func fn _ _ _ _ h1.1 h2.1 h1.2 h2.2
  | makeMap t r => cases r <;> simp only [trOp] at ht <;> cases ht; simp [detV] at hd
  | makeSlice t l c =>
    simp only [trOp] at ht
    (repeat' split at ht) <;> (try (cases ht; done))
    cases ht; simp [detV] at hd
  | slice t x lo hi mx =>
    simp only [trOp] at ht
    split at ht
    · rename_i e h hu
      split at ht
      · rename_i sz hs; cases ht; exact sub_ok hu hs (hρ x) (hρ h) hd
      · cases ht
    · rename_i n e h hu
      split at ht
      · rename_i sz hs; cases ht; exact arrsub_ok hu hs (hρ x) (hρ h) hd
      · cases ht
    · rename_i n e hu
      split at ht
      · rename_i sz hs; cases ht; exact arrall_ok hu hs (hρ x) hd
      · cases ht
    · cases ht
  | fieldAddr s x f =>
    simp only [trOp] at ht
    split at ht
    · rename_i fs hu
      split at ht
      · rename_i fd hf
        split at ht
        · rename_i n hn
          split at ht
          · cases ht
          · rename_i h0; cases ht; exact fieldaddr_ok hu hf hn h0 (hρ x) hd
        · cases ht
      · cases ht
    · cases ht
  | field s x f =>
    simp only [trOp] at ht
    split at ht
    · rename_i fs hu
      split at ht
      · rename_i fd hf
        split at ht
        · rename_i ag n hag hn; cases ht; exact field_ok hu hf hag hn (hρ x) hd
        · cases ht
      · cases ht
    · cases ht
  | indexAddr t x i =>
    simp only [trOp] at ht
    split at ht
    · rename_i e hu
      split at ht
      · rename_i sz hs; cases ht; exact idxaddr_ok hu hs (hρ x) (hρ i) hd
      · cases ht
    · rename_i n e hu
      split at ht
      · rename_i sz hs; cases ht; exact arraddr_ok hu hs (hρ x) (hρ i) hd
      · cases ht
    · cases ht
  | index t x i =>
    simp only [trOp] at ht
    split at ht
    · rename_i n e hu
      split at ht
      · rename_i ag sz hag hs; cases ht; exact idx_ok hu hag hs (hρ x) (hρ i) hd
      · cases ht
    · cases ht
  | lookup t m k ok =>
    cases ok <;> simp only [trOp] at ht <;> (try (cases ht; done))
    split at ht
    · rename_i kt e hu
      split at ht
      · rename_i z hag hz
        split at ht
        · rename_i hp; cases ht; exact lookup_ok hH hu hp hz (hρ m) (hρ k) hd
        · cases ht
      · cases ht
    · cases ht
  | mapUpdate t m k v =>
    simp only [trOp] at ht; (repeat' split at ht) <;> (try (cases ht; done)); cases ht; simp [detV] at hd
  | mapEntry t m k =>
    simp only [trOp] at ht; (repeat' split at ht) <;> (try (cases ht; done)); cases ht; simp [detV] at hd
  | entryStore t m s v => simp only [trOp] at ht; cases ht; simp [detV] at hd
  | extract x i =>
    simp only [trOp, Option.some.injEq, Prod.mk.injEq] at ht; obtain ⟨rfl, rfl⟩ := ht
    simp only [List.map] at hd
    have hx := hρ x; generalize ev env (opd x) = ax at hx hd
    cases ax <;> (try (simp [detV] at hd; done))
    simp only [detV] at hd
    obtain ⟨arr, he, hs, hr⟩ := hx.tup_inv
    have hlt : i < arr.size := by
      rw [hs]
      rcases Nat.lt_or_ge i _ with h | h
      · exact h
      · rw [List.getElem?_eq_none h] at hd; cases hd
    exact ⟨arr.getD i undef, w, by simp [execOp, he, Instr.extract, Array.getElem?_eq_getElem hlt, Array.getD_eq_getD_getElem?], hr i _ hd, WG.refl w⟩
  | call c =>
    obtain ⟨callee, args, argTypes⟩ := c
    cases callee with
    | value f =>
      cases f <;> simp only [trOp] at ht <;> (try (split at ht)) <;> (try (cases ht; done)) <;> cases ht <;> simp [detV] at hd
    | invoke r m => simp only [trOp] at ht; cases ht
    | builtin b =>
      cases b <;> simp only [trOp] at ht <;> (try (cases ht; done))
      case append => (repeat' split at ht) <;> (try (cases ht; done)); cases ht; simp [detV] at hd
      case copy => (repeat' split at ht) <;> (try (cases ht; done)); cases ht; simp [detV] at hd
      case len =>
        split at ht
        · rename_i x t ha hat
          split at ht
          · rename_i e hu
            cases ht
            simp only [List.map] at hd
            have hargs : args = #[x] := by rw [← Array.toArray_toList (xs := args), ha]
            have hats : argTypes = #[t] := by rw [← Array.toArray_toList (xs := argTypes), hat]
            subst hargs; subst hats
            have hx := hρ x; generalize ev env (opd x) = ax at hx hd
            have run : ∀ a n c, (Instr.loadAt 0 (.slice a n c)).run P w = (Instr.loadAt 0 (.slice a n c)).run P w := fun _ _ _ => rfl
            by_cases hm : ∃ b off len cap, ax = .mslice b off len cap
            · obtain ⟨b, off, len, cap, rfl⟩ := hm
              simp only [detV, Option.some.injEq] at hd; subst hd
              refine ⟨.int .i64 len, w, ?_, .int _ _, WG.refl w⟩
              generalize hv : ρ x = v at hx
              cases hx
              simp [execOp, resolve, invoke, builtin, Builtin.len_, hv, run_underlying hu, goInt]
            · have hd' : (asSlice ax).map (fun es => AV.int .i64 es.length) = some r := by
                cases ax <;> first | exact hd | exact absurd ⟨_, _, _, _, rfl⟩ hm
              rw [Option.map_eq_some_iff] at hd'
              obtain ⟨es, hes, rfl⟩ := hd'
              obtain ⟨ad, cap, hv, _, _⟩ := asSlice_rep hx hes
              refine ⟨.int .i64 es.length, w, ?_, .int _ _, WG.refl w⟩
              simp [execOp, resolve, invoke, builtin, Builtin.len_, hv, run_underlying hu, goInt]
          · cases ht
        · cases ht
      case min =>
        split at ht
        · rename_i x y ha
          cases ht
          simp only [List.map] at hd
          have hargs : args = #[x, y] := by rw [← Array.toArray_toList (xs := args), ha]
          subst hargs
          have hx := hρ x; generalize ev env (opd x) = ax at hx hd
          have hy := hρ y; generalize ev env (opd y) = ay at hy hd
          cases ax <;> cases ay <;> (try (simp [detV] at hd; done))
          simp only [detV, Option.some.injEq] at hd; subst hd
          refine ⟨_, w, ?_, .int _ _, WG.refl w⟩
          simp [execOp, resolve, invoke, builtin, Builtin.min_, hx.int_inv, hy.int_inv, Builtin.min2]
        · cases ht
  | _ => simp only [trOp] at ht; cases ht
end
end Go.Lift

