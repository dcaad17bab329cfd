/- Part 10 of the proof: the tools and contracts. Conditions: none. -/
import Derived.Test.YthnfcdkiaihfcaaGreatP9
set_option linter.unusedVariables false
set_option linter.unusedSimpArgs false
namespace Go.Lift
open Go
section
variable {P : Program} {H : AHeap} {w : World} {R : AV → AHeap → Prop}

theorem getObj_run {b : Nat} {en : Array MapEntry} {cl : Nat} (h : w.heap[b]? = some (.map en cl)) : (getObj b).run P w = .ok (.map en cl) w := by simp [getObj, Sem.run, h]
theorem setObj_run {b : Nat} {en : Array MapEntry} {cl : Nat} {o : Obj} (h : w.heap[b]? = some (.map en cl)) : (setObj b o).run P w = .ok () { w with heap := w.heap.setIfInBounds b o } := by simp [setObj, Sem.run, h]

theorem mapupd_ok {t kt e : TypeId} {m k v : Value} {am ak av : AV} (hH : HRel H w) (ht : P.underlying t = some (.map kt e)) (hp : isPair P kt = true)
    (h : Rep H w m am) (hk : Rep H w k ak) (hv : Rep H w v av) (hR : aopV P .mapupd [am, ak, av] H R) : EffOK P H w (do Instr.mapUpdate t m k v; pure .skip) R := by
  obtain ⟨hok, hcell, hR⟩ := hR
  split at hR
  · cases hR
  rename_i q hq
  rw [pair_rep hk hq]
  cases am <;> simp only at hR
  rename_i b
  cases h
  split at hR
  · rename_i es hb
    obtain ⟨en, cl, h1, h2, h3, h4, hfound, hnew⟩ := set_entries hH hb q hv
    have hfk := find_key (P := P) (w := w) hp q es en h2 h3
    cases hf : findIdx' q es 0 with
    | none =>
      rw [hf] at hfk
      obtain ⟨a1, _, a3⟩ := hnew hf
      refine EffOK.skip (w' := _) ?_ ⟨.any, _, hR, a1, .any _, a3 none⟩
      simp [Instr.mapUpdate, run_underlying ht, getObj_run h1, pair_check hp, hfk, setObj_run h1]
    | some p =>
      obtain ⟨n, u⟩ := p
      rw [hf] at hfk
      obtain ⟨hlt, hkey, a1, _, a3⟩ := hfound n u hf
      refine EffOK.skip (w' := _) ?_ ⟨.any, _, hR, a1, .any _, a3 none⟩
      have hen : ((en[n]?).map (·.key)).getD (pairV q) = pairV q := by
        rw [Array.getElem?_eq_getElem hlt]
        simp only [Option.map_some, Option.getD_some]
        rw [Array.getD_eq_getD_getElem?, Array.getElem?_eq_getElem hlt] at hkey
        exact hkey
      simp [Instr.mapUpdate, run_underlying ht, getObj_run h1, pair_check hp, hfk]
      simp only [Array.getElem?_eq_getElem hlt] at hen
      simp [hlt, Instr.keyThatStays] at hen ⊢
      rw [hen]
      simp [sameBits_pair, setObj_run h1]
  · cases hR

theorem mapent_ok {t kt e : TypeId} {z m k : Value} {am ak : AV} (hH : HRel H w) (ht : P.underlying t = some (.map kt e)) (hp : isPair P kt = true) (hz : (P.info? e).bind (·.zero) = some z)
    (h : Rep H w m am) (hk : Rep H w k ak) (hR : aopV P (.mapent (avC z)) [am, ak] H R) : EffOK P H w (do pure (.value (← Instr.mapEntry t m k))) R := by
  have hzero : (zeroValue e).run P w = .ok z w := by
    rw [Option.bind_eq_some_iff] at hz
    obtain ⟨i, hi, hz⟩ := hz
    simp [zeroValue, run_typeInfo w hi, hz]
  simp only [aopV] at hR
  split at hR
  · cases hR
  rename_i q hq
  rw [pair_rep hk hq]
  cases am <;> simp only at hR
  rename_i b
  cases h
  split at hR
  · rename_i es hb
    have hfi := findIdx_find q es 0
    cases hf : findIdx' q es 0 with
    | none =>
      rw [hf] at hfi
      simp only [Option.map_none] at hfi
      rw [← hfi] at hR
      simp only [Option.getD_none] at hR
      obtain ⟨en, cl, h1, h2, h3, h4, hfound, hnew⟩ := set_entries hH hb q (avC_rep H w z)
      have hfk := find_key (P := P) (w := w) hp q es en h2 h3
      rw [hf] at hfk
      obtain ⟨_, a2, a3⟩ := hnew hf
      have hR' := hR cl
      refine EffOK.value (v := .tuple #[z, goInt cl]) (w' := _) ?_ ⟨_, _, hR', a2, ?_, a3 _⟩
      · simp [Instr.mapEntry, run_underlying ht, getObj_run h1, pair_check hp, hfk, hzero, setObj_run h1]
      · refine .tup _ _ rfl (fun i x hi => ?_)
        match i, hi with
        | 0, hi => cases hi; exact (avC_rep _ _ z)
        | 1, hi => cases hi; exact .int _ _
    | some p =>
      obtain ⟨n, u⟩ := p
      rw [hf] at hfi
      simp only [Option.map_some] at hfi
      rw [← hfi] at hR
      simp only [Option.getD_some] at hR
      obtain ⟨en0, cl0, g1, g2, g3, _⟩ := hH b _ hb
      have hnu : es[n]? = some (q, u) := by
        have := (find_asking (P := P) (w := w) hp q es en0.toList 0 (by simpa using g2) (fun j k v hj => by rw [← getD_default]; exact (g3 j k v hj).1)).2 n u hf
        simpa using this.2.2.1
      have hval := (g3 n q u hnu).2
      obtain ⟨en, cl, h1, h2, h3, h4, hfound, hnew⟩ := set_entries hH hb q hval
      have heq : en0 = en := by rw [g1] at h1; cases h1; rfl
      subst heq
      have hfk := find_key (P := P) (w := w) hp q es en0 h2 h3
      rw [hf] at hfk
      obtain ⟨hlt, hkey, _, a2, a3⟩ := hfound n u hf
      have hR' := hR (en0.getD n default).born
      have hE := a3 (some ((en0.getD n default).born, q))
      refine EffOK.value (v := .tuple #[(en0.getD n default).val, goInt (en0.getD n default).born]) (w' := _) ?_ ⟨_, _, hR', a2, ?_, hE⟩
      · have hen : en0[n] = en0.getD n default := by rw [Array.getD_eq_getD_getElem?, Array.getElem?_eq_getElem hlt]; rfl
        have hk2 : en0[n].key = pairV q := by rw [hen]; exact hkey
        simp [Instr.mapEntry, run_underlying ht, getObj_run h1, pair_check hp, hfk]
        simp [hlt, Instr.keyThatStays, hk2, sameBits_pair, setObj_run h1]
        have hmod : (en0.modify n fun e => { key := pairV q, val := e.val, born := e.born }) = en0.modify n fun e => { key := pairV q, val := en0[n].val, born := e.born } := by
         apply Array.ext_getElem?
         intro j
         simp only [Array.getElem?_modify]
         by_cases hj : n = j
         · subst hj; rw [if_pos rfl, if_pos rfl, Array.getElem?_eq_getElem hlt]; rfl
         · rw [if_neg hj, if_neg hj]
        rw [hmod]
      · refine .tup _ _ rfl (fun i x hi => ?_)
        match i, hi with
        | 0, hi => cases hi; exact hval.mono hE
        | 1, hi => cases hi; exact .int _ _
  · cases hR

theorem entstore_ok {t : TypeId} {m s v : Value} {am sv av : AV} (hH : HRel H w) (h : Rep H w m am) (hs : Rep H w s sv) (hv : Rep H w v av) (hR : aopV P .entstore [am, sv, av] H R) : EffOK P H w (do Instr.entryStore t m s v; pure .skip) R := by
  cases sv <;> (try (simp [aopV, detV] at hR; done))
  rename_i k n
  cases k <;> (try (simp [aopV, detV] at hR; done))
  cases hs.int_inv
  simp only [aopV] at hR
  cases am <;> simp only at hR
  rename_i b
  cases h
  split at hR
  · rename_i es n' q hb
    obtain ⟨rfl, hR⟩ := hR
    obtain ⟨en0, cl0, g1, g2, g3, g4, g5, g6⟩ := hH b _ hb
    obtain ⟨i, u, hi, hbefore, hborn⟩ := g6 n' q rfl
    obtain ⟨en, cl, h1, h2, h3, h4, hfound, hnew⟩ := set_entries hH hb q hv
    have heq : en0 = en := by rw [g1] at h1; cases h1; rfl
    subst heq
    have hcl : cl0 = cl := by rw [g1] at h1; cases h1; rfl
    subst hcl
    have hilt : i < en0.size := by rw [g2]; exact lt_of_some hi
    have hfi : findIdx' q es 0 = some (i, u) := by
      have : ∀ (es : List ((Int × Int) × AV)) (i k : Nat), es[i]? = some (q, u) → (∀ j, j < i → ∀ v', es[j]? ≠ some (q, v')) → findIdx' q es k = some (k + i, u) := by
        intro es
        induction es with
        | nil => intro i k h; simp at h
        | cons p es ih =>
          obtain ⟨k', v'⟩ := p
          intro i k h hb
          cases i with
          | zero => simp only [List.getElem?_cons_zero, Option.some.injEq, Prod.mk.injEq] at h; simp [findIdx', h.1, h.2]
          | succ i =>
            have hne : ¬ k' = q := fun e => hb 0 (by omega) v' (by simp [e])
            simp only [findIdx', hne, if_false]
            rw [ih i (k + 1) (by simpa using h) (fun j hj v'' => by simpa using hb (j + 1) (by omega) v'')]
            simp only [Option.some.injEq, Prod.mk.injEq, and_true]; omega
      simpa using this es i 0 hi hbefore
    obtain ⟨hlt, hkey, a1, _, a3⟩ := hfound i u hfi
    refine EffOK.skip (w' := _) ?_ ⟨.any, _, hR, a1, .any _, a3 none⟩
    have hfx : en0.findIdx? (fun e => (e.born : Int) == (n' : Int)) = some i := by
      rw [Array.findIdx?_eq_some_iff_getElem]
      have hget : ∀ j (hj : j < en0.size), en0[j] = en0.getD j default := fun j hj => by rw [Array.getD_eq_getD_getElem?, Array.getElem?_eq_getElem hj]; rfl
      refine ⟨hilt, by rw [hget i hilt, hborn]; simp, fun j hj => ?_⟩
      rw [hget j (by omega)]
      have := g4 j i hj hilt
      rw [hborn] at this
      intro hcontra
      rw [beq_iff_eq] at hcontra
      omega
    have hk2 : (en0.modify i fun e => { e with key := pairV q, val := v }) = en0.modify i fun e => { e with val := v } := by
      apply Array.ext_getElem?
      intro j
      simp only [Array.getElem?_modify]
      by_cases hj : i = j
      · subst hj
        rw [Array.getD_eq_getD_getElem?, Array.getElem?_eq_getElem hilt] at hkey
        simp [hilt]; exact hkey.symm
      · simp [hj]
    rw [hk2]
    simp [Instr.entryStore, getObj_run h1, asInt, asIntOf, hfx, setObj_run h1]
  · cases hR

theorem isnil_ok {t e : TypeId} {x : Operand} {v : Value} {a : AV} (hH : HRel H w) (ht : P.underlying t = some (.slice e)) (h : Rep H w v a) (hR : aopV P .isnil [a] H R) {y : Operand} :
    EffOK P H w (do pure (.value (← (do eqGuard .eql t x y v (.slice none 0 0); binOp .eql t v (.slice none 0 0))))) R := by
  obtain ⟨es, hes, hR⟩ := hR
  obtain ⟨ad, cap, rfl, hcap, hne⟩ := asSlice_rep h hes
  have hrun : (Op.equal t (.slice ad es.length cap) (.slice none 0 0)).run P w = .ok ad.isNone w := by
    simp only [Op.equal, Op.maxDepth]
    rw [show (10000 : Nat) = 9999 + 1 from rfl, Op.equalIn]
    simp only [Sem.run_bind, run_underlying ht, Result.andThen_ok]
    cases ad <;> simp
  refine EffOK.value (v := .bool ad.isNone) (w' := w) ?_ ⟨_, H, hR ad.isNone (fun hb => ?_), hH, .bool _, Evolve.refl _ _⟩
  · simp only [Sem.run_bind, eqGuard_slice, Result.andThen_ok]
    simp [binOp, hrun]
  · by_cases he : es = []
    · exact he
    · obtain ⟨b, off, sz, rfl, _⟩ := hne he
      cases hb

theorem det_eff {s : Sem Next} {r : AV} (hH : HRel H w) (h : DetOK P H w s r) (hR : R r H) : EffOK P H w s R := by
  obtain ⟨v, w', h1, h2, h3⟩ := h
  exact .inl ⟨v, w', h1, r, H, hR, h3.hrel hH, h2, h3.evolve hH⟩

/-- Which tags are calls of functions. -/
def Tag.isCall : Tag → Bool
  | .call _ | .callv => true
  | _ => false

/-- Every operation but the calls. -/
theorem eff_sound {o : Oper} {ρ : Operand → Value} {env : Env} {tag : Tag} {xs : List Opd} (ht : trOp P o = some (tag, xs)) (hc : tag.isCall = false) (hR : aopV P tag (xs.map (ev env)) H R) (hH : HRel H w)
    (hρ : ∀ x, Rep H w (ρ x) (ev env (opd x))) (hconst : ∀ v, ρ (.const v) = v) : EffOK P H w (execOp ρ o) R := by
  have hdet : ∀ r, detV tag (xs.map (ev env)) H = some r → R r H → EffOK P H w (execOp ρ o) R := fun r hd hr => det_eff hH (det_sound ht hd hH hρ) hr
  obtain ⟨dst, op, type, pos, after, guard⟩ := o
  cases op with
  | alloc t =>
    simp only [trOp] at ht; split at ht <;> cases ht
    rename_i zs hz
    exact alloc_ok hH hz hR
  | box t x =>
    simp only [trOp, Option.some.injEq, Prod.mk.injEq] at ht; obtain ⟨rfl, rfl⟩ := ht
    exact box_ok hH (hρ x) hR
  | store t p x =>
    simp only [trOp] at ht; split at ht <;> cases ht
    rename_i n hn
    exact store_ok hH hn (hρ p) (hρ x) hR
  | binOp op t x y yt =>
    simp only [trOp] at ht
    split at ht
    · cases ht; obtain ⟨r, h1, h2⟩ := (show ∃ r, detV (.bin op) [ev env (opd x), ev env (opd y)] H = some r ∧ R r H from by cases op <;> exact hR); exact hdet r h1 h2
    · split at ht
      · cases ht; obtain ⟨r, h1, h2⟩ := (show ∃ r, detV (.binb op) [ev env (opd x), ev env (opd y)] H = some r ∧ R r H from by cases op <;> exact hR); exact hdet r h1 h2
      · cases ht
    · rename_i e hu
      split at ht <;> cases ht
      have := isnil_ok (x := x) (y := .const (.slice none 0 0)) hH hu (hρ x) hR
      simp only [execOp, hconst]; exact this
    · split at ht
      · cases ht; obtain ⟨r, h1, h2⟩ := hR; exact hdet r h1 h2
      · cases ht
    · cases ht
  | makeMap t r =>
    cases r <;> simp only [trOp] at ht <;> cases ht
    exact mkmap_ok hH hR
  | makeSlice t l c =>
    simp only [trOp] at ht
    split at ht
    · rename_i e hu
      split at ht
      · rename_i sz bytes zs h1 h2 h3
        split at ht
        · rename_i i j
          split at ht
          · rename_i hc
            obtain ⟨rfl, hl, h0⟩ := hc
            cases ht
            exact mkslice_ok hH hu h1 h2 h3 hl h0 (hρ (.tmp i)) hR
          · cases ht
        · cases ht
      · cases ht
    · cases ht
  | mapUpdate t m k v =>
    simp only [trOp] at ht
    split at ht
    · rename_i kt e hu
      split at ht
      · rename_i hp; cases ht; exact mapupd_ok hH hu hp (hρ m) (hρ k) (hρ v) hR
      · cases ht
    · cases ht
  | mapEntry t m k =>
    simp only [trOp] at ht
    split at ht
    · rename_i kt e hu
      split at ht
      · rename_i z hz
        split at ht
        · rename_i hp; cases ht; exact mapent_ok hH hu hp hz (hρ m) (hρ k) hR
        · cases ht
      · cases ht
    · cases ht
  | entryStore t m s v =>
    simp only [trOp] at ht; cases ht
    exact entstore_ok hH (hρ m) (hρ s) (hρ v) hR
  | call c =>
    obtain ⟨callee, args, argTypes⟩ := c
    cases callee with
    | value f =>
      cases f <;> simp only [trOp] at ht <;> (try (split at ht)) <;> (try (cases ht; done)) <;> cases ht <;> simp [Tag.isCall] at hc
    | invoke r m => simp only [trOp] at ht; cases ht
    | builtin b =>
      cases b <;> simp only [trOp] at ht <;> (try (cases ht; done))
      case append =>
        split at ht
        · rename_i x y t t' ha hat
          split at ht
          · rename_i e e' hu hu'
            split at ht
            · rename_i sz bytes zs h1 h2 h3
              split at ht
              · rename_i hcc
                cases ht
                have hargs : args = #[x, y] := by rw [← Array.toArray_toList (xs := args), ha]
                have hats : argTypes = #[t, t'] := by rw [← Array.toArray_toList (xs := argTypes), hat]
                subst hargs; subst hats
                have := append_ok (ty := type) hH hu hu' h1 h2 h3 hcc.1 hcc.2 (hρ x) (hρ y) hR
                simpa [execOp, resolve, invoke, builtin] using this
              · cases ht
            · cases ht
          · cases ht
        · cases ht
      case copy =>
        split at ht
        · rename_i x y t t' ha hat
          split at ht
          · rename_i e hu
            split at ht
            · rename_i sz h1
              split at ht
              · rename_i h0
                cases ht
                have hargs : args = #[x, y] := by rw [← Array.toArray_toList (xs := args), ha]
                have hats : argTypes = #[t, t'] := by rw [← Array.toArray_toList (xs := argTypes), hat]
                subst hargs; subst hats
                have := copy_ok (ty := type) (t' := t') hH hu h1 h0 (hρ x) (hρ y) hR
                simpa [execOp, resolve, invoke, builtin] using this
              · cases ht
            · cases ht
          · cases ht
        · cases ht
      case len =>
        split at ht
        · split at ht
          · cases ht; obtain ⟨r, h1, h2⟩ := hR; exact hdet r h1 h2
          · cases ht
        · cases ht
      case min =>
        split at ht
        · cases ht; obtain ⟨r, h1, h2⟩ := hR; exact hdet r h1 h2
        · cases ht
  | load t x =>
    simp only [trOp] at ht; split at ht <;> cases ht
    obtain ⟨r, h1, h2⟩ := hR; exact hdet r h1 h2
  | move x => simp only [trOp] at ht; cases ht; obtain ⟨r, h1, h2⟩ := hR; exact hdet r h1 h2
  | assign x => simp only [trOp] at ht; cases ht; obtain ⟨r, h1, h2⟩ := hR; exact hdet r h1 h2
  | pick c a b => simp only [trOp] at ht; cases ht; obtain ⟨r, h1, h2⟩ := hR; exact hdet r h1 h2
  | nilCheck x => simp only [trOp] at ht; cases ht; obtain ⟨r, h1, h2⟩ := hR; exact hdet r h1 h2
  | extract x i => simp only [trOp] at ht; cases ht; obtain ⟨r, h1, h2⟩ := hR; exact hdet r h1 h2
  | makeFunc fn first cap => simp only [trOp] at ht; cases ht; obtain ⟨r, h1, h2⟩ := hR; exact hdet r h1 h2
  | unOp op t x => cases op <;> simp only [trOp] at ht <;> cases ht; obtain ⟨r, h1, h2⟩ := hR; exact hdet r h1 h2
  | convert s d x => simp only [trOp] at ht; split at ht <;> cases ht; obtain ⟨r, h1, h2⟩ := hR; exact hdet r h1 h2
  | build t parts =>
    simp only [trOp] at ht; (repeat' split at ht) <;> (try (cases ht; done)) <;> cases ht <;> (obtain ⟨r, h1, h2⟩ := hR; exact hdet r h1 h2)
  | panic x => simp only [trOp] at ht; cases ht; obtain ⟨r, h1, h2⟩ := hR; exact hdet r h1 h2
  | makeInterface t x => simp only [trOp] at ht; cases ht; obtain ⟨r, h1, h2⟩ := hR; exact hdet r h1 h2
  | buildSlice t len parts =>
    simp only [trOp] at ht; (repeat' split at ht) <;> (try (cases ht; done)); cases ht
    obtain ⟨r, h1, h2⟩ := hR; exact hdet r h1 h2
  | slice t x lo hi mx =>
    simp only [trOp] at ht; (repeat' split at ht) <;> (try (cases ht; done)) <;> cases ht <;> (obtain ⟨r, h1, h2⟩ := hR; exact hdet r h1 h2)
  | fieldAddr s x f =>
    simp only [trOp] at ht; (repeat' split at ht) <;> (try (cases ht; done)) <;> cases ht <;> (obtain ⟨r, h1, h2⟩ := hR; exact hdet r h1 h2)
  | field s x f =>
    simp only [trOp] at ht; (repeat' split at ht) <;> (try (cases ht; done)) <;> cases ht <;> (obtain ⟨r, h1, h2⟩ := hR; exact hdet r h1 h2)
  | indexAddr t x i =>
    simp only [trOp] at ht; (repeat' split at ht) <;> (try (cases ht; done)) <;> cases ht <;> (obtain ⟨r, h1, h2⟩ := hR; exact hdet r h1 h2)
  | index t x i =>
    simp only [trOp] at ht; (repeat' split at ht) <;> (try (cases ht; done)) <;> cases ht <;> (obtain ⟨r, h1, h2⟩ := hR; exact hdet r h1 h2)
  | lookup t m k ok =>
    cases ok <;> simp only [trOp] at ht <;> (try (cases ht; done))
    (repeat' split at ht) <;> (try (cases ht; done)) <;> cases ht <;> (obtain ⟨r, h1, h2⟩ := hR; exact hdet r h1 h2)
  | _ => simp only [trOp] at ht; cases ht
end
end Go.Lift

