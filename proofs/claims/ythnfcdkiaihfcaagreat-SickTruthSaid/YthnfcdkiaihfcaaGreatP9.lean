/- Part 9 of the proof: the tools and contracts. Conditions: none. -/
import Derived.Test.YthnfcdkiaihfcaaGreatP8
set_option linter.unusedVariables false
set_option linter.unusedSimpArgs false
namespace Go.Lift
open Go
section
variable {P : Program} {H : AHeap} {w : World} {R : AV → AHeap → Prop}

theorem goodEls_take {sz n : Nat} {es : List (List AV)} (h : goodEls sz es) : goodEls sz (es.take n) := fun e he => h e (List.mem_of_mem_take he)
theorem cellEls_take {n : Nat} {es : List (List AV)} (h : cellEls es) : cellEls (es.take n) := fun e he => h e (List.mem_of_mem_take he)

theorem copy_ok {t e ty : TypeId} {t' : TypeId} {sz : Nat} {u v : Value} {d s : AV} (hH : HRel H w) (ht : P.underlying t = some (.slice e)) (hs : szB P e = some sz) (h0 : 0 < sz)
    (h : Rep H w u d) (h' : Rep H w v s) (hR : aopV P (.copy sz) [d, s] H R) : EffOK P H w (do pure (.value (← Builtin.copy_ #[t, t'] ty #[u, v]))) R := by
  obtain ⟨es, hes, hg, hc, hR⟩ := hR
  cases d <;> simp only at hR
  rename_i b off len cap
  cases h
  split at hR
  · rename_i cs hb
    obtain ⟨hle, hR⟩ := hR
    obtain ⟨ad, cp, hv, vs, hl, hrun, hrep⟩ := slice_cells (P := P) h0 h' hes hg
    subst hv
    have hfl := flatten_length sz (es.take len) (goodEls_take hg)
    have hfl' := flatten_length sz es hg
    have hn : (es.take len).length = Nat.min es.length len := by simp [Nat.min_comm]
    -- the cells that are taken
    have htake : (es.take len).flatten = es.flatten.take ((es.take len).length * sz) := by
      have h1 : es.flatten = (es.take len).flatten ++ (es.drop len).flatten := by rw [← List.flatten_append, List.take_append_drop]
      rw [h1, List.take_left' hfl]
    have hrunN : (Builtin.firstCells sz (es.take len).length (.slice ad es.length cp)).run P w = .ok (vs.take ((es.take len).length * sz)).toArray w := by
      obtain ⟨ad', cp', hv', hrest⟩ := asSlice_rep h' hes
      cases hv'
      obtain ⟨hcap, hne⟩ := hrest
      by_cases he : es = []
      · subst he
        have : vs = [] := by simpa using hl
        subst this
        simp at hrun ⊢; exact hrun
      · obtain ⟨b', off', sz', rfl, hsz, vv, hr, hx⟩ := hne he
        have hszz : sz' = sz := by
          cases es with
          | nil => exact absurd rfl he
          | cons e es => rw [← hsz e (by simp), hg e (by simp)]
        subst hszz
        have hcell : ∀ j, j < vs.length → w.cell? ⟨b', off' + j, none⟩ = vs[j]? := by
          intro j hj
          have hall := run_loadCells (P := P) w ⟨b', off', none⟩ (es.length * sz') (fun i => vv (i / sz') (i % sz')) (fun i hi => by
            have h1 : i / sz' < es.length := Nat.div_lt_of_lt_mul (by rwa [Nat.mul_comm] at hi)
            have h2 : i % sz' < sz' := Nat.mod_lt _ h0
            have h3 : i / sz' * sz' + i % sz' = i := by rw [Nat.mul_comm]; exact Nat.div_add_mod i sz'
            have := (hr (i / sz') (i % sz') h1 h2).2
            rw [Nat.add_assoc, h3] at this
            rw [add_mid]; exact this)
          simp only [Builtin.firstCells, hall, Result.ok.injEq, and_true] at hrun
          have hvs : vs = (List.range (es.length * sz')).map (fun i => vv (i / sz') (i % sz')) := by
            have := congrArg Array.toList hrun; simpa using this.symm
          have hj' : j < es.length * sz' := by omega
          have h1 : j / sz' < es.length := Nat.div_lt_of_lt_mul (by rwa [Nat.mul_comm] at hj')
          have h2 : j % sz' < sz' := Nat.mod_lt _ h0
          have h3 : j / sz' * sz' + j % sz' = j := by rw [Nat.mul_comm]; exact Nat.div_add_mod j sz'
          have := (hr (j / sz') (j % sz') h1 h2).2
          rw [Nat.add_assoc, h3] at this
          rw [this, hvs, List.getElem?_map, List.getElem?_range hj']
          rfl
        have hlt : (vs.take ((es.take len).length * sz')).length = (es.take len).length * sz' := by
          rw [List.length_take, hl]
          have : (es.take len).length ≤ es.length := by simp [Nat.min_le_right]
          have := Nat.mul_le_mul_right sz' this
          omega
        have := run_loadCells_list (P := P) w ⟨b', off', none⟩ (vs.take ((es.take len).length * sz')) (fun j v hj => by
          have hjl := lt_of_some hj
          rw [List.getElem?_take] at hj
          split at hj
          · rw [add_mid, hcell j (by rw [List.length_take] at hjl; omega)]; exact hj
          · cases hj)
        rw [hlt] at this
        simpa [Builtin.firstCells] using this
    have hlt : (vs.take ((es.take len).length * sz)).length = (es.take len).flatten.length := by
      rw [List.length_take, hl, hfl]
      have : (es.take len).length ≤ es.length := by simp [Nat.min_le_right]
      have := Nat.mul_le_mul_right sz this
      omega
    have hrepN : ∀ (i : Nat) (x : AV), (es.take len).flatten[i]? = some x → Rep H w ((vs.take ((es.take len).length * sz)).getD i undef) x := by
      intro i x hi
      have hil := lt_of_some hi
      rw [htake, List.getElem?_take] at hi
      split at hi
      · rename_i hlt2
        have := hrep i x hi
        rw [List.getD_eq_getElem?_getD] at this ⊢
        rwa [List.getElem?_take, if_pos hlt2]
      · cases hi
    obtain ⟨w', hst, hH', hE⟩ := post_set (P := P) hH hb (vs := vs.take ((es.take len).length * sz)) (new := (es.take len).flatten) (off := off) hlt hle hrepN (oneCells (H := H) (w := w) (es := es.take len) hlt hrepN (cellEls_take hc))
    refine EffOK.value (v := .int .i64 (es.take len).length) (w' := w') ?_ ⟨_, _, hR, hH', .int _ _, hE⟩
    rw [hn] at hrunN hst
    simp only [Builtin.copy_, List.getElem?_toArray, List.getElem?_cons_zero, List.getElem?_cons_succ, Sem.run_bind, run_underlying ht, Result.andThen_ok, szB_run hs, Builtin.lenOf, Sem.run_pure, hrunN]
    simp [hst, goInt, hn]
  · cases hR

theorem setKey_find (k : Int × Int) (v : AV) : ∀ (es : List ((Int × Int) × AV)) (i : Nat), match findIdx' k es i with
    | some (n, _) => setKey k v es = es.set (n - i) (k, v) ∧ i ≤ n
    | none => setKey k v es = es ++ [(k, v)]
  | [], i => by simp [findIdx', setKey]
  | (k', v') :: es, i => by
    simp only [findIdx', setKey]
    by_cases h : k' = k
    · simp [h]
    · simp only [h, if_false]
      have ih := setKey_find k v es (i + 1)
      cases hf : findIdx' k es (i + 1) with
      | none => rw [hf] at ih; simp only at ih; rw [ih]; rfl
      | some p =>
        obtain ⟨n, u⟩ := p
        rw [hf] at ih; simp only at ih
        obtain ⟨h1, h2⟩ := ih
        refine ⟨?_, by omega⟩
        rw [h1, show n - i = (n - (i + 1)) + 1 by omega]; rfl

theorem sameBits_pair (a : Int × Int) : Instr.sameBits 10000 (pairV a) (pairV a) = true := by
  simp [pairV, Instr.sameBits]

theorem map_post (hH : HRel H w) {b : Nat} {es es' : List ((Int × Int) × AV)} {st st' : Option (Nat × (Int × Int))} (hb : H b = some (.map es st)) (en : Array MapEntry) (cl : Nat)
    (h1 : en.size = es'.length) (h2 : ∀ (i : Nat) (k : Int × Int) (v : AV), es'[i]? = some (k, v) → (en.getD i default).key = pairV k ∧ Rep H w (en.getD i default).val v)
    (h3 : ∀ i j, i < j → j < en.size → (en.getD i default).born ≠ (en.getD j default).born) (h4 : ∀ i, i < en.size → (en.getD i default).born < cl)
    (h5 : ∀ n k, st' = some (n, k) → ∃ (i : Nat) (v : AV), es'[i]? = some (k, v) ∧ (∀ j, j < i → ∀ v', es'[j]? ≠ some (k, v')) ∧ (en.getD i default).born = n) :
    HRel (updH H b (.map es' st')) { w with heap := w.heap.setIfInBounds b (.map en cl) } ∧ Evolve H w (updH H b (.map es' st')) { w with heap := w.heap.setIfInBounds b (.map en cl) } := by
  have hlt := hH.lt hb
  have hother : ∀ x, x ≠ b → (w.heap.setIfInBounds b (.map en cl))[x]? = w.heap[x]? := fun x hx => by rw [Array.getElem?_setIfInBounds, if_neg (fun e => hx e.symm)]
  have hE : Evolve H w (updH H b (.map es' st')) { w with heap := w.heap.setIfInBounds b (.map en cl) } :=
    Evolve.turn (w' := { w with heap := w.heap.setIfInBounds b (.map en cl) }) hH rfl rfl rfl (by simp) b _ _ hb (by intro n sz cap; simp) (fun x hx _ => hother x hx)
  refine ⟨?_, hE⟩
  refine hH.step hE b (fun x hx _ => hother x hx) (fun x o hx h => by rwa [updH_ne _ _ hx] at h) (fun o ho => ?_)
  rw [updH_same] at ho
  cases ho
  refine ⟨en, cl, by simp [hlt], h1, fun i k v hi => ⟨(h2 i k v hi).1, (h2 i k v hi).2.mono hE⟩, h3, h4, h5⟩

theorem modify_getD (en : Array MapEntry) (i j : Nat) (f : MapEntry → MapEntry) (hi : i < en.size) : (en.modify i f).getD j default = if i = j then f (en.getD i default) else en.getD j default := by
  simp only [Array.getD_eq_getD_getElem?, Array.getElem?_modify]
  by_cases h : i = j
  · subst h; simp [hi]
  · simp [h]

theorem push_getD (en : Array MapEntry) (e : MapEntry) (j : Nat) : (en.push e).getD j default = if j = en.size then e else en.getD j default := by
  simp only [Array.getD_eq_getD_getElem?, Array.getElem?_push]
  by_cases h : j = en.size <;> simp [h]

/-- What becomes of the entries when a key is set. -/
theorem set_entries (hH : HRel H w) {b : Nat} {es : List ((Int × Int) × AV)} {st : Option (Nat × (Int × Int))} (hb : H b = some (.map es st)) (q : Int × Int) {v : Value} {x : AV} (hv : Rep H w v x) :
    ∃ en cl, w.heap[b]? = some (.map en cl) ∧ en.size = es.length ∧ (∀ (j : Nat) (k : Int × Int) (v : AV), es[j]? = some (k, v) → (en.getD j default).key = pairV k) ∧
      (∀ (j : Nat) (k : Int × Int) (v : AV), es[j]? = some (k, v) → Rep H w (en.getD j default).val v) ∧
      (∀ n u, findIdx' q es 0 = some (n, u) → n < en.size ∧ (en.getD n default).key = pairV q ∧ HRel (updH H b (.map (setKey q x es) none)) { w with heap := w.heap.setIfInBounds b (.map (en.modify n fun e => { e with key := pairV q, val := v }) cl) } ∧
        HRel (updH H b (.map (setKey q x es) (some ((en.getD n default).born, q)))) { w with heap := w.heap.setIfInBounds b (.map (en.modify n fun e => { e with key := pairV q, val := v }) cl) } ∧
        ∀ s, Evolve H w (updH H b (.map (setKey q x es) s)) { w with heap := w.heap.setIfInBounds b (.map (en.modify n fun e => { e with key := pairV q, val := v }) cl) }) ∧
      (findIdx' q es 0 = none → HRel (updH H b (.map (setKey q x es) none)) { w with heap := w.heap.setIfInBounds b (.map (en.push { key := pairV q, val := v, born := cl }) (cl + 1)) } ∧
        HRel (updH H b (.map (setKey q x es) (some (cl, q)))) { w with heap := w.heap.setIfInBounds b (.map (en.push { key := pairV q, val := v, born := cl }) (cl + 1)) } ∧
        ∀ s, Evolve H w (updH H b (.map (setKey q x es) s)) { w with heap := w.heap.setIfInBounds b (.map (en.push { key := pairV q, val := v, born := cl }) (cl + 1)) }) := by
  obtain ⟨en, cl, h1, h2, h3, h4, h5, h6⟩ := hH b _ hb
  have hfind := fun n u (hf : findIdx' q es 0 = some (n, u)) => by
    have := setKey_find q x es 0
    rw [hf] at this
    exact this
  have hidx : ∀ (es : List ((Int × Int) × AV)) (i n : Nat) (u : AV), findIdx' q es i = some (n, u) → i ≤ n ∧ es[n - i]? = some (q, u) ∧ ∀ j, j < n - i → ∀ v', es[j]? ≠ some (q, v') := by
    intro es
    induction es with
    | nil => intro i n u h; simp [findIdx'] at h
    | cons p es ih =>
      obtain ⟨k', v'⟩ := p
      intro i n u h
      simp only [findIdx'] at h
      split at h
      · rename_i hk
        cases h; subst hk; simp
      · rename_i hk
        obtain ⟨a1, a2, a3⟩ := ih (i + 1) n u h
        rw [show n - i = (n - (i + 1)) + 1 by omega]
        refine ⟨by omega, by simpa using a2, fun j hj v'' => ?_⟩
        cases j with
        | zero => intro h; simp only [List.getElem?_cons_zero, Option.some.injEq, Prod.mk.injEq] at h; exact hk h.1
        | succ j => simpa using a3 j (by omega) v''
  have hnone : ∀ (es : List ((Int × Int) × AV)) (i : Nat), findIdx' q es i = none → ∀ (j : Nat) (v' : AV), es[j]? ≠ some (q, v') := by
    intro es
    induction es with
    | nil => intro i _ j v'; simp
    | cons p es ih =>
      obtain ⟨k', v'⟩ := p
      intro i h j v''
      simp only [findIdx'] at h
      split at h
      · cases h
      · rename_i hk
        cases j with
        | zero => intro h; simp only [List.getElem?_cons_zero, Option.some.injEq, Prod.mk.injEq] at h; exact hk h.1
        | succ j => simpa using ih (i + 1) h j v''
  refine ⟨en, cl, h1, h2, fun j k v hj => (h3 j k v hj).1, fun j k v hj => (h3 j k v hj).2, fun n u hf => ?_, fun hf => ?_⟩
  · obtain ⟨hs, _⟩ := hfind n u hf
    obtain ⟨_, hn, hbefore⟩ := hidx es 0 n u hf
    simp only [Nat.sub_zero] at hs hn hbefore
    have hlt : n < en.size := by rw [h2]; exact lt_of_some hn
    have hkey := (h3 n q u hn).1
    have common : ∀ st', (∀ m k, st' = some (m, k) → m = (en.getD n default).born ∧ k = q) → HRel (updH H b (.map (setKey q x es) st')) { w with heap := w.heap.setIfInBounds b (.map (en.modify n fun e => { e with key := pairV q, val := v }) cl) } ∧
        Evolve H w (updH H b (.map (setKey q x es) st')) { w with heap := w.heap.setIfInBounds b (.map (en.modify n fun e => { e with key := pairV q, val := v }) cl) } := by
      intro st' hst
      rw [hs]
      refine map_post hH hb _ _ (by simp [h2]) (fun i k y hi => ?_) (fun i j hij hj => ?_) (fun i hi => ?_) (fun m k hm => ?_)
      · rw [List.getElem?_set] at hi
        rw [modify_getD en n i _ hlt]
        by_cases he : n = i
        · subst he
          rw [if_pos rfl] at hi ⊢
          rw [if_pos (by omega)] at hi
          cases hi
          exact ⟨rfl, hv⟩
        · rw [if_neg he] at hi ⊢
          exact h3 i k y hi
      · simp only [Array.size_modify] at hj
        have := h4 i j hij hj
        rw [modify_getD en n i _ hlt, modify_getD en n j _ hlt]
        by_cases hi : n = i
        · subst hi; rw [if_pos rfl, if_neg (by omega)]; exact this
        · by_cases hj' : n = j
          · subst hj'; rw [if_neg hi, if_pos rfl]; exact this
          · rw [if_neg hi, if_neg hj']; exact this
      · simp only [Array.size_modify] at hi
        rw [modify_getD en n i _ hlt]
        by_cases he : n = i
        · subst he; rw [if_pos rfl]; exact h5 n hi
        · rw [if_neg he]; exact h5 i hi
      · obtain ⟨rfl, rfl⟩ := hst m k hm
        refine ⟨n, x, by rw [List.getElem?_set_self (by omega)], fun j hj v' => ?_, by rw [modify_getD en n n _ hlt, if_pos rfl]⟩
        rw [List.getElem?_set_ne (by omega)]
        exact hbefore j hj v'
    exact ⟨hlt, hkey, (common none (by simp)).1, (common _ (fun m k h => by cases h; exact ⟨rfl, rfl⟩)).1, fun s => by
      have := (common none (by simp)).2
      exact ⟨this.os, this.tape, this.output, this.size, fun x hx hn => by
        have h := this.block x hx hn
        refine ⟨?_, h.2⟩
        have hxb : x ≠ b := fun e => by subst e; rw [hb] at hn; cases hn
        rw [updH_ne _ _ hxb]; exact hn, fun x n sz cap off v hx ho hv => by
        have h := this.tail x n sz cap off v hx ho hv
        have hxb : x ≠ b := fun e => by subst e; rw [hb] at hx; cases hx
        exact ⟨.inr ⟨n, sz, cap, by rw [updH_ne _ _ hxb]; exact hx, ho⟩, h.2⟩⟩⟩
  · have hs : setKey q x es = es ++ [(q, x)] := by
      have := setKey_find q x es 0
      rw [hf] at this
      exact this
    have hno := hnone es 0 hf
    have common : ∀ st', (∀ m k, st' = some (m, k) → m = cl ∧ k = q) → HRel (updH H b (.map (setKey q x es) st')) { w with heap := w.heap.setIfInBounds b (.map (en.push { key := pairV q, val := v, born := cl }) (cl + 1)) } ∧
        Evolve H w (updH H b (.map (setKey q x es) st')) { w with heap := w.heap.setIfInBounds b (.map (en.push { key := pairV q, val := v, born := cl }) (cl + 1)) } := by
      intro st' hst
      rw [hs]
      refine map_post hH hb _ _ (by simp [h2]) (fun i k y hi => ?_) (fun i j hij hj => ?_) (fun i hi => ?_) (fun m k hm => ?_)
      · rw [push_getD]
        by_cases he : i = en.size
        · subst he
          rw [h2, List.getElem?_append_right (Nat.le_refl _)] at hi
          simp at hi
          obtain ⟨rfl, rfl⟩ := hi
          rw [if_pos rfl]
          exact ⟨rfl, hv⟩
        · have hil := lt_of_some hi
          simp at hil
          rw [List.getElem?_append_left (by omega)] at hi
          rw [if_neg he]
          exact h3 i k y hi
      · simp only [Array.size_push] at hj
        rw [push_getD, push_getD, if_neg (show ¬ i = en.size by omega)]
        by_cases hj' : j = en.size
        · rw [if_pos hj']
          have := h5 i (by omega)
          simp only
          omega
        · rw [if_neg hj']; exact h4 i j hij (by omega)
      · simp only [Array.size_push] at hi
        rw [push_getD]
        by_cases he : i = en.size
        · rw [if_pos he]; simp
        · rw [if_neg he]
          have := h5 i (by omega)
          omega
      · obtain ⟨rfl, rfl⟩ := hst m k hm
        refine ⟨en.size, x, by rw [h2, List.getElem?_append_right (Nat.le_refl _)]; simp, fun j hj v' => ?_, by rw [push_getD, if_pos rfl]⟩
        rw [List.getElem?_append_left (by omega)]
        exact hno j v'
    exact ⟨(common none (by simp)).1, (common _ (fun m k h => by cases h; exact ⟨rfl, rfl⟩)).1, fun s => by
      have := (common none (by simp)).2
      exact ⟨this.os, this.tape, this.output, this.size, fun x hx hn => by
        have h := this.block x hx hn
        refine ⟨?_, h.2⟩
        have hxb : x ≠ b := fun e => by subst e; rw [hb] at hn; cases hn
        rw [updH_ne _ _ hxb]; exact hn, fun x n sz cap off v hx ho hv => by
        have h := this.tail x n sz cap off v hx ho hv
        have hxb : x ≠ b := fun e => by subst e; rw [hb] at hx; cases hx
        exact ⟨.inr ⟨n, sz, cap, by rw [updH_ne _ _ hxb]; exact hx, ho⟩, h.2⟩⟩⟩
end
end Go.Lift

