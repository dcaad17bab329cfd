/- Part 5 of the proof: the tools and contracts. Conditions: none. -/
import Derived.Test.YthnfcdkiaihfcaaGreatP4
set_option linter.unusedVariables false
set_option linter.unusedSimpArgs false
namespace Go.Lift
open Go
section
variable {P : Program} {H : AHeap} {w : World}

theorem foldl_place : ∀ (l : List Value) (k off : Nat) (cs : Array Value), off + k + l.length ≤ cs.size →
    ((l.zipIdx k).foldl (fun (cs : Array Value) (p : Value × Nat) => cs.setIfInBounds (off + p.2) p.1) cs).toList = cs.toList.take (off + k) ++ l ++ cs.toList.drop (off + k + l.length)
  | [], k, off, cs, h => by simp
  | v :: l, k, off, cs, h => by
    simp only [List.zipIdx_cons, List.foldl_cons]
    simp only [List.length_cons] at h
    rw [foldl_place l (k + 1) off (cs.setIfInBounds (off + k) v) (by simp; omega)]
    have hlt : off + k < cs.toList.length := by simp; omega
    rw [Array.toList_setIfInBounds]
    rw [show off + (k + 1) = (off + k) + 1 by omega, show off + k + 1 + l.length = off + k + (v :: l).length by simp; omega]
    rw [List.take_set, List.drop_set_of_lt (by simp)]
    have h1 : (cs.toList.take (off + k + 1)).set (off + k) v = cs.toList.take (off + k) ++ [v] := by
      rw [List.take_succ_eq_append_getElem hlt, List.set_append_right _ _ (by simp; omega)]
      have hm : min (off + k) cs.size = off + k := by simp at hlt; omega
      simp [hm]
    rw [h1]
    simp

theorem foldl_place' (v : Array Value) (off : Nat) (cs : Array Value) (h : off + v.size ≤ cs.size) :
    (v.zipIdx.foldl (fun (cs : Array Value) (p : Value × Nat) => cs.setIfInBounds (off + p.2) p.1) cs).toList = cs.toList.take off ++ v.toList ++ cs.toList.drop (off + v.size) := by
  rw [← Array.foldl_toList, Array.toList_zipIdx]
  have := foldl_place v.toList 0 off cs (by simpa using h)
  simpa using this

theorem rep_place {arr arr' : List Value} {zs new : List AV} {vn : List Value} {off : Nat} (hl : arr.length = zs.length) (h : ∀ (i : Nat) (x : AV), zs[i]? = some x → Rep H w (arr.getD i undef) x)
    (hn : vn.length = new.length) (h' : ∀ (i : Nat) (x : AV), new[i]? = some x → Rep H w (vn.getD i undef) x) (hle : off + new.length ≤ zs.length)
    (he : arr' = arr.take off ++ vn ++ arr.drop (off + vn.length)) : arr'.length = (placeAt zs off new).length ∧ ∀ (i : Nat) (x : AV), (placeAt zs off new)[i]? = some x → Rep H w (arr'.getD i undef) x := by
  subst he
  refine ⟨by simp [placeAt]; omega, fun i x hx => ?_⟩
  simp only [placeAt] at hx
  simp only [List.getD_eq_getElem?_getD] at h h' ⊢
  by_cases h1 : i < off
  · rw [List.append_assoc, List.getElem?_append_left (by simp; omega), List.getElem?_take, if_pos h1] at hx
    rw [List.append_assoc, List.getElem?_append_left (by simp; omega), List.getElem?_take, if_pos h1]
    exact h i x hx
  · by_cases h2 : i < off + new.length
    · rw [List.append_assoc, List.getElem?_append_right (by simp; omega), List.getElem?_append_left (by simp; omega)] at hx
      rw [List.append_assoc, List.getElem?_append_right (by simp; omega), List.getElem?_append_left (by simp; omega)]
      simp only [List.length_take] at hx ⊢
      rw [Nat.min_eq_left (by omega)] at hx ⊢
      exact h' _ x hx
    · rw [List.getElem?_append_right (by simp; omega), List.getElem?_drop] at hx
      rw [List.getElem?_append_right (by simp; omega), List.getElem?_drop]
      simp only [List.length_append, List.length_take] at hx ⊢
      rw [Nat.min_eq_left (by omega)] at hx ⊢
      have e1 : off + new.length + (i - (off + new.length)) = i := by omega
      rw [e1] at hx
      have e2 : off + vn.length + (i - (off + vn.length)) = i := by omega
      rw [e2]
      exact h i x hx

theorem fill_ok (place : Nat → Option (Nat × Nat)) : ∀ (ps : List (Nat × Nat)) (parts : List (Nat × Value)) (xs : List AV) (zs : List AV) (arr : Array Value) (out : List AV),
    parts.map (fun p => place p.1) = ps.map some → parts.length = xs.length → (∀ (i : Nat) (v : Nat × Value) (x : AV), parts[i]? = some v → xs[i]? = some x → Rep H w v.2 x) →
    arr.size = zs.length → (∀ (i : Nat) (x : AV), zs[i]? = some x → Rep H w (arr.getD i undef) x) → buildCells zs ps xs = some out →
    ∃ arr' : Array Value, Instr.fill place arr parts = some arr' ∧ arr'.size = out.length ∧ ∀ (i : Nat) (x : AV), out[i]? = some x → Rep H w (arr'.getD i undef) x
  | ps, [], xs, zs, arr, out, hp, hl, hr, hs, hx, hb => by
    have hps : ps = [] := by simpa using hp.symm
    subst hps
    cases xs with
    | cons => simp at hl
    | nil => simp only [buildCells] at hb; cases hb; exact ⟨arr, rfl, hs, hx⟩
  | ps, (i, v) :: parts, xs, zs, arr, out, hp, hl, hr, hs, hx, hb => by
    cases ps with
    | nil => simp at hp
    | cons q ps =>
      obtain ⟨off, n⟩ := q
      cases xs with
      | nil => simp at hl
      | cons x xs =>
        simp only [buildCells] at hb
        split at hb
        · rename_i hc
          obtain ⟨hok, hlen, hle⟩ := hc
          simp only [List.map_cons, List.cons.injEq] at hp
          have hv := hr 0 (i, v) x rfl rfl
          obtain ⟨hcs, hcr⟩ := ok_cells hv hok
          have hsz : v.cells.size = n := by rw [hcs, hlen]
          have hfold := foldl_place' v.cells off arr (by omega)
          have hplace := rep_place (H := H) (w := w) (arr := arr.toList) (vn := v.cells.toList) (off := off) (zs := zs) (new := x.cells) (arr' := _) (by simpa using hs)
            (fun i x hi => by rw [← getD_toList]; exact hx i x hi) (by simpa using hcs) (fun i x hi => by rw [← getD_toList]; exact hcr i x hi) (by omega) (hfold.trans (by simp))
          have ih := fill_ok place ps parts xs (placeAt zs off x.cells) (v.cells.zipIdx.foldl (fun (cs : Array Value) (p : Value × Nat) => cs.setIfInBounds (off + p.2) p.1) arr) out
            hp.2 (by simpa using hl) (fun j p y hj hy => hr (j + 1) p y hj hy) (by simpa using hplace.1) (fun i x hi => by rw [getD_toList]; exact hplace.2 i x hi) hb
          obtain ⟨arr', h1, h2, h3⟩ := ih
          refine ⟨arr', ?_, h2, h3⟩
          simp only [Instr.fill, hp.1]
          rw [if_neg (by simp; omega)]
          exact h1
        · cases hb

theorem mapM_sizes {fs : List Field} {szs : List Nat} (h : fs.mapM (fun f => szB P f.type) = some szs) (w : World) :
    (fs.mapM (m := Sem) fun f => do pure (f.offset, ← sizeOf f.type)).run P w = .ok ((fs.zip szs).map fun q => (q.1.offset, q.2)) w := by
  induction fs generalizing szs with
  | nil => simp at h; subst h; rfl
  | cons f fs ih =>
    rw [List.mapM_cons] at h
    simp only [Option.bind_eq_bind, Option.bind_eq_some_iff, Option.pure_def, Option.some.injEq] at h
    obtain ⟨n, hn, ns, hns, rfl⟩ := h
    rw [List.mapM_cons]
    simp only [Sem.run_bind, szB_run hn, Result.andThen_ok, Sem.run_pure, ih hns, List.zip_cons_cons, List.map_cons]

theorem mapM_getElem? {α β γ : Type} (l : List α) (key : α → Nat) (tbl : List β) (g : β → γ) (out : List γ) (h : l.mapM (fun p => tbl[key p]?.map g) = some out) :
    l.map (fun p => (tbl.map g)[key p]?) = out.map some := by
  induction l generalizing out with
  | nil => simp at h; subst h; rfl
  | cons a l ih =>
    rw [List.mapM_cons] at h
    simp only [Option.bind_eq_bind, Option.bind_eq_some_iff, Option.pure_def, Option.some.injEq] at h
    obtain ⟨b, hb, bs, hbs, rfl⟩ := h
    have := ih bs hbs
    simp only [List.getElem?_map] at this ⊢
    simp only [List.map_cons, this, hb]

theorem zero_rep {z : Value} {zs : List AV} (h : z.cells.toList.map avC = zs) : z.cells.size = zs.length ∧ ∀ (i : Nat) (x : AV), zs[i]? = some x → Rep H w (z.cells.getD i undef) x := by
  subst h
  refine ⟨by simp, fun i x hx => ?_⟩
  rw [List.getElem?_map] at hx
  cases hz : z.cells.toList[i]? with
  | none => rw [hz] at hx; cases hx
  | some v =>
    rw [hz] at hx
    simp only [Option.map_some, Option.some.injEq] at hx
    subst hx
    rw [getD_toList, List.getD_eq_getElem?_getD, hz]
    exact avC_rep H w v

theorem build_ok {t : TypeId} {fs : Array Field} {zs : List AV} {szs : List Nat} {ps : List (Nat × Nat)} {parts : Array (Nat × Operand)} {ρ : Operand → Value} {xs : List AV} {r : AV}
    (ht : P.underlying t = some (.struct fs)) (hz : zeroCells P t = some zs) (hs : fs.toList.mapM (fun f => szB P f.type) = some szs)
    (hp : parts.toList.mapM (fun p => (fs.toList.zip szs)[p.1]?.map fun q => (q.1.offset, q.2)) = some ps) (hl : parts.toList.length = xs.length)
    (hr : ∀ (i : Nat) (p : Nat × Operand) (x : AV), parts.toList[i]? = some p → xs[i]? = some x → Rep H w (ρ p.2) x) (hd : detV (.build zs ps) xs H = some r) :
    DetOK P H w (do pure (.value (← Instr.build t (parts.map fun (i, x) => (i, ρ x))))) r := by
  simp only [detV, Option.map_eq_some_iff] at hd
  obtain ⟨out, hout, rfl⟩ := hd
  obtain ⟨z, hz1, hz2, _⟩ := zeroCells_run hz w
  obtain ⟨hzs, hzr⟩ := zero_rep (H := H) (w := w) hz2
  have hpl := mapM_getElem? parts.toList (·.1) (fs.toList.zip szs) (fun q => (q.1.offset, q.2)) ps hp
  have hfs : (fs.mapM (m := Sem) fun f => do pure (f.offset, ← sizeOf f.type)).run P w = .ok ((fs.toList.zip szs).map fun q => (q.1.offset, q.2)).toArray w := by
    have := mapM_sizes hs w
    rw [← Array.toArray_toList (xs := fs), List.mapM_toArray]
    simp only [Sem.run_map, this, Result.andThen_ok]
  obtain ⟨arr', h1, h2, h3⟩ := fill_ok (H := H) (w := w) (((fs.toList.zip szs).map fun q => (q.1.offset, q.2)).toArray[·]?) ps (parts.map fun (i, x) => (i, ρ x)).toList xs zs z.cells out
    (by simp only [Array.toList_map, List.map_map, List.getElem?_toArray]; rw [← hpl]; apply List.map_congr_left; intro p _; rfl)
    (by simpa using hl)
    (fun i v x hi hx => by
      simp only [Array.toList_map, List.getElem?_map, Option.map_eq_some_iff] at hi
      obtain ⟨p, hp, rfl⟩ := hi
      exact hr i p x hp hx) hzs hzr hout
  refine DetOK.of (v := .agg arr') ?_ (.agg _ _ h2 h3)
  simp only [Instr.build, Sem.run_bind, hz1, Result.andThen_ok, run_underlying ht, hfs]
  rw [h1]
  rfl

theorem build_arr_ok {t : TypeId} {n : Nat} {e : TypeId} {zs : List AV} {sz : Nat} {ρ : Operand → Value} {r : AV}
    (ht : P.underlying t = some (.array n e)) (hz : zeroCells P t = some zs) (hs : szB P e = some sz) (hd : detV (.build zs []) [] H = some r) :
    DetOK P H w (do pure (.value (← Instr.build t ((#[] : Array (Nat × Operand)).map fun (i, x) => (i, ρ x))))) r := by
  simp only [detV, Option.map_eq_some_iff] at hd
  obtain ⟨out, hout, rfl⟩ := hd
  obtain ⟨z, hz1, hz2, _⟩ := zeroCells_run hz w
  obtain ⟨hzs, hzr⟩ := zero_rep (H := H) (w := w) hz2
  obtain ⟨arr', h1, h2, h3⟩ := fill_ok (H := H) (w := w) (fun i => some (i * sz, sz)) [] [] [] zs z.cells out rfl rfl (fun i v x hi hx => by simp at hi) hzs hzr hout
  refine DetOK.of (v := .agg arr') ?_ (.agg _ _ h2 h3)
  simp only [Instr.build, Sem.run_bind, hz1, Result.andThen_ok, run_underlying ht, szB_run hs]
  have : ((#[] : Array (Nat × Operand)).map fun (i, x) => (i, ρ x)).toList = [] := by simp
  rw [this, h1]
  rfl

theorem fill_slice (sz : Nat) (hsz : 0 < sz) : ∀ (vals : List Value) (xs : List AV) (k : Nat) (arr : Array Value), vals.length = xs.length → (∀ (i : Nat) (v : Value) (x : AV), vals[i]? = some v → xs[i]? = some x → Rep H w v x) →
    (∀ x ∈ xs, x.ok = true ∧ x.cells.length = sz) → arr.size = (k + vals.length) * sz →
    ∃ arr' : Array Value, Instr.fill (fun i => some (i * sz, sz)) arr ((vals.zipIdx k).map fun p => (p.2, p.1)) = some arr' ∧ arr'.size = arr.size ∧ (∀ j, j < k * sz → arr'.getD j undef = arr.getD j undef) ∧
      ∀ (i j : Nat) (x y : AV), xs[i]? = some x → x.cells[j]? = some y → Rep H w (arr'.getD ((k + i) * sz + j) undef) y
  | [], xs, k, arr, hl, hr, ho, ha => by
    cases xs with
    | cons => simp at hl
    | nil => exact ⟨arr, rfl, rfl, fun _ _ => rfl, fun i j x y hx => by simp at hx⟩
  | v :: vals, xs, k, arr, hl, hr, ho, ha => by
    cases xs with
    | nil => simp at hl
    | cons x xs =>
      obtain ⟨hok, hlen⟩ := ho x (by simp)
      obtain ⟨hcs, hcr⟩ := ok_cells (hr 0 v x rfl rfl) hok
      have hvs : v.cells.size = sz := by rw [hcs, hlen]
      have hmul : (k + (v :: vals).length) * sz = k * sz + sz + vals.length * sz := by simp only [List.length_cons, Nat.add_mul, Nat.one_mul]; omega
      have hfold := foldl_place' v.cells (k * sz) arr (by omega)
      have hsize : (v.cells.zipIdx.foldl (fun (cs : Array Value) (p : Value × Nat) => cs.setIfInBounds (k * sz + p.2) p.1) arr).size = arr.size := by
        have := congrArg List.length hfold
        simp only [Array.length_toList, List.length_append, List.length_take, List.length_drop] at this
        omega
      obtain ⟨arr', h1, h2, h3, h4⟩ := fill_slice sz hsz vals xs (k + 1) _ (by simpa using hl) (fun i u y hu hy => hr (i + 1) u y hu hy) (fun y hy => ho y (by simp [hy]))
        (hsize.trans (by rw [ha]; simp only [List.length_cons]; congr 1; omega))
      refine ⟨arr', ?_, h2.trans hsize, fun j hj => ?_, fun i j y z hy hz => ?_⟩
      · simp only [List.zipIdx_cons, List.map_cons, Instr.fill]
        rw [if_neg (by simp [hvs]; omega)]
        exact h1
      · rw [h3 j (by rw [Nat.add_mul]; omega), getD_toList, hfold, getD_toList, List.getD_eq_getElem?_getD, List.getD_eq_getElem?_getD, List.append_assoc, List.getElem?_append_left (by simp; omega), List.getElem?_take, if_pos hj]
      · cases i with
        | zero =>
          simp only [List.getElem?_cons_zero, Option.some.injEq] at hy
          subst hy
          have hj : j < sz := by
            rcases Nat.lt_or_ge j sz with h | h
            · exact h
            · rw [List.getElem?_eq_none (by omega)] at hz; cases hz
          rw [Nat.add_zero, h3 _ (by rw [Nat.add_mul]; omega), getD_toList, hfold, List.getD_eq_getElem?_getD, List.append_assoc, List.getElem?_append_right (by simp; omega), List.getElem?_append_left (by simp; omega)]
          have e : k * sz + j - (arr.toList.take (k * sz)).length = j := by simp; omega
          rw [e]
          have := hcr j z hz
          rwa [getD_toList, List.getD_eq_getElem?_getD] at this
        | succ i =>
          rw [List.getElem?_cons_succ] at hy
          have := h4 i j y z hy hz
          rwa [show k + (i + 1) = k + 1 + i by omega]

theorem bslice_ok {t e : TypeId} {sz len : Nat} {zs : List AV} {parts : Array (Nat × Operand)} {ρ : Operand → Value} {xs : List AV} {r : AV} (hH : HRel H w)
    (ht : P.underlying t = some (.slice e)) (hn : szB P e = some sz) (hz : zeroCells P e = some zs) (hle : len * sz ≤ 16777216) (h0 : 0 < sz) (hp : parts.toList.map (·.1) = List.range len) (hl : parts.toList.length = xs.length)
    (hr : ∀ (i : Nat) (p : Nat × Operand) (x : AV), parts.toList[i]? = some p → xs[i]? = some x → Rep H w (ρ p.2) x) (hd : detV (.bslice sz) xs H = some r) :
    DetOK P H w (do pure (.value (← Instr.buildSlice t len (parts.map fun (i, x) => (i, ρ x))))) r := by
  have hlen : parts.toList.length = len := by have := congrArg List.length hp; simpa using this
  obtain ⟨z, hz1, hz2, _⟩ := zeroCells_run hz w
  have hparts : (parts.toList.map fun p => (p.1, ρ p.2)) = ((parts.toList.map fun p => ρ p.2).zipIdx 0).map fun p => (p.2, p.1) := by
    apply List.ext_getElem?
    intro i
    have hpi := congrArg (fun l => l[i]?) hp
    simp only [List.getElem?_map] at hpi
    simp only [List.getElem?_map, List.getElem?_zipIdx]
    cases hi : parts.toList[i]? with
    | none => simp [hi]
    | some p =>
      have hlt : i < len := by
        rcases Nat.lt_or_ge i parts.toList.length with h | h
        · omega
        · rw [List.getElem?_eq_none h] at hi; cases hi
      rw [hi, List.getElem?_range hlt] at hpi
      simp at hpi
      simp [hi, hpi]
  by_cases hxs : xs = []
  · subst hxs
    simp only [detV, if_true, Option.some.injEq] at hd
    subst hd
    obtain rfl : parts = #[] := by simpa using hl
    have hl0 : len = 0 := by simpa using hlen.symm
    subst hl0
    refine ⟨.slice (some ⟨w.heap.size, 0, none⟩) 0 0, { w with heap := w.heap.push (.cells #[] e) }, ?_, .emp _, WG.push w _⟩
    have e0 : ((Array.range 0).map fun _ => (default : Value)) = #[] := Array.eq_empty_of_size_eq_zero (by simp)
    simp [Instr.buildSlice, run_underlying ht, szB_run hn, Instr.fill, newRow, newObj, Sem.run, e0]
  · simp only [detV, hxs, if_false] at hd
    split at hd
    · rename_i hall
      cases hd
      have hok : ∀ x ∈ xs, x.ok = true ∧ x.cells.length = sz := by
        intro x hx
        have := List.all_eq_true.1 hall x hx
        simpa using this
      have hpos : 0 < len := by
        cases xs with
        | nil => exact absurd rfl hxs
        | cons => simp only [List.length_cons] at hl; omega
      obtain ⟨arr', h1, h2, h3, h4⟩ := fill_slice (H := H) (w := w) sz h0 (parts.toList.map fun p => ρ p.2) xs 0 ((Array.range (len * sz)).map (z.cells[· % z.cells.size]!)) (by simpa using hl)
        (fun i v x hv hx => by
          rw [List.getElem?_map, Option.map_eq_some_iff] at hv
          obtain ⟨p, hp, rfl⟩ := hv
          exact hr i p x hp hx) hok (by simp; simp at hlen; rw [hlen])
      have hxl : xs.length = len := by omega
      have hne : ¬ len * sz = 0 := by
        intro h
        rcases Nat.mul_eq_zero.1 h with h | h <;> omega
      have hsize : arr'.size = len * sz := by simpa using h2
      have hg := WG.push w (.cells arr' e)
      have hE := hg.evolve hH
      refine ⟨.slice (some ⟨w.heap.size, 0, none⟩) (xs.map AV.cells).length len, { w with heap := w.heap.push (.cells arr' e) }, ?_, ?_, hg⟩
      · have hno : ¬ (16777216 < len * sz) := by omega
        simp only [Instr.buildSlice, Sem.run_bind, run_underlying ht, Result.andThen_ok, szB_run hn]
        simp [hno, hne, hz1, hparts, h1, newRow, newObj, Sem.run, hxl]
      · refine Rep.slice w.heap.size 0 len sz (xs.map AV.cells) (fun i j => arr'.getD (i * sz + j) undef) (by simp [hxl]) (fun e he => ?_) (fun i j hi hj => ?_) (fun i j e x hi hj => ?_)
        · rw [List.mem_map] at he
          obtain ⟨x, hx, rfl⟩ := he
          exact (hok x hx).2
        · refine ⟨.inl (hH.none (Nat.le_refl _)), ?_⟩
          simp only [World.cell?, Array.getElem?_push_size, Option.isSome_none, Bool.false_eq_true, if_false]
          have hlt : 0 + i * sz + j < arr'.size := by
            rw [hsize]
            simp [hxl] at hi
            have h1 : (i + 1) * sz ≤ len * sz := Nat.mul_le_mul_right _ (by omega)
            rw [Nat.add_mul] at h1
            omega
          rw [Array.getElem?_eq_getElem hlt, Array.getD_eq_getD_getElem?]
          simp only [Nat.zero_add] at hlt ⊢
          simp [hlt]
        · rw [List.getElem?_map, Option.map_eq_some_iff] at hi
          obtain ⟨x', hx', rfl⟩ := hi
          have := h4 i j x' x hx' hj
          simp only [Nat.zero_add] at this
          exact this.mono hE
    · cases hd

theorem eqItems_ok {e : TypeId} {d : Nat} (isInt : Bool) (hs : (if isInt then plainInt P e else plainBool P e) = true) : ∀ (xs ys : List AV) (b : Bool) (a1 a2 : Array Value) (is : List Nat), eqCells isInt xs ys = some b → xs.length = is.length → ys.length = is.length →
    (∀ (j i : Nat) (x : AV), is[j]? = some i → xs[j]? = some x → i < a1.size ∧ Rep H w (a1.getD i undef) x) → (∀ (j i : Nat) (x : AV), is[j]? = some i → ys[j]? = some x → i < a2.size ∧ Rep H w (a2.getD i undef) x) →
    (Op.eqItems (d + 1) e 1 a1 a2 is).run P w = .ok b w := by
  have hagg : isAggB P e = some false := by
    unfold isAggB
    cases isInt <;> simp only [Bool.false_eq_true, if_true, if_false] at hs
    · unfold plainBool at hs
      cases h : P.underlying e with
      | none => rw [h] at hs; cases hs
      | some u => rw [h] at hs; cases u <;> simp_all
    · unfold plainInt at hs
      cases h : P.underlying e with
      | none => rw [h] at hs; cases hs
      | some u => rw [h] at hs; cases u <;> simp_all
  have hpart : ∀ (a : Array Value) (i : Nat), i < a.size → (part e a (i * 1)).run P w = .ok (a.getD i undef) w := by
    intro a i hi
    simp [part, isAggB_run hagg, Array.getElem?_eq_getElem hi, Array.getD_eq_getD_getElem?]
  intro xs
  induction xs with
  | nil =>
    intro ys b a1 a2 is he hl hl' _ _
    cases ys with
    | nil => cases is with
      | nil => simp only [eqCells, Option.some.injEq] at he; subst he; simp [Op.eqItems]
      | cons => simp at hl
    | cons => simp [eqCells] at he
  | cons x xs ih =>
    intro ys b a1 a2 is he hl hl' h1 h2
    cases ys with
    | nil => cases x <;> simp [eqCells] at he
    | cons y ys =>
      cases is with
      | nil => simp at hl
      | cons i is =>
        obtain ⟨hi1, hr1⟩ := h1 0 i x rfl rfl
        obtain ⟨hi2, hr2⟩ := h2 0 i y rfl rfl
        have key : ∃ c b', eqCells isInt xs ys = some b' ∧ b = (c && b') ∧ (Op.equalIn (d + 1) e (a1.getD i undef) (a2.getD i undef)).run P w = .ok c w := by
          cases x <;> cases y <;> simp only [eqCells] at he <;> (try (cases he; done))
          · split at he
            · rename_i k n k' n' hk
              obtain ⟨hi, rfl⟩ := hk
              subst hi
              rw [Option.map_eq_some_iff] at he
              obtain ⟨b', hb', rfl⟩ := he
              refine ⟨_, b', hb', rfl, ?_⟩
              rw [hr1.int_inv, hr2.int_inv]
              simp only [if_true, plainInt] at hs
              split at hs
              · rename_i ku hu; exact run_equalIn_int w d e k _ n n' hu
              · cases hs
            · cases he
          · split at he
            · rename_i p q hi
              subst hi
              rw [Option.map_eq_some_iff] at he
              obtain ⟨b', hb', rfl⟩ := he
              refine ⟨_, b', hb', rfl, ?_⟩
              rw [hr1.bool_inv, hr2.bool_inv]
              simp only [Bool.false_eq_true, if_false, plainBool] at hs
              split at hs
              · rename_i hu; exact run_equalIn_bool' w d e p q hu
              · cases hs
            · cases he
        obtain ⟨c, b', hb', rfl, hrun⟩ := key
        have ih' := ih ys b' a1 a2 is hb' (by simpa using hl) (by simpa using hl') (fun j i x hj hx => h1 (j + 1) i x hj hx) (fun j i x hj hx => h2 (j + 1) i x hj hx)
        simp only [Op.eqItems, Sem.run_bind, hpart a1 i hi1, hpart a2 i hi2, Result.andThen_ok, hrun]
        cases c <;> simp [ih']

theorem eqagg_ok {t e : TypeId} {n : Nat} {isInt : Bool} {u v : Value} {x y : Operand} {a b r : AV} (ht : P.underlying t = some (.array n e)) (hn : szB P e = some 1) (hs : (if isInt then plainInt P e else plainBool P e) = true) (hg : P.eqGuardType P.depth t = false)
    (h : Rep H w u a) (h' : Rep H w v b) (hd : detV (.eqagg isInt n) [a, b] H = some r) : DetOK P H w (do pure (.value (← (do eqGuard .eql t x y u v; binOp .eql t u v)))) r := by
  cases a <;> (try (simp [detV] at hd; done))
  rename_i xs
  cases b <;> (try (simp [detV] at hd; done))
  rename_i ys
  simp only [detV] at hd
  split at hd
  · rename_i hl
    rw [Option.map_eq_some_iff] at hd
    obtain ⟨c, hc, rfl⟩ := hd
    obtain ⟨a1, rfl, hs1, hx1⟩ := h.agg_inv
    obtain ⟨a2, rfl, hs2, hx2⟩ := h'.agg_inv
    obtain ⟨i, hi, hi1⟩ := szB_info hn
    have hcell : P.cellsOf e = 1 := by simp [Program.cellsOf, hi, hi1]
    have hidx : ∀ (zs : List AV) (arr : Array Value), zs.length = n → arr.size = zs.length → (∀ (i : Nat) (x : AV), zs[i]? = some x → Rep H w (arr.getD i undef) x) →
        ∀ (j i : Nat) (x : AV), (List.range n)[j]? = some i → zs[j]? = some x → i < arr.size ∧ Rep H w (arr.getD i undef) x := by
      intro zs arr hz ha hr j i x hj hx
      have hjn : j < n := by
        rcases Nat.lt_or_ge j n with h | h
        · exact h
        · rw [List.getElem?_eq_none (by simpa using h)] at hj; cases hj
      rw [List.getElem?_range hjn] at hj
      cases hj
      exact ⟨by omega, hr j x hx⟩
    have hrun := eqItems_ok (P := P) (H := H) (w := w) (d := 9998) isInt hs xs ys c a1 a2 (List.range n) hc (by simp [hl.1]) (by simp [hl.2]) (hidx xs a1 hl.1 hs1 hx1) (hidx ys a2 hl.2 hs2 hx2)
    refine DetOK.of (v := .bool c) ?_ (.bool _)
    have heq := run_equalIn_array (P := P) w 9999 a1 a2 ht hi
    rw [hcell, hrun] at heq
    simp [eqGuard, program, Sem.run, hg, binOp, Op.equal, Op.maxDepth, heq]
  · cases hd
end
end Go.Lift

