/- Part 8 of the proof: the tools and contracts. Conditions: none. -/
import Derived.Test.YthnfcdkiaihfcaaGreatP7
set_option linter.unusedVariables false
set_option linter.unusedSimpArgs false
namespace Go.Lift
open Go

/-- The fence: every function, any depth, whoever dies; in a round or not. -/
def WF (ro : Option Nat) : Fence := { Fence.wide with round := ro }

def Reps (H : AHeap) (w : World) (vs : Array Value) (xs : List AV) : Prop := vs.size = xs.length ∧ ∀ (i : Nat) (x : AV), xs[i]? = some x → Rep H w (vs.getD i undef) x

def Post (H : AHeap) (w : World) (R : AV → AHeap → Prop) (v : Value) (w' : World) : Prop :=
  ∃ r H', R r H' ∧ HRel H' w' ∧ Rep H' w' v r ∧ Evolve H w H' w'

def EndPost (H : AHeap) (w : World) (R : AV → AHeap → Prop) (e : Ending) (w' : World) : Prop := ∃ v, e = .returned v ∧ Post H w R v w'

/-- A call of a function with abstract arguments ends well. -/
def ACalls (P : Program) (f : FuncId) (xs : List AV) (H : AHeap) (R : AV → AHeap → Prop) : Prop :=
  entersB P f = true ∧ ∀ (w : World) (vs : Array Value), HRel H w → Reps H w vs xs → CallsIn (WF none) 0 P f vs w (EndPost H w R)

/-- A call of a loop's body, as a function value. -/
def AYield (P : Program) (l : Nat) (xs : List AV) (H : AHeap) (R : AV → AHeap → Prop) : Prop :=
  ∀ (w : World) (vs : Array Value), HRel H w → Reps H w vs xs → ∃ f tmps assign body, (Instr.yield l vs).run P w = .ok (.round l f tmps assign body) w ∧ RoundIn (WF none) 0 P l f tmps assign body w (EndPost H w R)

def setKey (k : Int × Int) (v : AV) : List ((Int × Int) × AV) → List ((Int × Int) × AV)
  | [] => [(k, v)]
  | (k', v') :: es => if k' = k then (k, v) :: es else (k', v') :: setKey k v es

def goodEls (sz : Nat) (es : List (List AV)) : Prop := ∀ e ∈ es, e.length = sz
def cellEls (es : List (List AV)) : Prop := ∀ e ∈ es, ∀ x ∈ e, AV.isCell x = true

/-- What an operation comes to. -/
def aopV (P : Program) (tag : Tag) (xs : List AV) (H : AHeap) (R : AV → AHeap → Prop) : Prop :=
  match tag, xs with
  | .box, [x] => x.ok = true ∧ ∀ b, H b = none → R (.ptr b 0) (updH H b (.box x.cells))
  | .alloc zs, [] => ∀ b, H b = none → R (.ptr b 0) (updH H b (.box zs))
  | .store n, [p, x] => x.ok = true ∧ x.cells.length = n ∧ (∀ y ∈ x.cells, AV.isCell y = true) ∧ (match p with
    | .ptr b off => match H b with
      | some (.box cs) => off + n ≤ cs.length ∧ R .any (updH H b (.box (placeAt cs off x.cells)))
      | _ => False
    | _ => False)
  | .mkmap, [] => ∀ b, H b = none → R (.mptr b) (updH H b (.map [] none))
  | .mkslice sz bytes zs, [.int .i64 n] => 0 ≤ n ∧ n * bytes ≤ 140737488355328 ∧ n ≤ 9223372036854775807 ∧ ∀ b, H b = none → R (.mslice b 0 n.toNat n.toNat) (updH H b (.box (List.replicate n.toNat zs).flatten))
  | .append sz bytes, [x, y] => ∃ es2, asSlice y = some es2 ∧ goodEls sz es2 ∧ cellEls es2 ∧ (match x with
    | .emp => (es2 = [] → R .emp H) ∧ (es2 ≠ [] → es2.length * bytes ≤ 140737488355328 ∧ es2.length ≤ 9223372036854775807 ∧ ∀ b cap, H b = none → es2.length ≤ cap → R (.grow b cap es2) (updH H b (.tail es2.length sz cap)) ∨ R (.mslice b 0 es2.length cap) (updH H b (.box (es2.flatten ++ List.replicate ((cap - es2.length) * sz) .any))))
    | .grow b cap es => H b = some (.tail es.length sz cap) ∧ goodEls sz es ∧ (es.length + es2.length) * bytes ≤ 140737488355328 ∧ es.length + es2.length ≤ 9223372036854775807 ∧
        ∀ b' cap', (b' = b ∨ H b' = none) → R (.grow b' cap' (es ++ es2)) (updH (delH H b) b' (.tail (es ++ es2).length sz cap'))
    | _ => False)
  | .copy sz, [d, s] => ∃ es, asSlice s = some es ∧ goodEls sz es ∧ cellEls es ∧ (match d with
    | .mslice b off len cap => match H b with
      | some (.box cs) => off + (es.take len).flatten.length ≤ cs.length ∧ R (.int .i64 (es.take len).length) (updH H b (.box (placeAt cs off (es.take len).flatten)))
      | _ => False
    | _ => False)
  | .mapupd, [m, k, v] => v.ok = true ∧ v.isCell = true ∧ (match pairOf k with
    | none => False
    | some q => match m with
      | .mptr b => match H b with
        | some (.map es none) => R .any (updH H b (.map (setKey q v es) none))
        | _ => False
      | _ => False)
  | .mapent z, [m, k] => (match pairOf k with
    | none => False
    | some q => match m with
      | .mptr b => match H b with
        | some (.map es none) => ∀ n : Nat, R (.tup [(findKey' q es).getD z, .int .i64 (n : Int)]) (updH H b (.map (setKey q ((findKey' q es).getD z) es) (some (n, q))))
        | _ => False
      | _ => False)
  | .entstore, [m, .int .i64 n, v] => (match m with
      | .mptr b => match H b with
        | some (.map es (some (n', q))) => n = (n' : Int) ∧ R .any (updH H b (.map (setKey q v es) none))
        | _ => False
      | _ => False)
  | .isnil, [x] => ∃ es, asSlice x = some es ∧ ∀ b : Bool, (b = true → es = []) → R (.bool b) H
  | .call f, xs => ACalls P f xs H R
  | .callv, fx :: xs => match fx with
    | .func (.func g) fs cs => ACalls P g (fs ++ xs ++ cs) H R
    | .func (.yield l) [] [] => AYield P l xs H R
    | _ => False
  | tag, xs => ∃ r, detV tag xs H = some r ∧ R r H

section
variable {P : Program} {H : AHeap} {w : World} {R : AV → AHeap → Prop}

/-- What one operation owes, in the run of the model. -/
def EffOK (P : Program) (H : AHeap) (w : World) (s : Sem Next) (R : AV → AHeap → Prop) : Prop :=
  (∃ v w', s.run P w = .ok (.value v) w' ∧ Post H w R v w') ∨ (∃ w', s.run P w = .ok .skip w' ∧ Post H w R undef w')

theorem EffOK.value {s : Sem Value} {v : Value} {w' : World} (h : s.run P w = .ok v w') (hp : Post H w R v w') : EffOK P H w (do pure (.value (← s))) R :=
  .inl ⟨v, w', by simp [h], hp⟩
theorem EffOK.skip {s : Sem Unit} {w' : World} (h : s.run P w = .ok () w') (hp : Post H w R undef w') : EffOK P H w (do s; pure .skip) R :=
  .inr ⟨w', by simp [h], hp⟩

theorem isCell_one {v : Value} {x : AV} (h : Rep H w v x) (hx : x.isCell = true) : v.oneCell' = true := by
  cases h <;> first | rfl | cases hx

/-- A new box. -/
theorem post_new (hH : HRel H w) {arr : Array Value} {e : TypeId} {cs : List AV} (hs : arr.size = cs.length) (hx : ∀ (i : Nat) (x : AV), cs[i]? = some x → Rep H w (arr.getD i undef) x)
    {v : Value} {r : AV} (hr : ∀ H' w', Rep H' w' v r) (hR : R r (updH H w.heap.size (.box cs))) : Post H w R v { w with heap := w.heap.push (.cells arr e) } := by
  have hg := WG.push w (.cells arr e)
  have hE : Evolve H w (updH H w.heap.size (.box cs)) { w with heap := w.heap.push (.cells arr e) } := Evolve.new hH hg.os hg.tape hg.output hg.size hg.keep _ _ (Nat.le_refl _)
  refine ⟨r, _, hR, ?_, hr _ _, hE⟩
  refine hH.step hE w.heap.size (fun x hx hlt => hg.keep x hlt) (fun x o hx h => by rwa [updH_ne _ _ hx] at h) (fun o ho => ?_)
  rw [updH_same] at ho
  cases ho
  exact ⟨arr, e, by simp, hs, fun i x hi => (hx i x hi).mono hE⟩

theorem box_ok {t : TypeId} {v : Value} {x : AV} (hH : HRel H w) (h : Rep H w v x) (hR : aopV P .box [x] H R) : EffOK P H w (do pure (.value (← Instr.box t v))) R := by
  obtain ⟨hok, hR⟩ := hR
  obtain ⟨hs, hx⟩ := ok_cells h hok
  refine EffOK.value (v := .pointer (some ⟨w.heap.size, 0, none⟩)) (w' := { w with heap := w.heap.push (.cells v.cells t) }) (by simp [Instr.box, newVar, newRow, newObj, Sem.run]) ?_
  exact post_new hH hs hx (fun _ _ => .ptr _ _) (hR _ (hH.none (Nat.le_refl _)))

theorem alloc_ok {t : TypeId} {zs : List AV} (hH : HRel H w) (hz : zeroCells P t = some zs) (hR : aopV P (.alloc zs) [] H R) : EffOK P H w (do pure (.value (← Instr.alloc t true (.tuple #[])))) R := by
  obtain ⟨z, hz1, hz2, _⟩ := zeroCells_run hz w
  obtain ⟨hs, hx⟩ := zero_rep (H := H) (w := w) hz2
  refine EffOK.value (v := .pointer (some ⟨w.heap.size, 0, none⟩)) (w' := { w with heap := w.heap.push (.cells z.cells t) }) (by simp [Instr.alloc, hz1, newVar, newRow, newObj, Sem.run]) ?_
  exact post_new hH hs hx (fun _ _ => .ptr _ _) (hR _ (hH.none (Nat.le_refl _)))

/-- A private row's cells turn. -/
theorem post_set (hH : HRel H w) {b off : Nat} {cs new : List AV} (hb : H b = some (.box cs)) {vs : List Value} (hl : vs.length = new.length) (hle : off + new.length ≤ cs.length)
    (hv : ∀ (i : Nat) (x : AV), new[i]? = some x → Rep H w (vs.getD i undef) x) (h1 : ∀ v ∈ vs, v.oneCell' = true) :
    ∃ w', (storeCells ⟨b, off, none⟩ vs).run P w = .ok () w' ∧ HRel (updH H b (.box (placeAt cs off new))) w' ∧ Evolve H w (updH H b (.box (placeAt cs off new))) w' := by
  obtain ⟨arr, e, h2, h3, h4⟩ := hH b _ hb
  have hrun := run_storeCells_at P b off e vs 0 arr w h2 (by simp; omega) h1
  simp only [Nat.add_zero] at hrun
  refine ⟨_, hrun, ?_⟩
  have hE : Evolve H w (updH H b (.box (placeAt cs off new))) (w.setRow b (arr.toList.take off ++ vs ++ arr.toList.drop (off + vs.length)).toArray) :=
    Evolve.turn (w' := w.setRow b (arr.toList.take off ++ vs ++ arr.toList.drop (off + vs.length)).toArray) hH rfl rfl rfl (by simp) b _ _ hb (by intro n sz cap; simp) (fun x hx _ => setRow_other w b x _ hx)
  refine ⟨?_, hE⟩
  refine hH.step hE b (fun x hx hlt => setRow_other w b x _ hx) (fun x o hx h => by rwa [updH_ne _ _ hx] at h) (fun o ho => ?_)
  rw [updH_same] at ho
  cases ho
  obtain ⟨hp1, hp2⟩ := rep_place (H := H) (w := w) (arr := arr.toList) (vn := vs) (off := off) (zs := cs) (new := new) (by simpa using h3) (fun i x hi => by rw [← getD_toList]; exact h4 i x hi) hl hv hle rfl
  exact ⟨_, e, setRow_heap w b arr _ e _ h2, by simpa using hp1, fun i x hi => by rw [getD_toList]; exact (hp2 i x hi).mono hE⟩

theorem store_ok {t : TypeId} {n : Nat} {u v : Value} {p x : AV} (hH : HRel H w) (hn : szB P t = some n) (hp : Rep H w u p) (h : Rep H w v x) (hR : aopV P (.store n) [p, x] H R) : EffOK P H w (do Instr.storeAt t u v; pure .skip) R := by
  obtain ⟨hok, hl, hc, hR⟩ := hR
  cases p <;> simp only at hR
  rename_i b off
  cases hp
  split at hR
  · rename_i cs hb
    obtain ⟨hle, hR⟩ := hR
    obtain ⟨hs, hx⟩ := ok_cells h hok
    obtain ⟨w', hrun, hH', hE⟩ := post_set (P := P) hH hb (vs := v.cells.toList) (new := x.cells) (off := off) (by simpa using hs) (by omega) (fun i y hi => by rw [← getD_toList]; exact hx i y hi)
      (fun y hy => by
        obtain ⟨i, hi, rfl⟩ := List.getElem_of_mem hy
        have hi' : i < x.cells.length := by simp at hi; omega
        have := hx i _ (List.getElem?_eq_getElem hi')
        rw [getD_toList, List.getD_eq_getElem?_getD, List.getElem?_eq_getElem hi] at this
        exact isCell_one this (hc _ (List.getElem_mem _)))
    refine EffOK.skip (w' := w') ?_ ⟨.any, _, hR, hH', .any _, hE⟩
    simp only [Instr.storeAt, Instr.sureAddr, storeVar, Sem.run_bind, Sem.run_pure, Result.andThen_ok, szB_run hn]
    rw [if_neg (by omega)]
    exact hrun
  · cases hR

theorem mkmap_ok {t : TypeId} (hH : HRel H w) (hR : aopV P .mkmap [] H R) : EffOK P H w (do pure (.value (← Instr.makeMap t none))) R := by
  have hR := hR w.heap.size (hH.none (Nat.le_refl _))
  have hg := WG.push w (.map #[] 0)
  have hE : Evolve H w (updH H w.heap.size (.map [] none)) { w with heap := w.heap.push (.map #[] 0) } := Evolve.new hH hg.os hg.tape hg.output hg.size hg.keep _ _ (Nat.le_refl _)
  refine EffOK.value (v := .map (some w.heap.size)) (w' := { w with heap := w.heap.push (.map #[] 0) }) (by simp [Instr.makeMap, newObj, Sem.run]) ⟨.mptr w.heap.size, _, hR, ?_, .mptr _, hE⟩
  refine hH.step hE w.heap.size (fun x hx hlt => hg.keep x hlt) (fun x o hx h => by rwa [updH_ne _ _ hx] at h) (fun o ho => ?_)
  rw [updH_same] at ho
  cases ho
  exact ⟨#[], 0, by simp, rfl, fun i k v hi => by simp at hi, fun i j h1 h2 => by simp at h2, fun i hi => by simp at hi, fun n k h => by simp at h⟩

theorem getD_replicate_flatten (zs : List AV) (hz : 0 < zs.length) : ∀ (n i : Nat), (List.replicate n zs).flatten[i]? = if i < n * zs.length then zs[i % zs.length]? else none
  | 0, i => by simp
  | n + 1, i => by
    rw [List.replicate_succ, List.flatten_cons]
    by_cases h : i < zs.length
    · rw [List.getElem?_append_left h, Nat.mod_eq_of_lt h, if_pos (by rw [Nat.add_mul]; omega)]
    · rw [List.getElem?_append_right (by omega), getD_replicate_flatten zs hz n]
      have h1 : (i - zs.length) % zs.length = i % zs.length := by
        rw [Nat.mod_eq_sub_mod (by omega : i ≥ zs.length)]
      rw [h1]
      by_cases h2 : i < (n + 1) * zs.length
      · rw [if_pos h2, if_pos (by rw [Nat.add_mul] at h2; omega)]
      · rw [if_neg h2, if_neg (by rw [Nat.add_mul] at h2; omega)]

theorem mkslice_ok {t e : TypeId} {sz bytes : Nat} {zs : List AV} {v : Value} {x : AV} (hH : HRel H w) (ht : P.underlying t = some (.slice e)) (hs : szB P e = some sz) (hb : bytesB P e = some bytes) (hz : zeroCells P e = some zs)
    (hl : zs.length = sz) (h0 : 0 < sz) (h : Rep H w v x) (hR : aopV P (.mkslice sz bytes zs) [x] H R) : EffOK P H w (do pure (.value (← Instr.makeSlice t v v))) R := by
  cases x <;> (try (simp [aopV, detV] at hR; done))
  rename_i k n
  cases k <;> (try (simp [aopV, detV] at hR; done))
  obtain ⟨hn0, hn1, hn2, hR⟩ := hR
  cases h.int_inv
  obtain ⟨m, rfl⟩ := Int.eq_ofNat_of_zero_le hn0
  simp only [Int.toNat_natCast] at hR
  obtain ⟨z, hz1, hz2, _⟩ := zeroCells_run hz { w with heap := w.heap }
  obtain ⟨hzs, hzr⟩ := zero_rep (H := H) (w := w) hz2
  have hinfo : ∃ i, P.info? e = some i ∧ i.bytes = bytes := by
    unfold bytesB at hb
    cases hi : P.info? e with
    | none => rw [hi] at hb; cases hb
    | some i => rw [hi] at hb; simp at hb; exact ⟨i, rfl, hb⟩
  obtain ⟨i, hi, hib⟩ := hinfo
  have hwrap : IntKind.i64.wrap (m : Int) = m := by
    simp only [IntKind.wrap, IntKind.bits, IntKind.signed]
    have : (m : Int) % (2 ^ 64 : Int) = m := Int.emod_eq_of_lt (by omega) (by omega)
    simp only [this]
    simp
    intro h; omega
  have hroom : ∀ q, (askRoom q).run P w = .ok () w := by
    intro q; unfold askRoom; split <;> simp [mark, Sem.run]
  have hpush := post_new (R := R) hH (arr := (Array.range (m * sz)).map (z.cells[· % z.cells.size]!)) (e := e) (cs := (List.replicate m zs).flatten) (by simp [hl])
    (fun i x hx => by
      rw [getD_replicate_flatten zs (by omega)] at hx
      split at hx
      · rename_i hlt
        rw [hl] at hlt hx
        have hmod : i % sz < z.cells.size := by rw [hzs, hl]; exact Nat.mod_lt _ h0
        have := hzr (i % sz) x hx
        rw [Array.getD_eq_getD_getElem?, Array.getElem?_map, Array.getElem?_range, if_pos hlt]
        simp only [Option.map_some, Option.getD_some]
        rw [show z.cells.size = sz by omega, getElem!_pos z.cells (i % sz) hmod]
        rw [Array.getD_eq_getD_getElem?, Array.getElem?_eq_getElem hmod] at this
        exact this
      · cases hx) (v := .slice (some ⟨w.heap.size, 0, none⟩) m m) (r := .mslice w.heap.size 0 m m) (fun _ _ => .mslice _ _ _ _) (hR _ (hH.none (Nat.le_refl _)))
  refine EffOK.value ?_ hpush
  have hb' : ¬ ((bytes : Int) * (m : Int) > 2 ^ 48) := by rw [Int.mul_comm]; omega
  have hb'' : ¬ (281474976710656 < (bytes : Int) * (m : Int)) := by rw [Int.mul_comm]; omega
  have hge : ¬ ((m : Int) < 0) := by omega
  have htn : IntKind.i64.wrap (m : Int) = (m : Int) := hwrap
  by_cases hm : m = 0
  · subst hm
    have e0 : ∀ f : Nat → Value, (Array.range (0 * sz)).map f = #[] := fun f => Array.eq_empty_of_size_eq_zero (by simp)
    have hw0 : IntKind.i64.wrap (0 : Int) = 0 := hwrap
    simp [Instr.makeSlice, run_underlying ht, asInt, asIntOf, run_typeInfo w hi, hw0, hib, hroom, szB_run hs, newRow, newObj, Sem.run]
    congr 2
    exact (Array.eq_empty_of_size_eq_zero (by simp)).trans (Array.eq_empty_of_size_eq_zero (by simp)).symm
  · have hs0 : ¬ sz = 0 := by omega
    simp [Instr.makeSlice, run_underlying ht, asInt, asIntOf, run_typeInfo w hi, hwrap, hib, hge, hb'', hroom, szB_run hs, hm, hs0, hz1, newRow, newObj, Sem.run]
    intro h
    rcases Nat.mul_eq_zero.1 h with h | h <;> omega

theorem lt_of_some {α : Type} {l : List α} {i : Nat} {x : α} (h : l[i]? = some x) : i < l.length := by
  rcases Nat.lt_or_ge i l.length with h' | h'
  · exact h'
  · rw [List.getElem?_eq_none h'] at h; cases h

theorem flatten_getElem? {α : Type} (sz : Nat) (h0 : 0 < sz) : ∀ (es : List (List α)), (∀ e ∈ es, e.length = sz) → ∀ i, es.flatten[i]? = es[i / sz]?.bind fun e => e[i % sz]?
  | [], _, i => by simp
  | e :: es, h, i => by
    have he := h e (by simp)
    rw [List.flatten_cons]
    by_cases hi : i < sz
    · rw [List.getElem?_append_left (by omega), Nat.div_eq_of_lt hi, Nat.mod_eq_of_lt hi]; simp
    · rw [List.getElem?_append_right (by omega), flatten_getElem? sz h0 es (fun x hx => h x (by simp [hx]))]
      have h1 : i / sz = (i - e.length) / sz + 1 := by
        rw [he, Nat.div_eq_sub_div h0 (by omega)]
      have h2 : i % sz = (i - e.length) % sz := by
        rw [he, Nat.mod_eq_sub_mod (by omega)]
      rw [h1, h2]; simp

theorem flatten_length {α : Type} (sz : Nat) : ∀ (es : List (List α)), (∀ e ∈ es, e.length = sz) → es.flatten.length = es.length * sz
  | [], _ => by simp
  | e :: es, h => by
    rw [List.flatten_cons, List.length_append, flatten_length sz es (fun x hx => h x (by simp [hx])), h e (by simp), List.length_cons, Nat.add_mul]
    omega

/-- The cells of a slice's value, as a list. -/
theorem slice_cells {v : Value} {a : AV} {es : List (List AV)} {sz : Nat} (h0 : 0 < sz) (h : Rep H w v a) (ha : asSlice a = some es) (hg : goodEls sz es) :
    ∃ ad cap, v = .slice ad es.length cap ∧ ∃ vs : List Value, vs.length = es.length * sz ∧ (Builtin.firstCells sz es.length v).run P w = .ok vs.toArray w ∧
      (∀ (i : Nat) (x : AV), es.flatten[i]? = some x → Rep H w (vs.getD i undef) x) := by
  obtain ⟨ad, cap, rfl, hcap, hne⟩ := asSlice_rep h ha
  refine ⟨ad, cap, rfl, ?_⟩
  by_cases he : es = []
  · subst he
    refine ⟨[], by simp, ?_, fun i x hx => by simp at hx⟩
    cases ad with
    | none => simp [Builtin.firstCells]
    | some ad => simp [Builtin.firstCells, loadCells, loadCellsFrom]
  · obtain ⟨b, off, sz', rfl, hsz, vs, hr, hx⟩ := hne he
    have hszz : sz' = sz := by
      cases es with
      | nil => exact absurd rfl he
      | cons e es => rw [← hsz e (by simp), hg e (by simp)]
    subst hszz
    have hdm : ∀ i, i < es.length * sz' → i / sz' < es.length ∧ i % sz' < sz' ∧ i / sz' * sz' + i % sz' = i := fun i hi =>
      ⟨Nat.div_lt_of_lt_mul (by rwa [Nat.mul_comm] at hi), Nat.mod_lt _ h0, by rw [Nat.mul_comm]; exact Nat.div_add_mod i sz'⟩
    refine ⟨(List.range (es.length * sz')).map fun i => vs (i / sz') (i % sz'), by simp, ?_, fun i x hi => ?_⟩
    · simp only [Builtin.firstCells]
      rw [run_loadCells w ⟨b, off, none⟩ (es.length * sz') (fun i => vs (i / sz') (i % sz')) (fun i hi => by
        obtain ⟨h1, h2, h3⟩ := hdm i hi
        have := (hr (i / sz') (i % sz') h1 h2).2
        rw [Nat.add_assoc, h3] at this
        rw [add_mid]; exact this)]
    · have hlt := lt_of_some hi
      rw [flatten_length sz' es hsz] at hlt
      rw [flatten_getElem? sz' h0 es hsz, Option.bind_eq_some_iff] at hi
      obtain ⟨e, he1, he2⟩ := hi
      rw [List.getD_eq_getElem?_getD, List.getElem?_map, List.getElem?_range hlt]
      exact hx _ _ e x he1 he2

theorem oneCells {es : List (List AV)} {vs : List Value} (hl : vs.length = es.flatten.length) (h : ∀ (i : Nat) (x : AV), es.flatten[i]? = some x → Rep H w (vs.getD i undef) x) (hc : cellEls es) : ∀ v ∈ vs, v.oneCell' = true := by
  intro v hv
  obtain ⟨i, hi, rfl⟩ := List.getElem_of_mem hv
  have hi' : i < es.flatten.length := by omega
  have := h i _ (List.getElem?_eq_getElem hi')
  rw [List.getD_eq_getElem?_getD, List.getElem?_eq_getElem hi] at this
  have hm := List.getElem_mem hi'
  rw [List.mem_flatten] at hm
  obtain ⟨e, he, hx⟩ := hm
  exact isCell_one this (hc e he _ hx)

/-- A new row that can grow. -/
theorem post_grow {es : List (List AV)} {sz cap : Nat} {e : TypeId} {arr : Array Value} (H0 : AHeap) (w0 : World) (hH0 : HRel H0 w0) (hwg : WG w0 w) (hH : HRel H w) (hsub : ∀ b o, H b = some o → H0 b = some o) (hEv : Evolve H0 w0 H w)
    (hg : goodEls sz es) (hcap : es.length ≤ cap) (hs : arr.size = cap * sz)
    (hx : ∀ (i : Nat) (x : AV), es.flatten[i]? = some x → Rep H w (arr.getD i undef) x) (h0 : 0 < sz)
    (hR : R (.grow w.heap.size cap es) (updH H w.heap.size (.tail es.length sz cap)) ∨ R (.mslice w.heap.size 0 es.length cap) (updH H w.heap.size (.box (es.flatten ++ List.replicate ((cap - es.length) * sz) .any)))) :
    Post H0 w0 R (.slice (some ⟨w.heap.size, 0, none⟩) es.length cap) { w with heap := w.heap.push (.cells arr e) } := by
  have hp := WG.push w (.cells arr e)
  rcases hR with hR | hR
  rotate_left
  · have hE : Evolve H w (updH H w.heap.size (.box (es.flatten ++ List.replicate ((cap - es.length) * sz) .any))) { w with heap := w.heap.push (.cells arr e) } := Evolve.new hH hp.os hp.tape hp.output hp.size hp.keep _ _ (Nat.le_refl _)
    refine ⟨_, _, hR, ?_, .mslice _ _ _ _, hEv.trans hE⟩
    refine hH.step hE w.heap.size (fun x hx hlt => hp.keep x hlt) (fun x o hx h => by rwa [updH_ne _ _ hx] at h) (fun o ho => ?_)
    rw [updH_same] at ho
    cases ho
    refine ⟨arr, e, by simp, ?_, fun i x hi => ?_⟩
    · rw [List.length_append, flatten_length sz es hg, List.length_replicate, hs, ← Nat.add_mul]; congr 1; omega
    · by_cases hlt : i < es.flatten.length
      · rw [List.getElem?_append_left hlt] at hi
        exact (hx i x hi).mono hE
      · rw [List.getElem?_append_right (by omega), List.getElem?_replicate] at hi
        split at hi
        · cases hi; exact .any _
        · cases hi
  have hE : Evolve H w (updH H w.heap.size (.tail es.length sz cap)) { w with heap := w.heap.push (.cells arr e) } := Evolve.new hH hp.os hp.tape hp.output hp.size hp.keep _ _ (Nat.le_refl _)
  refine ⟨_, _, hR, ?_, ?_, hEv.trans hE⟩
  · refine hH.step hE w.heap.size (fun x hx hlt => hp.keep x hlt) (fun x o hx h => by rwa [updH_ne _ _ hx] at h) (fun o ho => ?_)
    rw [updH_same] at ho
    cases ho
    exact ⟨arr, e, by simp, hs, hcap⟩
  · have hlen := flatten_length sz es hg
    refine Rep.grow w.heap.size cap sz es (fun i j => arr.getD (i * sz + j) undef) hcap hg (fun i j hi hj => ?_) (fun i j e x hi hj => ?_)
    · have h1 : (i + 1) * sz ≤ es.length * sz := Nat.mul_le_mul_right _ (by omega)
      rw [Nat.add_mul] at h1
      have h2 : es.length * sz ≤ cap * sz := Nat.mul_le_mul_right _ hcap
      refine ⟨.inr ⟨es.length, sz, cap, by rw [updH_same], by omega⟩, ?_⟩
      simp only [World.cell?, Array.getElem?_push_size, Option.isSome_none, Bool.false_eq_true, if_false, Nat.zero_add]
      rw [Array.getElem?_eq_getElem (by omega), Array.getD_eq_getD_getElem?, Array.getElem?_eq_getElem (by omega)]
      rfl
    · have hej := hg e (List.mem_of_getElem? hi)
      have hj' := lt_of_some hj
      refine (hx (i * sz + j) x ?_).mono hE
      rw [flatten_getElem? sz h0 es hg, Nat.mul_comm, Nat.mul_add_div h0, Nat.mul_add_mod, Nat.div_eq_of_lt (by omega), Nat.mod_eq_of_lt (by omega), Nat.add_zero, hi]
      exact hj

theorem askRoom_run (q : Nat) (w : World) : (askRoom q).run P w = .ok () w := by
  unfold askRoom; split <;> simp [mark, Sem.run]

/-- append that makes a new row. -/
theorem append_new {t t' e e' : TypeId} {sz bytes ty : Nat} {zs : List AV} {v : Value} {x y : AV} {es es2 : List (List AV)} (H1 : AHeap) (hH : HRel H w) (hsub : ∀ b o, H1 b = some o → H b = some o)
    (ht : P.underlying t = some (.slice e)) (ht' : P.underlying t' = some (.slice e')) (hs : szB P e = some sz) (hb : bytesB P e = some bytes)
    (hz : zeroCells P e = some zs) (hzl : zs.length = sz) (h0 : 0 < sz) {base : Option Addr} {sCap : Nat} (h : Rep H w (.slice base es.length sCap) x) (hx : asSlice x = some es) (hg : goodEls sz es) (h' : Rep H w v y) (hy : asSlice y = some es2) (hg2 : goodEls sz es2)
    (hgrow : sCap < es.length + es2.length) (hb1 : (es.length + es2.length) * bytes ≤ 140737488355328) (hb2 : es.length + es2.length ≤ 9223372036854775807)
    (hR : ∀ b cap, H b = none → (es ++ es2).length ≤ cap → R (.grow b cap (es ++ es2)) (updH H1 b (.tail (es ++ es2).length sz cap)) ∨ R (.mslice b 0 (es ++ es2).length cap) (updH H1 b (.box ((es ++ es2).flatten ++ List.replicate ((cap - (es ++ es2).length) * sz) .any)))) : EffOK P H w (do pure (.value (← Builtin.append_ #[t, t'] ty #[.slice base es.length sCap, v]))) R := by
  obtain ⟨i, hi, his⟩ := szB_info hs
  have hib : i.bytes = bytes := by
    unfold bytesB at hb
    rw [hi] at hb; simpa using hb
  obtain ⟨z, hz1, hz2, hz3⟩ := zeroCells_run hz w.drew
  have hzi : i.zero = some z := by rw [hi] at hz3; simpa using hz3
  have hzs : z.cells.size = sz := by have := (zero_rep (H := H) (w := w) hz2).1; omega
  have hgd : WG w w.drew := ⟨rfl, rfl, rfl, Nat.le_refl _, fun _ _ => rfl⟩
  have hEd : Evolve H w H w.drew := hgd.evolve hH
  have hHd : HRel H w.drew := hgd.hrel hH
  obtain ⟨ad, cap, hv, vs, hl, hrun, hrep⟩ := slice_cells (P := P) h0 (h.mono hEd) hx hg
  obtain ⟨ad2, cap2, hv2, vs2, hl2, hrun2, hrep2⟩ := slice_cells (P := P) h0 (h'.mono hEd) hy hg2
  cases hv
  subst hv2
  have hcapn : es.length + es2.length ≤ grownCap w (es.length + es2.length) sCap e := by simp only [grownCap, Question.cut]; omega
  have hgg : goodEls sz (es ++ es2) := fun q hq => by rcases List.mem_append.1 hq with hq | hq; exact hg q hq; exact hg2 q hq
  have hlen := flatten_length sz es hg
  have hlen2 := flatten_length sz es2 hg2
  have hE1 : Evolve H w.drew H1 w.drew := Evolve.drop hsub
  have hpost := post_grow (H := H1) (w := w.drew) (R := R) (es := es ++ es2) (sz := sz) (cap := grownCap w (es.length + es2.length) sCap e) (e := e)
    (arr := vs.toArray ++ vs2.toArray ++ Builtin.zeroCells z.cells (grownCap w (es.length + es2.length) sCap e - (es.length + es2.length))) H w hH hgd (hHd.drop hsub) hsub (hEd.trans hE1) hgg (by simpa using hcapn)
    (by
      simp only [Array.size_append, List.size_toArray, size_zeroCells, hzs, hl, hl2]
      rw [← Nat.add_mul, ← Nat.add_mul]; congr 1; omega)
    (fun i x hi => by
      refine Rep.mono hE1 ?_
      rw [List.flatten_append] at hi
      rw [Array.append_assoc, getD_toList, List.getD_eq_getElem?_getD]
      simp only [Array.toList_append]
      by_cases hlt : i < es.flatten.length
      · rw [List.getElem?_append_left hlt] at hi
        rw [List.getElem?_append_left (by omega)]
        have := hrep i x hi
        rwa [List.getD_eq_getElem?_getD] at this
      · rw [List.getElem?_append_right (by omega)] at hi
        have hlt2 := lt_of_some hi
        rw [List.getElem?_append_right (by omega), List.getElem?_append_left (by omega)]
        have := hrep2 _ x hi
        rw [List.getD_eq_getElem?_getD] at this
        rwa [hl, ← hlen]) h0 (hR _ _ (hH.none (Nat.le_refl _)) (by simpa using hcapn))
  rw [List.length_append] at hpost
  refine EffOK.value ?_ hpost
  have hn : ¬ (es.length + es2.length ≤ sCap) := by omega
  have h63 : ¬ (9223372036854775807 < ((es.length : Int) + (es2.length : Int))) := by omega
  have h48 : ¬ (281474976710656 < Builtin.nextslicecap (es.length + es2.length) sCap * i.bytes) := by
    have := growslice_fits (need := es.length + es2.length) (old := sCap) (bytes := bytes) hgrow hb1
    rw [hib]; omega
  simp [Builtin.append_, run_underlying ht, run_underlying ht', sizeOf, typeInfo, zeroValue, hi, hzi, his, Builtin.lenOf, hn, h63, h48, Question.forced, hrun, hrun2, newRow, grownCap, askRoom_run]
  have e1 : vs.toArray ++ vs2.toArray = (vs ++ vs2).toArray := by simp
  rw [← Array.append_assoc, e1]
  rfl

theorem append_ok {t t' e e' : TypeId} {sz bytes ty : Nat} {zs : List AV} {u v : Value} {x y : AV} (hH : HRel H w) (ht : P.underlying t = some (.slice e)) (ht' : P.underlying t' = some (.slice e')) (hs : szB P e = some sz) (hb : bytesB P e = some bytes)
    (hz : zeroCells P e = some zs) (hzl : zs.length = sz) (h0 : 0 < sz) (h : Rep H w u x) (h' : Rep H w v y) (hR : aopV P (.append sz bytes) [x, y] H R) : EffOK P H w (do pure (.value (← Builtin.append_ #[t, t'] ty #[u, v]))) R := by
  obtain ⟨es2, hy, hg2, hc2, hR⟩ := hR
  cases x <;> simp only at hR
  · -- an empty one without capacity
    have h'' := h
    cases h with
    | emp a =>
    obtain ⟨hR1, hR2⟩ := hR
    by_cases he : es2 = []
    · subst he
      obtain ⟨ad2, cap2, hv2, vs2, hl2, hrun2, hrep2⟩ := slice_cells (P := P) h0 h' hy hg2
      subst hv2
      refine EffOK.value (v := .slice a 0 0) (w' := w) ?_ ⟨.emp, H, hR1 rfl, hH, .emp a, Evolve.refl _ _⟩
      have hvs : vs2 = [] := by simpa using hl2
      subst hvs
      simp at hrun2
      cases a with
      | none => simp [Builtin.append_, run_underlying ht, run_underlying ht', szB_run hs, Builtin.lenOf, hrun2]
      | some a => simp [Builtin.append_, run_underlying ht, run_underlying ht', szB_run hs, Builtin.lenOf, hrun2, storeCells]
    · obtain ⟨hb1, hb2, hR2⟩ := hR2 he
      have hpos : 0 < es2.length := by cases es2 with | nil => exact absurd rfl he | cons => simp
      exact append_new (es := []) H hH (fun _ _ h => h) ht ht' hs hb hz hzl h0 h'' rfl (fun _ h => by simp at h) h' hy hg2 (by simpa using hpos) (by simpa using hb1) (by simpa using hb2) (fun b cap hbn hcp => hR2 b cap hbn (by simpa using hcp))
  · rename_i b cap es
    obtain ⟨htok, hg, hb1, hb2, hR⟩ := hR
    have hrep := h
    cases h with
    | grow b cap sz' es vs hcap hsz hr hx =>
    by_cases hroom : es.length + es2.length ≤ cap
    · -- in place
      obtain ⟨ad2, cap2, hv2, vs2, hl2, hrun2, hrep2⟩ := slice_cells (P := P) h0 h' hy hg2
      subst hv2
      obtain ⟨arr, el, ha1, ha2, ha3⟩ := hH b _ htok
      have hfl2 := flatten_length sz es2 hg2
      have hfit : es.length * sz + vs2.length ≤ arr.size := by
        rw [ha2, hl2, ← Nat.add_mul]; exact Nat.mul_le_mul_right _ hroom
      have hst := run_storeCells_at P b (es.length * sz) el vs2 0 arr w ha1 (by simpa using hfit) (oneCells (H := H) (w := w) (es := es2) (by omega) hrep2 hc2)
      simp only [Nat.add_zero] at hst
      have hRb := hR b cap (.inl rfl)
      let w' := w.setRow b (arr.toList.take (es.length * sz) ++ vs2 ++ arr.toList.drop (es.length * sz + vs2.length)).toArray
      have hw' : w.setRow b (arr.toList.take (es.length * sz) ++ vs2 ++ arr.toList.drop (es.length * sz + vs2.length)).toArray = w' := rfl
      rw [hw'] at hst
      have hH'b : ∀ x, x ≠ b → (updH (delH H b) b (.tail (es ++ es2).length sz cap)) x = H x := fun x hx => by rw [updH_ne _ _ hx, delH_ne _ hx]
      have hcellold : ∀ off, off < es.length * sz → w'.cell? ⟨b, off, none⟩ = w.cell? ⟨b, off, none⟩ := by
        intro off ho
        rw [← hw', cell_setRow_same w b off arr _ el (0, 0) ha1]
        simp only [World.cell?, ha1, Option.isSome_none, Bool.false_eq_true, if_false]
        rw [List.getElem?_toArray, List.append_assoc, List.getElem?_append_left (by simp; omega), List.getElem?_take, if_pos ho]
        simp
      have hcellnew : ∀ off, off < vs2.length → w'.cell? ⟨b, es.length * sz + off, none⟩ = vs2[off]? := by
        intro off ho
        rw [← hw', cell_setRow_same w b _ arr _ el (0, 0) ha1]
        rw [List.getElem?_toArray, List.append_assoc, List.getElem?_append_right (by simp; omega), List.getElem?_append_left (by simp; omega)]
        congr 1; simp; omega
      have hE : Evolve H w (updH (delH H b) b (.tail (es ++ es2).length sz cap)) w' := by
        refine ⟨rfl, rfl, rfl, by rw [← hw']; simp, fun x hx hn => ?_, fun x n sz1 cap1 off q hxt ho hq => ?_⟩
        · have hxb : x ≠ b := fun h => by subst h; rw [htok] at hn; cases hn
          exact ⟨by rw [hH'b x hxb]; exact hn, setRow_other w b x _ hxb⟩
        · by_cases hxb : x = b
          · subst hxb
            rw [htok] at hxt
            cases hxt
            exact ⟨.inr ⟨_, _, _, by rw [updH_same], by rw [List.length_append, Nat.add_mul]; omega⟩, by rw [hcellold off ho]; exact hq⟩
          · exact ⟨.inr ⟨n, sz1, cap1, by rw [hH'b x hxb]; exact hxt, ho⟩, by rw [← hw', cell_setRow_other w b _ ⟨x, off, none⟩ hxb]; exact hq⟩
      have hrepE := hrep.mono hE
      have hgg : goodEls sz (es ++ es2) := fun q hq => by rcases List.mem_append.1 hq with hq | hq; exact hg q hq; exact hg2 q hq
      refine EffOK.value (v := .slice (some ⟨b, 0, none⟩) (es ++ es2).length cap) (w' := w') ?_ ⟨_, _, hRb, ?_, ?_, hE⟩
      · simp [Builtin.append_, run_underlying ht, run_underlying ht', szB_run hs, Builtin.lenOf, hroom, hrun2, add_mid, hst]
      · refine hH.step hE b (fun x hx _ => setRow_other w b x _ hx) (fun x o hx h => by rwa [hH'b x hx] at h) (fun o ho => ?_)
        rw [updH_same] at ho
        cases ho
        refine ⟨_, el, setRow_heap w b arr _ el _ ha1, ?_, by simpa using hroom⟩
        simp; omega
      · have hsz' : es ≠ [] → sz' = sz := fun hne => by
          cases es with
          | nil => exact absurd rfl hne
          | cons q es => rw [← hsz q (by simp), hg q (by simp)]
        refine Rep.grow b cap sz (es ++ es2) (fun i j => if i < es.length then vs i j else vs2.getD ((i - es.length) * sz + j) undef) (by simpa using hroom) hgg (fun i j hi hj => ?_) (fun i j q x hi hj => ?_)
        · simp only [List.length_append] at hi
          have hm : (i + 1) * sz ≤ (es.length + es2.length) * sz := Nat.mul_le_mul_right _ (by omega)
          rw [Nat.add_mul] at hm
          refine ⟨.inr ⟨_, _, _, by rw [updH_same], by rw [List.length_append]; omega⟩, ?_⟩
          by_cases hie : i < es.length
          · rw [if_pos hie]
            have hsz1 := hsz' (by intro h; subst h; simp at hie)
            subst hsz1
            have hm2 : (i + 1) * sz' ≤ es.length * sz' := Nat.mul_le_mul_right _ (by omega)
            rw [Nat.add_mul] at hm2
            rw [hcellold _ (by omega)]
            exact (hr i j hie hj).2
          · rw [if_neg hie]
            have hi2 : i - es.length < es2.length := by omega
            have hm3 : (i - es.length + 1) * sz ≤ es2.length * sz := Nat.mul_le_mul_right _ (by omega)
            rw [Nat.add_mul] at hm3
            have e1 : 0 + i * sz + j = es.length * sz + ((i - es.length) * sz + j) := by
              have : i * sz = es.length * sz + (i - es.length) * sz := by rw [← Nat.add_mul]; congr 1; omega
              omega
            rw [e1, hcellnew _ (by omega), List.getD_eq_getElem?_getD, List.getElem?_eq_getElem (by omega)]
            rfl
        · by_cases hie : i < es.length
          · rw [if_pos hie]
            rw [List.getElem?_append_left hie] at hi
            exact (hx i j q x hi hj).mono hE
          · rw [if_neg hie]
            rw [List.getElem?_append_right (by omega)] at hi
            have hq := hg2 q (List.mem_of_getElem? hi)
            have hj' := lt_of_some hj
            refine (hrep2 ((i - es.length) * sz + j) x ?_).mono hE
            rw [flatten_getElem? sz h0 es2 hg2, Nat.mul_comm, Nat.mul_add_div h0, Nat.mul_add_mod, Nat.div_eq_of_lt (by omega), Nat.mod_eq_of_lt (by omega), Nat.add_zero, hi]
            exact hj
    · have hsub : ∀ x o, (delH H b) x = some o → H x = some o := fun x o hx => by
        by_cases hxb : x = b
        · subst hxb; simp at hx
        · rwa [delH_ne _ hxb] at hx
      exact append_new (es := es) (delH H b) hH hsub ht ht' hs hb hz hzl h0 hrep rfl hg h' hy hg2 (by omega) hb1 hb2 (fun b' cap' hb' _ => .inl (hR b' cap' (.inr hb')))
end
end Go.Lift

