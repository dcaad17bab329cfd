/- Part 3 of the proof: the tools and contracts. Conditions: none. -/
import Derived.Test.YthnfcdkiaihfcaaGreatP2
set_option linter.unusedVariables false
set_option linter.unusedSimpArgs false
namespace Go.Lift
open Go

structure WG (w w' : World) : Prop where
  os : w'.os = w.os
  tape : w'.tape = w.tape
  output : w'.output = w.output
  size : w.heap.size ≤ w'.heap.size
  keep : ∀ x, x < w.heap.size → w'.heap[x]? = w.heap[x]?
theorem WG.refl (w : World) : WG w w := ⟨rfl, rfl, rfl, Nat.le_refl _, fun _ _ => rfl⟩
theorem WG.evolve {H : AHeap} {w w' : World} (g : WG w w') (h : HRel H w) : Evolve H w H w' := Evolve.grown h g.os g.tape g.output g.size g.keep
theorem WG.hrel {H : AHeap} {w w' : World} (g : WG w w') (h : HRel H w) : HRel H w' := h.keep (g.evolve h) g.keep
theorem WG.push (w : World) (o : Obj) : WG w { w with heap := w.heap.push o } :=
  ⟨rfl, rfl, rfl, by simp, fun x hx => by simp only [Array.getElem?_push]; rw [if_neg (by omega)]⟩

section
variable {P : Program} {H : AHeap} {w : World}

theorem add_mid (b o j : Nat) : (⟨b, o, none⟩ : Addr).add j = ⟨b, o + j, none⟩ := by unfold Addr.add; split <;> simp_all

theorem szB_run {t : TypeId} {n : Nat} (h : szB P t = some n) (w : World) : (sizeOf t).run P w = .ok n w := by
  unfold szB at h
  cases hi : P.info? t with
  | none => rw [hi] at h; cases h
  | some i => rw [hi] at h; simp only [Option.map_some, Option.some.injEq] at h; rw [run_sizeOf w hi]; simp [Program.cellsOf, hi, h]
theorem szB_info {t : TypeId} {n : Nat} (h : szB P t = some n) : ∃ i, P.info? t = some i ∧ i.size = n := by
  unfold szB at h
  cases hi : P.info? t with
  | none => rw [hi] at h; cases h
  | some i => rw [hi] at h; simp only [Option.map_some, Option.some.injEq] at h; exact ⟨i, rfl, h⟩
theorem isAggB_run {t : TypeId} {b : Bool} (h : isAggB P t = some b) (w : World) : (isAgg t).run P w = .ok b w := by
  unfold isAggB at h
  cases hd : P.underlying t with
  | none => rw [hd] at h; cases h
  | some d =>
    rw [hd] at h; simp only [Option.map_some, Option.some.injEq] at h
    simp only [isAgg, Sem.run_bind, run_underlying hd, Result.andThen_ok]
    cases d <;> simp_all
theorem zeroCells_run {t : TypeId} {zs : List AV} (h : zeroCells P t = some zs) (w : World) : ∃ z, (zeroValue t).run P w = .ok z w ∧ z.cells.toList.map avC = zs ∧ (P.info? t).bind (·.zero) = some z := by
  unfold zeroCells at h
  cases hi : P.info? t with
  | none => rw [hi] at h; cases h
  | some i =>
    rw [hi] at h
    cases hz : i.zero with
    | none => simp [hz] at h
    | some z =>
      simp only [Option.bind_some, hz, Option.map_some, Option.some.injEq] at h
      refine ⟨z, ?_, h, by simp [hz]⟩
      simp [zeroValue, run_typeInfo w hi, hz]

theorem getD_toList (arr : Array Value) (i : Nat) : arr.getD i undef = arr.toList.getD i undef := by
  rw [Array.getD_eq_getD_getElem?, List.getD_eq_getElem?_getD, Array.getElem?_toList]

/-- Cells that can be read: those of a private box, or those behind a pointer into what is fixed. -/
theorem cellsAt_rep (hH : HRel H w) {v : Value} {a : AV} {cs : List AV} (h : Rep H w v a) (hc : cellsAt H a = some cs) :
    ∃ b off, v = .pointer (some ⟨b, off, none⟩) ∧ ∃ vs : Nat → Value, ∀ (j : Nat) (x : AV), cs[j]? = some x → w.cell? ⟨b, off + j, none⟩ = some (vs j) ∧ Rep H w (vs j) x := by
  cases h <;> simp only [cellsAt] at hc <;> try (cases hc)
  · rename_i b off
    split at hc
    · rename_i cs0 hb
      split at hc
      · rename_i hle
        cases hc
        obtain ⟨arr, el, h1, h2, h3⟩ := hH b _ hb
        refine ⟨b, off, rfl, fun j => arr.getD (off + j) undef, fun j x hx => ?_⟩
        rw [List.getElem?_drop] at hx
        have hlt : off + j < cs0.length := by
          rcases Nat.lt_or_ge (off + j) cs0.length with h | h
          · exact h
          · rw [List.getElem?_eq_none h] at hx; cases hx
        refine ⟨?_, h3 _ _ hx⟩
        simp only [World.cell?, h1]
        rw [Array.getD_eq_getD_getElem?, Array.getElem?_eq_getElem (by omega)]
        simp
      · cases hc
    · cases hc
  · rename_i b off vs hr hx
    refine ⟨b, off, rfl, vs, fun j x hj => ?_⟩
    have hlt : j < cs.length := by
      rcases Nat.lt_or_ge j cs.length with h | h
      · exact h
      · rw [List.getElem?_eq_none h] at hj; cases hj
    exact ⟨(hr j hlt).2, hx j x hj⟩

theorem run_loadVar_rep (hH : HRel H w) {t : TypeId} {ag : Bool} {n : Nat} (hag : isAggB P t = some ag) (hn : szB P t = some n) {v : Value} {a : AV} {cs : List AV} {r : AV}
    (h : Rep H w v a) (hc : cellsAt H a = some cs) (ht : takeV ag n cs = some r) : ∃ u, (Instr.loadAt t v).run P w = .ok u w ∧ Rep H w u r := by
  obtain ⟨b, off, rfl, vs, hvs⟩ := cellsAt_rep hH h hc
  cases ag with
  | true =>
    simp only [takeV, if_true] at ht
    split at ht
    · rename_i hle
      cases ht
      refine ⟨.agg ((List.range n).map vs).toArray, ?_, ?_⟩
      · simp only [Instr.loadAt, Instr.sureAddr, loadVar, Sem.run_bind, Sem.run_pure, Result.andThen_ok, isAggB_run hag, szB_run hn, if_true]
        rw [run_loadCells w ⟨b, off, none⟩ n vs (fun j hj => by
          rw [add_mid]
          exact (hvs j _ (List.getElem?_eq_getElem (by omega))).1)]
        rfl
      · refine .agg _ _ (by simp; omega) (fun i x hx => ?_)
        rw [List.getElem?_take] at hx
        split at hx
        · rename_i hi
          rw [getD_toList]
          simp only [List.getD_eq_getElem?_getD, List.getElem?_map, List.getElem?_range hi, Option.map_some, Option.getD_some]
          exact (hvs i x hx).2
        · cases hx
    · cases ht
  | false =>
    simp only [takeV, Bool.false_eq_true, if_false] at ht
    refine ⟨vs 0, ?_, (hvs 0 r ht).2⟩
    simp only [Instr.loadAt, Instr.sureAddr, loadVar, Sem.run_bind, Sem.run_pure, Result.andThen_ok, isAggB_run hag, Bool.false_eq_true, if_false, run_load]
    rw [show (⟨b, off, none⟩ : Addr) = ⟨b, off + 0, none⟩ from rfl, (hvs 0 r ht).1]

theorem Rep.int_inv {v : Value} {k : IntKind} {n : Int} (h : Rep H w v (.int k n)) : v = .int k n := by cases h; rfl
theorem Rep.bool_inv {v : Value} {b : Bool} (h : Rep H w v (.bool b)) : v = .bool b := by cases h; rfl
theorem Rep.agg_inv {v : Value} {cs : List AV} (h : Rep H w v (.agg cs)) : ∃ arr, v = .agg arr ∧ arr.size = cs.length ∧ ∀ (i : Nat) (x : AV), cs[i]? = some x → Rep H w (arr.getD i undef) x := by
  cases h with | agg arr cs hs hx => exact ⟨arr, rfl, hs, hx⟩
theorem Rep.tup_inv {v : Value} {cs : List AV} (h : Rep H w v (.tup cs)) : ∃ arr, v = .tuple arr ∧ arr.size = cs.length ∧ ∀ (i : Nat) (x : AV), cs[i]? = some x → Rep H w (arr.getD i undef) x := by
  cases h with | tup arr cs hs hx => exact ⟨arr, rfl, hs, hx⟩

/-- A slice's value: its elements' cells. -/
theorem asSlice_rep {v : Value} {a : AV} {es : List (List AV)} (h : Rep H w v a) (ha : asSlice a = some es) :
    ∃ ad cap, v = .slice ad es.length cap ∧ es.length ≤ cap ∧ (es ≠ [] → ∃ b off sz, ad = some ⟨b, off, none⟩ ∧ (∀ e ∈ es, e.length = sz) ∧ ∃ vs : Nat → Nat → Value,
      (∀ i j, i < es.length → j < sz → Readable H b (off + i * sz + j) ∧ w.cell? ⟨b, off + i * sz + j, none⟩ = some (vs i j)) ∧
      ∀ (i j : Nat) (e : List AV) (x : AV), es[i]? = some e → e[j]? = some x → Rep H w (vs i j) x) := by
  cases h <;> simp only [asSlice] at ha <;> try (cases ha)
  · exact ⟨_, 0, rfl, Nat.le_refl _, fun h => absurd rfl h⟩
  · exact ⟨_, _, rfl, Nat.zero_le _, fun h => absurd rfl h⟩
  · rename_i b off cap sz vs hcap hsz hr hx
    exact ⟨_, cap, rfl, hcap, fun _ => ⟨b, off, sz, rfl, hsz, vs, hr, hx⟩⟩
  · rename_i b cap sz vs hcap hsz hr hx
    exact ⟨_, cap, rfl, hcap, fun _ => ⟨b, 0, sz, rfl, hsz, vs, hr, hx⟩⟩

theorem slice_rep_of {v : Value} {a : AV} {es : List (List AV)} (h : Rep H w v a) (ha : asSlice a = some es) : Rep H w v (.slice es) := by
  cases h <;> simp only [asSlice] at ha <;> try (cases ha)
  · exact .nil _ _
  · exact .nil _ _
  · rename_i b off cap sz vs hcap hsz hr hx
    exact .slice b off cap sz es vs hcap hsz hr hx
  · rename_i b cap sz vs hcap hsz hr hx
    exact .slice b 0 cap sz es vs hcap hsz hr hx

theorem ok_cells {v : Value} {x : AV} (h : Rep H w v x) (hx : x.ok = true) : v.cells.size = x.cells.length ∧ ∀ (i : Nat) (y : AV), x.cells[i]? = some y → Rep H w (v.cells.getD i undef) y := by
  have one : ∀ (v : Value) (x : AV), Rep H w v x → v.cells = #[v] → x.cells = [x] → v.cells.size = x.cells.length ∧ ∀ (i : Nat) (y : AV), x.cells[i]? = some y → Rep H w (v.cells.getD i undef) y := by
    intro v x h hv hx
    rw [hv, hx]
    refine ⟨rfl, fun i y hy => ?_⟩
    cases i with
    | zero => simp only [List.getElem?_cons_zero, Option.some.injEq] at hy; subst hy; exact h
    | succ i => simp at hy
  cases h with
  | any v => cases hx
  | tup arr cs hs hx' => cases hx
  | agg arr cs hs hx' => exact ⟨hs, hx'⟩
  | int k n => exact one _ _ (.int k n) rfl rfl
  | bool b => exact one _ _ (.bool b) rfl rfl
  | emp a => exact one _ _ (.emp a) rfl rfl
  | nil a c => exact one _ _ (.nil a c) rfl rfl
  | slice b off cap sz es vs h1 h2 h3 h4 => exact one _ _ (.slice b off cap sz es vs h1 h2 h3 h4) rfl rfl
  | grow b cap sz es vs h1 h2 h3 h4 => exact one _ _ (.grow b cap sz es vs h1 h2 h3 h4) rfl rfl
  | mslice b off len cap => exact one _ _ (.mslice b off len cap) rfl rfl
  | nilp => exact one _ _ .nilp rfl rfl
  | ptr b off => exact one _ _ (.ptr b off) rfl rfl
  | elem b off cs vs h1 h2 => exact one _ _ (.elem b off cs vs h1 h2) rfl rfl
  | nilf => exact one _ _ .nilf rfl rfl
  | func fn f c af ac h1 h2 h3 h4 => exact one _ _ (.func fn f c af ac h1 h2 h3 h4) rfl rfl
  | mptr b => exact one _ _ (.mptr b) rfl rfl
  | amap b en cl es h1 h2 h3 h4 h5 => exact one _ _ (.amap b en cl es h1 h2 h3 h4 h5) rfl rfl

theorem binInt_sound {op : BinOp} {k k' : IntKind} {a b : Int} {r : AV} (h : binInt op k a k' b = some r) (t : TypeId) :
    ∃ v, (binOp op t (.int k a) (.int k' b)).run P w = .ok v w ∧ Rep H w v r := by
  cases op <;> simp only [binInt] at h
  case shl =>
    split at h
    · cases h
    · rename_i hb; cases h; exact ⟨_, by simp [binOp, Op.shift, hb], .int _ _⟩
  case shr =>
    split at h
    · cases h
    · rename_i hb; cases h; exact ⟨_, by simp [binOp, Op.shift, hb], .int _ _⟩
  case quo =>
    split at h
    · rename_i hk; subst hk
      split at h
      · cases h
      · rename_i hb; cases h; exact ⟨_, by simp [binOp, Op.intDiv, hb], .int _ _⟩
    · cases h
  case rem =>
    split at h
    · rename_i hk; subst hk
      split at h
      · cases h
      · rename_i hb; cases h; exact ⟨_, by simp [binOp, Op.intDiv, hb], .int _ _⟩
    · cases h
  all_goals (
    split at h
    · rename_i hk; subst hk
      cases h <;> first
        | (refine ⟨.int k _, ?_, .int _ _⟩; simp [binOp, Op.intArith, Op.intBits]; done)
        | (refine ⟨.bool _, ?_, .bool _⟩; simp [binOp, Op.intCmp]; done)
    · cases h)

theorem eqGuard_int {op : BinOp} {t : TypeId} {x y : Operand} {k : IntKind} {n : Int} {b : Value} : (eqGuard op t x y (.int k n) b).run P w = .ok () w := by
  unfold eqGuard
  cases op <;> cases b <;> simp
theorem eqGuard_bool {op : BinOp} {t : TypeId} {x y : Operand} {q : Bool} {b : Value} : (eqGuard op t x y (.bool q) b).run P w = .ok () w := by
  unfold eqGuard
  cases op <;> cases b <;> simp
theorem eqGuard_slice {op : BinOp} {t : TypeId} {x y : Operand} {a : Option Addr} {l c : Nat} {b : Value} : (eqGuard op t x y (.slice a l c) b).run P w = .ok () w := by
  unfold eqGuard
  cases op <;> cases b <;> simp
end
end Go.Lift

