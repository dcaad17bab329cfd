/- Part 1 of the proof: the tools and contracts. Conditions: none. -/
import Derived.RangeFuncNested
import Derived.RangeFuncBound
import Derived.RangeFuncCalls
import Derived.RangeFuncLeaves
import Derived.OrdersIn
import Derived.WalkKit
set_option linter.unusedVariables false
set_option linter.unusedSimpArgs false
namespace Go.Lift
open Go

inductive AV where
  | any
  | int (k : IntKind) (n : Int)
  | bool (b : Bool)
  | emp
  | slice (es : List (List AV))
  | grow (b cap : Nat) (es : List (List AV))
  | mslice (b off len cap : Nat)
  | agg (cs : List AV)
  | tup (vs : List AV)
  | nilp
  | ptr (b off : Nat)
  | elem (cs : List AV)
  | nilf
  | func (fn : Fn) (first cap : List AV)
  | mptr (b : Nat)
  | amap (es : List ((Int × Int) × AV))

abbrev Env := Nat → AV

inductive AObj where
  | box (cs : List AV)
  | tail (n sz cap : Nat)
  | map (es : List ((Int × Int) × AV)) (st : Option (Nat × (Int × Int)))
  | loop (st : LoopState) (pend : Option Code) (N : Nat) (env : Env) (params : Array Tmp) (assign body : Code) (d : Nat)
  | deferd

abbrev AHeap := Nat → Option AObj

def updH (H : AHeap) (b : Nat) (o : AObj) : AHeap := fun x => if x = b then some o else H x
def delH (H : AHeap) (b : Nat) : AHeap := fun x => if x = b then none else H x
def upd (env : Env) (t : Nat) (v : AV) : Env := fun s => if s = t then v else env s

@[simp] theorem updH_same (H : AHeap) (b : Nat) (o : AObj) : updH H b o b = some o := by simp [updH]
theorem updH_ne (H : AHeap) {b x : Nat} (o : AObj) (h : x ≠ b) : updH H b o x = H x := by simp [updH, h]
@[simp] theorem delH_same (H : AHeap) (b : Nat) : delH H b b = none := by simp [delH]
theorem delH_ne (H : AHeap) {b x : Nat} (h : x ≠ b) : delH H b x = H x := by simp [delH, h]
@[simp] theorem upd_same (env : Env) (t : Nat) (v : AV) : upd env t v t = v := by simp [upd]
theorem upd_ne (env : Env) {t s : Nat} (v : AV) (h : s ≠ t) : upd env t v s = env s := by simp [upd, h]

/-- May this cell be read for good? -/
def Readable (H : AHeap) (b off : Nat) : Prop := H b = none ∨ ∃ n sz cap, H b = some (.tail n sz cap) ∧ off < n * sz

inductive Rep (H : AHeap) (w : World) : Value → AV → Prop
  | any (v : Value) : Rep H w v .any
  | int (k : IntKind) (n : Int) : Rep H w (.int k n) (.int k n)
  | bool (b : Bool) : Rep H w (.bool b) (.bool b)
  | emp (a : Option Addr) : Rep H w (.slice a 0 0) .emp
  | nil (a : Option Addr) (cap : Nat) : Rep H w (.slice a 0 cap) (.slice [])
  | slice (b off cap sz : Nat) (es : List (List AV)) (vs : Nat → Nat → Value) (hcap : es.length ≤ cap) (hsz : ∀ e ∈ es, e.length = sz)
      (hr : ∀ i j, i < es.length → j < sz → Readable H b (off + i * sz + j) ∧ w.cell? ⟨b, off + i * sz + j, none⟩ = some (vs i j))
      (hx : ∀ (i j : Nat) (e : List AV) (x : AV), es[i]? = some e → e[j]? = some x → Rep H w (vs i j) x) :
      Rep H w (.slice (some ⟨b, off, none⟩) es.length cap) (.slice es)
  | grow (b cap sz : Nat) (es : List (List AV)) (vs : Nat → Nat → Value) (hcap : es.length ≤ cap) (hsz : ∀ e ∈ es, e.length = sz)
      (hr : ∀ i j, i < es.length → j < sz → Readable H b (0 + i * sz + j) ∧ w.cell? ⟨b, 0 + i * sz + j, none⟩ = some (vs i j))
      (hx : ∀ (i j : Nat) (e : List AV) (x : AV), es[i]? = some e → e[j]? = some x → Rep H w (vs i j) x) :
      Rep H w (.slice (some ⟨b, 0, none⟩) es.length cap) (.grow b cap es)
  | mslice (b off len cap : Nat) : Rep H w (.slice (some ⟨b, off, none⟩) len cap) (.mslice b off len cap)
  | agg (arr : Array Value) (cs : List AV) (hs : arr.size = cs.length) (hx : ∀ (i : Nat) (x : AV), cs[i]? = some x → Rep H w (arr.getD i undef) x) : Rep H w (.agg arr) (.agg cs)
  | tup (arr : Array Value) (cs : List AV) (hs : arr.size = cs.length) (hx : ∀ (i : Nat) (x : AV), cs[i]? = some x → Rep H w (arr.getD i undef) x) : Rep H w (.tuple arr) (.tup cs)
  | nilp : Rep H w (.pointer none) .nilp
  | ptr (b off : Nat) : Rep H w (.pointer (some ⟨b, off, none⟩)) (.ptr b off)
  | elem (b off : Nat) (cs : List AV) (vs : Nat → Value) (hr : ∀ j, j < cs.length → Readable H b (off + j) ∧ w.cell? ⟨b, off + j, none⟩ = some (vs j))
      (hx : ∀ (j : Nat) (x : AV), cs[j]? = some x → Rep H w (vs j) x) : Rep H w (.pointer (some ⟨b, off, none⟩)) (.elem cs)
  | nilf : Rep H w .nilFunc .nilf
  | func (fn : Fn) (first cap : Array Value) (af ac : List AV) (hf : first.size = af.length) (hc : cap.size = ac.length)
      (hx : ∀ (i : Nat) (x : AV), af[i]? = some x → Rep H w (first.getD i undef) x) (hy : ∀ (i : Nat) (x : AV), ac[i]? = some x → Rep H w (cap.getD i undef) x) :
      Rep H w (.func fn first cap) (.func fn af ac)
  | mptr (b : Nat) : Rep H w (.map (some b)) (.mptr b)
  | amap (b : Nat) (entries : Array MapEntry) (clock : Nat) (es : List ((Int × Int) × AV)) (h : H b = none) (hw : w.heap[b]? = some (.map entries clock)) (hs : entries.size = es.length)
      (hk : ∀ (i : Nat) (k : Int × Int) (v : AV), es[i]? = some (k, v) → (entries.getD i default).key = .agg #[.int .i64 k.1, .int .i64 k.2])
      (hx : ∀ (i : Nat) (k : Int × Int) (v : AV), es[i]? = some (k, v) → Rep H w (entries.getD i default).val v) : Rep H w (.map (some b)) (.amap es)

/-- What a step keeps. -/
structure Evolve (H : AHeap) (w : World) (H' : AHeap) (w' : World) : Prop where
  os : w'.os = w.os
  tape : w'.tape = w.tape
  output : w'.output = w.output
  size : w.heap.size ≤ w'.heap.size
  block : ∀ b, b < w.heap.size → H b = none → H' b = none ∧ w'.heap[b]? = w.heap[b]?
  tail : ∀ b n sz cap off v, H b = some (.tail n sz cap) → off < n * sz → w.cell? ⟨b, off, none⟩ = some v → Readable H' b off ∧ w'.cell? ⟨b, off, none⟩ = some v

theorem block_lt {w : World} {a : Addr} {v : Value} (h : w.cell? a = some v) : a.block < w.heap.size := World.block_lt_of_cell? w a h

theorem cell_congr {w w' : World} {a : Addr} (h : w'.heap[a.block]? = w.heap[a.block]?) : w'.cell? a = w.cell? a := by
  unfold World.cell?; rw [h]

theorem Evolve.refl (H : AHeap) (w : World) : Evolve H w H w :=
  ⟨rfl, rfl, rfl, Nat.le_refl _, fun _ _ h => ⟨h, rfl⟩, fun b n sz cap off v h ho hv => ⟨.inr ⟨n, sz, cap, h, ho⟩, hv⟩⟩

theorem Evolve.cell {H : AHeap} {w : World} {H' : AHeap} {w' : World} (e : Evolve H w H' w') {b off : Nat} {v : Value} (hr : Readable H b off) (hv : w.cell? ⟨b, off, none⟩ = some v) :
    Readable H' b off ∧ w'.cell? ⟨b, off, none⟩ = some v := by
  rcases hr with h | ⟨n, sz, cap, h, ho⟩
  · obtain ⟨h1, h2⟩ := e.block b (block_lt hv) h
    exact ⟨.inl h1, by rw [cell_congr (a := ⟨b, off, none⟩) h2]; exact hv⟩
  · exact e.tail b n sz cap off v h ho hv

theorem Evolve.trans {H : AHeap} {w : World} {H1 : AHeap} {w1 : World} {H2 : AHeap} {w2 : World} (e : Evolve H w H1 w1) (f : Evolve H1 w1 H2 w2) : Evolve H w H2 w2 where
  os := f.os.trans e.os
  tape := f.tape.trans e.tape
  output := f.output.trans e.output
  size := Nat.le_trans e.size f.size
  block := fun b hb h => by
    obtain ⟨h1, h2⟩ := e.block b hb h
    obtain ⟨h3, h4⟩ := f.block b (Nat.lt_of_lt_of_le hb e.size) h1
    exact ⟨h3, h4.trans h2⟩
  tail := fun b n sz cap off v h ho hv => by
    obtain ⟨h1, h2⟩ := e.tail b n sz cap off v h ho hv
    exact f.cell h1 h2

theorem Rep.mono {H : AHeap} {w : World} {H' : AHeap} {w' : World} (e : Evolve H w H' w') {v : Value} {a : AV} (h : Rep H w v a) : Rep H' w' v a := by
  induction h with
  | any v => exact .any v
  | int k n => exact .int k n
  | bool b => exact .bool b
  | emp a => exact .emp a
  | nil a cap => exact .nil a cap
  | slice b off cap sz es vs hcap hsz hr hx ih =>
    exact .slice b off cap sz es vs hcap hsz (fun i j hi hj => e.cell (hr i j hi hj).1 (hr i j hi hj).2) ih
  | grow b cap sz es vs hcap hsz hr hx ih =>
    exact .grow b cap sz es vs hcap hsz (fun i j hi hj => e.cell (hr i j hi hj).1 (hr i j hi hj).2) ih
  | mslice b off len cap => exact .mslice b off len cap
  | agg arr cs hs hx ih => exact .agg arr cs hs ih
  | tup arr cs hs hx ih => exact .tup arr cs hs ih
  | nilp => exact .nilp
  | ptr b off => exact .ptr b off
  | elem b off cs vs hr hx ih => exact .elem b off cs vs (fun j hj => e.cell (hr j hj).1 (hr j hj).2) ih
  | nilf => exact .nilf
  | func fn first cap af ac hf hc hx hy ihx ihy => exact .func fn first cap af ac hf hc ihx ihy
  | mptr b => exact .mptr b
  | amap b entries clock es h hw hs hk hx ih =>
    have hb : b < w.heap.size := by
      rcases Nat.lt_or_ge b w.heap.size with hb | hb
      · exact hb
      · rw [Array.getElem?_eq_none hb] at hw; cases hw
    obtain ⟨h1, h2⟩ := e.block b hb h
    exact .amap b entries clock es h1 (h2.trans hw) hs hk ih

def ORel (H : AHeap) (w : World) (b : Nat) : AObj → Prop
  | .box cs => ∃ arr elem, w.heap[b]? = some (.cells arr elem (0, 0)) ∧ arr.size = cs.length ∧ ∀ (i : Nat) (x : AV), cs[i]? = some x → Rep H w (arr.getD i undef) x
  | .tail n sz cap => ∃ arr elem, w.heap[b]? = some (.cells arr elem (0, 0)) ∧ arr.size = cap * sz ∧ n ≤ cap
  | .map es st => ∃ entries clock, w.heap[b]? = some (.map entries clock) ∧ entries.size = es.length ∧
      (∀ (i : Nat) (k : Int × Int) (v : AV), es[i]? = some (k, v) → (entries.getD i default).key = .agg #[.int .i64 k.1, .int .i64 k.2] ∧ Rep H w (entries.getD i default).val v) ∧
      (∀ i j, i < j → j < entries.size → (entries.getD i default).born ≠ (entries.getD j default).born) ∧ (∀ i, i < entries.size → (entries.getD i default).born < clock) ∧
      (∀ n k, st = some (n, k) → ∃ (i : Nat) (v : AV), es[i]? = some (k, v) ∧ (∀ j, j < i → ∀ v', es[j]? ≠ some (k, v')) ∧ (entries.getD i default).born = n)
  | .loop st pend N env params assign body d => ∃ fn tmps, w.heap[b]? = some (.loop { state := st, pending := pend, fn := fn, tmps := tmps, params := params, assign := assign, body := body, defers := d }) ∧
      tmps.size = N ∧ ∀ t, t < N → Rep H w (tmps.getD t undef) (env t)
  | .deferd => w.heap[b]? = some (.deferred (some []))

def HRel (H : AHeap) (w : World) : Prop := ∀ b o, H b = some o → ORel H w b o

theorem ORel.lt {H : AHeap} {w : World} {b : Nat} {o : AObj} (h : ORel H w b o) : b < w.heap.size := by
  have key : ∀ x, w.heap[b]? = some x → b < w.heap.size := fun x hx => by
    rcases Nat.lt_or_ge b w.heap.size with hb | hb
    · exact hb
    · rw [Array.getElem?_eq_none hb] at hx; cases hx
  cases o with
  | box cs => obtain ⟨_, _, h, _⟩ := h; exact key _ h
  | tail n sz cap => obtain ⟨_, _, h, _⟩ := h; exact key _ h
  | map es st => obtain ⟨_, _, h, _⟩ := h; exact key _ h
  | loop st pend N env params assign body d => obtain ⟨_, _, h, _⟩ := h; exact key _ h
  | deferd => exact key _ h

theorem HRel.lt {H : AHeap} {w : World} (h : HRel H w) {b : Nat} {o : AObj} (hb : H b = some o) : b < w.heap.size := (h b o hb).lt
theorem HRel.none {H : AHeap} {w : World} (h : HRel H w) {b : Nat} (hb : w.heap.size ≤ b) : H b = none := by
  cases hh : H b with
  | none => rfl
  | some o => have := h.lt hh; omega

theorem ORel.mono {H : AHeap} {w : World} {H' : AHeap} {w' : World} (e : Evolve H w H' w') {b : Nat} {o : AObj} (h : ORel H w b o) (hw : w'.heap[b]? = w.heap[b]?) : ORel H' w' b o := by
  cases o with
  | box cs => obtain ⟨arr, elem, h1, h2, h3⟩ := h; exact ⟨arr, elem, hw.trans h1, h2, fun i x hx => (h3 i x hx).mono e⟩
  | tail n sz cap => obtain ⟨arr, elem, h1, h2, h3⟩ := h; exact ⟨arr, elem, hw.trans h1, h2, h3⟩
  | map es st => obtain ⟨en, cl, h1, h2, h3, h4, h5, h6⟩ := h; exact ⟨en, cl, hw.trans h1, h2, fun i k v hi => ⟨(h3 i k v hi).1, (h3 i k v hi).2.mono e⟩, h4, h5, h6⟩
  | loop st pend N env params assign body d => obtain ⟨fn, tmps, h1, h2, h3⟩ := h; exact ⟨fn, tmps, hw.trans h1, h2, fun t ht => (h3 t ht).mono e⟩
  | deferd => exact hw.trans h

/-- Only block b has turned (it was private before, and is as said now). -/
theorem HRel.step {H : AHeap} {w : World} {H' : AHeap} {w' : World} (h : HRel H w) (e : Evolve H w H' w') (b : Nat) (hother : ∀ x, x ≠ b → x < w.heap.size → w'.heap[x]? = w.heap[x]?)
    (hH : ∀ x o, x ≠ b → H' x = some o → H x = some o) (hb : ∀ o, H' b = some o → ORel H' w' b o) : HRel H' w' := by
  intro x o hx
  by_cases hxb : x = b
  · subst hxb; exact hb o hx
  · have hh := hH x o hxb hx
    exact (h x o hh).mono e (hother x hxb (h.lt hh))

/-- Nothing private has turned. -/
theorem HRel.keep {H : AHeap} {w w' : World} (h : HRel H w) (e : Evolve H w H w') (hw : ∀ x, x < w.heap.size → w'.heap[x]? = w.heap[x]?) : HRel H w' :=
  fun x o hx => (h x o hx).mono e (hw x (h.lt hx))

/-- A world that has only grown. -/
theorem Evolve.grown {H : AHeap} {w w' : World} (h : HRel H w) (ho : w'.os = w.os) (ht : w'.tape = w.tape) (hp : w'.output = w.output) (hs : w.heap.size ≤ w'.heap.size) (hw : ∀ x, x < w.heap.size → w'.heap[x]? = w.heap[x]?) : Evolve H w H w' where
  os := ho
  tape := ht
  output := hp
  size := hs
  block := fun b hb hn => ⟨hn, hw b hb⟩
  tail := fun b n sz cap off v hH hlt hv => ⟨.inr ⟨n, sz, cap, hH, hlt⟩, by rw [cell_congr (a := ⟨b, off, none⟩) (hw b (h.lt hH))]; exact hv⟩

/-- A new private object at the heap's end. -/
theorem Evolve.new {H : AHeap} {w w' : World} (h : HRel H w) (ho : w'.os = w.os) (ht : w'.tape = w.tape) (hp : w'.output = w.output) (hs : w.heap.size ≤ w'.heap.size) (hw : ∀ x, x < w.heap.size → w'.heap[x]? = w.heap[x]?) (b : Nat) (o : AObj) (hb : w.heap.size ≤ b) :
    Evolve H w (updH H b o) w' where
  os := ho
  tape := ht
  output := hp
  size := hs
  block := fun x hx hn => ⟨by rw [updH_ne _ _ (by omega)]; exact hn, hw x hx⟩
  tail := fun x n sz cap off v hH hlt hv => by
    have hx := h.lt hH
    exact ⟨.inr ⟨n, sz, cap, by rw [updH_ne _ _ (by omega)]; exact hH, hlt⟩, by rw [cell_congr (a := ⟨x, off, none⟩) (hw x hx)]; exact hv⟩

/-- A private object (no tail before) has turned. -/
theorem Evolve.turn {H : AHeap} {w w' : World} (h : HRel H w) (ho : w'.os = w.os) (ht : w'.tape = w.tape) (hp : w'.output = w.output) (hs : w.heap.size ≤ w'.heap.size) (b : Nat) (o o' : AObj) (hb : H b = some o)
    (hnt : ∀ n sz cap, o ≠ .tail n sz cap) (hw : ∀ x, x ≠ b → x < w.heap.size → w'.heap[x]? = w.heap[x]?) : Evolve H w (updH H b o') w' where
  os := ho
  tape := ht
  output := hp
  size := hs
  block := fun x hx hn => by
    have hxb : x ≠ b := fun e => by subst e; rw [hb] at hn; cases hn
    exact ⟨by rw [updH_ne _ _ hxb]; exact hn, hw x hxb hx⟩
  tail := fun x n sz cap off v hH hlt hv => by
    have hxb : x ≠ b := fun e => by subst e; rw [hb] at hH; cases hH; exact absurd rfl (hnt _ _ _)
    exact ⟨.inr ⟨n, sz, cap, by rw [updH_ne _ _ hxb]; exact hH, hlt⟩, by rw [cell_congr (a := ⟨x, off, none⟩) (hw x hxb (h.lt hH))]; exact hv⟩

/-- Names are dropped. -/
theorem Evolve.drop {H : AHeap} {w : World} {H' : AHeap} (hsub : ∀ b o, H' b = some o → H b = some o) : Evolve H w H' w where
  os := rfl
  tape := rfl
  output := rfl
  size := Nat.le_refl _
  block := fun b _ hn => by
    refine ⟨?_, rfl⟩
    cases h : H' b with
    | none => rfl
    | some o => rw [hsub b o h] at hn; cases hn
  tail := fun b n sz cap off v hH hlt hv => by
    refine ⟨?_, hv⟩
    cases h : H' b with
    | none => exact .inl h
    | some o => have := hsub b o h; rw [hH] at this; cases this; exact .inr ⟨n, sz, cap, h, hlt⟩
theorem HRel.drop {H : AHeap} {w : World} {H' : AHeap} (h : HRel H w) (hsub : ∀ b o, H' b = some o → H b = some o) : HRel H' w :=
  fun b o hb => (h b o (hsub b o hb)).mono (Evolve.drop hsub) rfl

theorem Rep.weaken_slice {H : AHeap} {w : World} {v : Value} {b cap : Nat} {es : List (List AV)} (h : Rep H w v (.grow b cap es)) : Rep H w v (.slice es) := by
  cases h with
  | grow b cap sz es vs hcap hsz hr hx => exact .slice b 0 cap sz es vs hcap hsz hr hx
theorem Rep.weaken_emp {H : AHeap} {w : World} {v : Value} (h : Rep H w v .emp) : Rep H w v (.slice []) := by
  cases h with
  | emp a => exact .nil a 0
end Go.Lift

