/- Part 6 of the proof: the tools and contracts. Conditions: none. -/
import Derived.Test.YthnfcdkiaihfcaaGreatP5
set_option linter.unusedVariables false
set_option linter.unusedSimpArgs false
namespace Go.Lift
open Go
section
variable {P : Program} {H : AHeap} {w : World}

theorem isPair_fields {t : TypeId} (h : isPair P t = true) : ∃ f g : Field, P.underlying t = some (.struct #[f, g]) ∧ P.stoodInHeld t = false ∧ f.offset = 0 ∧ g.offset = 1 ∧ f.name ≠ "_" ∧ g.name ≠ "_" ∧
    plainInt P f.type = true ∧ plainInt P g.type = true ∧ szB P f.type = some 1 ∧ szB P g.type = some 1 := by
  unfold isPair at h
  split at h
  · rename_i fs hu
    simp only [Bool.and_eq_true, Bool.not_eq_true'] at h
    obtain ⟨h1, h2⟩ := h
    split at h2
    · rename_i f g hl
      simp only [Bool.and_eq_true, beq_iff_eq, bne_iff_ne] at h2
      obtain ⟨⟨⟨⟨⟨⟨⟨a1, a2⟩, a3⟩, a4⟩, a5⟩, a6⟩, a7⟩, a8⟩ := h2
      have : fs = #[f, g] := by rw [← Array.toArray_toList (xs := fs), hl]
      subst this
      exact ⟨f, g, hu, h1, a1, a2, a3, a4, a5, a6, a7, a8⟩
    · cases h2
  · cases h

theorem plainInt_under {t : TypeId} (h : plainInt P t = true) : ∃ k, P.underlying t = some (.int k) := by
  unfold plainInt at h
  split at h
  · rename_i k hk; exact ⟨k, hk⟩
  · cases h
theorem plainInt_agg {t : TypeId} (h : plainInt P t = true) : isAggB P t = some false := by
  obtain ⟨k, hk⟩ := plainInt_under h
  simp [isAggB, hk]

def pairV (k : Int × Int) : Value := .agg #[.int .i64 k.1, .int .i64 k.2]

theorem pair_part0 {t : TypeId} (h : plainInt P t = true) (k : Int × Int) (w : World) : (part t #[.int .i64 k.1, .int .i64 k.2] 0).run P w = .ok (.int .i64 k.1) w := by
  simp [part, isAggB_run (plainInt_agg h)]
theorem pair_part1 {t : TypeId} (h : plainInt P t = true) (k : Int × Int) (w : World) : (part t #[.int .i64 k.1, .int .i64 k.2] 1).run P w = .ok (.int .i64 k.2) w := by
  simp [part, isAggB_run (plainInt_agg h)]

theorem pair_equal {t : TypeId} (h : isPair P t = true) (a b : Int × Int) : (Op.equal t (pairV a) (pairV b)).run P w = .ok (decide (a = b)) w := by
  obtain ⟨f, g, hu, hst, ho1, ho2, hn1, hn2, hi1, hi2, hs1, hs2⟩ := isPair_fields h
  obtain ⟨k1, hk1⟩ := plainInt_under hi1
  obtain ⟨k2, hk2⟩ := plainInt_under hi2
  have e1 : ∀ w : World, (Op.equalIn 9999 f.type (.int .i64 a.1) (.int .i64 b.1)).run P w = .ok (a.1 == b.1) w := fun w => run_equalIn_int w 9998 _ _ _ _ _ hk1
  have e2 : ∀ w : World, (Op.equalIn 9999 g.type (.int .i64 a.2) (.int .i64 b.2)).run P w = .ok (a.2 == b.2) w := fun w => run_equalIn_int w 9998 _ _ _ _ _ hk2
  have hdec : decide (a = b) = ((a.1 == b.1) && (a.2 == b.2)) := by
    rw [Bool.eq_iff_iff]; simp [Prod.ext_iff]
  rw [hdec]
  simp only [Op.equal, Op.maxDepth, pairV]
  rw [show (10000 : Nat) = 9999 + 1 from rfl, Op.equalIn]
  simp only [Sem.run_bind, run_underlying hu, Result.andThen_ok, program, Sem.run, hst]
  simp [hn1, hn2, ho1, ho2, pair_part0 hi1, pair_part1 hi2, e1, e2]
  by_cases hA : a.1 = b.1 <;> by_cases hB : a.2 = b.2 <;> simp [hA, hB]

theorem pair_check {t : TypeId} (h : isPair P t = true) (e : Bool) (a : Int × Int) : (Instr.checkKey e 10000 t (pairV a)).run P w = .ok () w := by
  obtain ⟨f, g, hu, hst, ho1, ho2, hn1, hn2, hi1, hi2, hs1, hs2⟩ := isPair_fields h
  obtain ⟨k1, hk1⟩ := plainInt_under hi1
  obtain ⟨k2, hk2⟩ := plainInt_under hi2
  have c1 : ∀ (k : IntKind) (n : Int) (t : TypeId) (w : World), P.underlying t = some (.int k) → (Instr.checkKey e 9999 t (.int .i64 n)).run P w = .ok () w := by
    intro k n t w ht
    rw [show (9999 : Nat) = 9998 + 1 from rfl, Instr.checkKey]
    simp [run_underlying ht]
  rw [show (10000 : Nat) = 9999 + 1 from rfl, Instr.checkKey]
  simp [pairV, run_underlying hu, hn1, hn2, ho1, ho2, pair_part0 hi1, pair_part1 hi2, c1 _ _ _ _ hk1, c1 _ _ _ _ hk2]

/-- The place of a key. -/
def findIdx' (k : Int × Int) : List ((Int × Int) × AV) → Nat → Option (Nat × AV)
  | [], _ => none
  | (k', v) :: es, i => if k' = k then some (i, v) else findIdx' k es (i + 1)

theorem findIdx_find (k : Int × Int) : ∀ (es : List ((Int × Int) × AV)) (i : Nat), (findIdx' k es i).map (·.2) = findKey' k es
  | [], i => rfl
  | (k', v) :: es, i => by
    simp only [findIdx', findKey']
    split
    · rfl
    · exact findIdx_find k es (i + 1)

theorem find_asking {t : TypeId} (h : isPair P t = true) (k : Int × Int) : ∀ (es : List ((Int × Int) × AV)) (en : List MapEntry) (i : Nat), en.length = es.length →
    (∀ (j : Nat) (k : Int × Int) (v : AV), es[j]? = some (k, v) → (en.getD j default).key = pairV k) →
    (Instr.findAsking t (pairV k) en i).run P w = .ok ((findIdx' k es i).map fun p => (p.1, (en.getD (p.1 - i) default).val)) w ∧ ∀ n v, findIdx' k es i = some (n, v) → i ≤ n ∧ n - i < es.length ∧ es[n - i]? = some (k, v) ∧ ∀ j, j < n - i → ∀ v', es[j]? ≠ some (k, v')
  | [], en, i, hl, hk => by
    cases en with
    | nil => exact ⟨by simp [Instr.findAsking, findIdx'], fun n v h => by simp [findIdx'] at h⟩
    | cons => simp at hl
  | (k', v') :: es, en, i, hl, hk => by
    cases en with
    | nil => simp at hl
    | cons e en =>
      have h0 := hk 0 k' v' rfl
      simp only [List.getD_cons_zero] at h0
      have ih := find_asking h k es en (i + 1) (by simpa using hl) (fun j k v hj => by have := hk (j + 1) k v hj; simpa using this)
      simp only [Instr.findAsking, Sem.run_bind, h0, pair_equal h, Result.andThen_ok, findIdx']
      by_cases he : k' = k
      · subst he
        refine ⟨by simp, fun n v h => ?_⟩
        simp only [if_true, Option.some.injEq, Prod.mk.injEq] at h
        obtain ⟨rfl, rfl⟩ := h
        simp
      · have he' : ¬ k = k' := fun h => he h.symm
        simp only [he, he', decide_false, Bool.false_eq_true, if_false]
        refine ⟨?_, fun n v h => ?_⟩
        · rw [ih.1]
          congr 1
          cases hf : findIdx' k es (i + 1) with
          | none => rfl
          | some p =>
            obtain ⟨q1, q2⟩ := p
            have := (ih.2 q1 q2 hf).1
            simp only [Option.map_some, Option.some.injEq, Prod.mk.injEq, true_and]
            rw [show q1 - i = (q1 - (i + 1)) + 1 by omega]
            simp
        · obtain ⟨a1, a2, a3, a4⟩ := ih.2 n v h
          have e1 : n - i = (n - (i + 1)) + 1 := by omega
          refine ⟨by omega, by simp; omega, by rw [e1]; simpa using a3, fun j hj v'' => ?_⟩
          cases j with
          | zero => intro h; simp only [List.getElem?_cons_zero, Option.some.injEq, Prod.mk.injEq] at h; exact he h.1
          | succ j => simpa using a4 j (by omega) v''

theorem find_key {t : TypeId} (h : isPair P t = true) (k : Int × Int) (es : List ((Int × Int) × AV)) (en : Array MapEntry) (hl : en.size = es.length)
    (hk : ∀ (j : Nat) (k : Int × Int) (v : AV), es[j]? = some (k, v) → (en.getD j default).key = pairV k) :
    (Instr.findKey t (pairV k) en.toList).run P w = .ok ((findIdx' k es 0).map fun p => (p.1, (en.getD p.1 default).val)) w := by
  obtain ⟨f, g, hu, _⟩ := isPair_fields h
  have hask := find_asking (P := P) (w := w) h k es en.toList 0 (by simpa using hl) (fun j k v hj => by rw [← getD_default]; exact hk j k v hj)
  simp only [Instr.findKey, Sem.run_bind, run_underlying hu, Result.andThen_ok]
  have hres : (Instr.findAsking t (pairV k) en.toList).run P w = .ok ((findIdx' k es 0).map fun p => (p.1, (en.getD p.1 default).val)) w := by
    rw [hask.1]
    congr 1
    cases findIdx' k es 0 with
    | none => rfl
    | some p => simp [getD_default]
  cases hen : en.toList with
  | nil =>
    rw [hen] at hres
    simp only [Instr.findNow]
    simp only [Instr.findAsking] at hres
    simpa using hres
  | cons e l =>
    rw [hen] at hres
    simp only [Instr.findNow, Instr.sameNow]
    exact hres

theorem pair_rep {k : Value} {ak : AV} {q : Int × Int} (hk : Rep H w k ak) (hq : pairOf ak = some q) : k = pairV q := by
  unfold pairOf at hq
  split at hq
  · rename_i a b
    cases hq
    obtain ⟨arr, rfl, hsz, hx⟩ := hk.agg_inv
    have h0 := (hx 0 _ rfl).int_inv
    have h1 := (hx 1 _ rfl).int_inv
    simp only [pairV]
    congr 1
    apply Array.ext'
    apply List.ext_getElem?
    intro i
    simp only [getD_toList, List.getD_eq_getElem?_getD] at h0 h1
    have hl : arr.toList.length = 2 := by simpa using hsz
    match i with
    | 0 => rw [List.getElem?_eq_getElem (by omega)] at h0 ⊢; simp at h0 ⊢; exact h0
    | 1 => rw [List.getElem?_eq_getElem (by omega)] at h1 ⊢; simp at h1 ⊢; exact h1
    | (n + 2) => rw [List.getElem?_eq_none (by omega)]; simp
  · cases hq

theorem lookup_ok {t kt e : TypeId} {z : Value} {m k : Value} {am ak r : AV} (hH : HRel H w) (ht : P.underlying t = some (.map kt e)) (hp : isPair P kt = true) (hz : (P.info? e).bind (·.zero) = some z)
    (h : Rep H w m am) (hk : Rep H w k ak) (hd : detV (.lookup (avC z)) [am, ak] H = some r) : DetOK P H w (do pure (.value (← Instr.lookup t m k false))) r := by
  simp only [detV] at hd
  split at hd
  · cases hd
  rename_i q hq
  obtain ⟨a, b⟩ := q
  rw [pair_rep hk hq]
  have hzero : (zeroValue e).run P w = .ok z w := by
    rw [Option.bind_eq_some_iff] at hz
    obtain ⟨i, hi, hz⟩ := hz
    simp [zeroValue, run_typeInfo w hi, hz]
  have main : ∀ (bk : Nat) (en : Array MapEntry) (cl : Nat) (es : List ((Int × Int) × AV)), w.heap[bk]? = some (.map en cl) → en.size = es.length →
      (∀ (j : Nat) (k : Int × Int) (v : AV), es[j]? = some (k, v) → (en.getD j default).key = pairV k) → (∀ (j : Nat) (k : Int × Int) (v : AV), es[j]? = some (k, v) → Rep H w (en.getD j default).val v) →
      r = (findKey' (a, b) es).getD (avC z) → DetOK P H w (do pure (.value (← Instr.lookup t (.map (some bk)) (pairV (a, b)) false))) r := by
    intro bk en cl es hb hs hk hv hr
    subst hr
    have hfind := find_key (P := P) (w := w) hp (a, b) es en hs hk
    have hask := find_asking (P := P) (w := w) hp (a, b) es en.toList 0 (by simpa using hs) (fun j k v hj => by rw [← getD_default]; exact hk j k v hj)
    have hget : (getObj bk).run P w = .ok (.map en cl) w := by simp [getObj, Sem.run, hb]
    rw [← findIdx_find (a, b) es 0]
    cases hf : findIdx' (a, b) es 0 with
    | none =>
      rw [hf] at hfind
      refine DetOK.of (v := z) ?_ (by simpa using avC_rep H w z)
      simp [Instr.lookup, run_underlying ht, hget, pair_check hp, hfind, hzero]
    | some p =>
      obtain ⟨n, v⟩ := p
      rw [hf] at hfind
      obtain ⟨_, _, h3, _⟩ := hask.2 n v hf
      refine DetOK.of (v := (en.getD n default).val) ?_ (by simpa using hv n _ v (by simpa using h3))
      simp [Instr.lookup, run_underlying ht, hget, pair_check hp, hfind]
  cases h <;> simp only at hd <;> (try (cases hd; done))
  · rename_i bk
    split at hd
    · rename_i es st hb
      cases hd
      obtain ⟨en, cl, h1, h2, h3, _⟩ := hH bk _ hb
      exact main bk en cl es h1 h2 (fun j k v hj => (h3 j k v hj).1) (fun j k v hj => (h3 j k v hj).2) rfl
    · cases hd
  · rename_i bk en cl es h1 h2 h3 h4 h5
    cases hd
    exact main bk en cl es h2 h3 h4 h5 rfl
end
end Go.Lift

