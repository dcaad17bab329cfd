/- Part 4 of the proof: the tools and contracts. Conditions: none. -/
import Derived.Test.YthnfcdkiaihfcaaGreatP3
set_option linter.unusedVariables false
set_option linter.unusedSimpArgs false
namespace Go.Lift
open Go
section
variable {P : Program} {H : AHeap} {w : World}

/-- What one operation that only computes owes. -/
def DetOK (P : Program) (H : AHeap) (w : World) (s : Sem Next) (r : AV) : Prop :=
  ∃ v w', s.run P w = .ok (.value v) w' ∧ Rep H w' v r ∧ WG w w'

theorem DetOK.of {s : Sem Value} {v : Value} {r : AV} (h : s.run P w = .ok v w) (hr : Rep H w v r) : DetOK P H w (do pure (.value (← s))) r :=
  ⟨v, w, by simp [h], hr, WG.refl w⟩

theorem getD_default (entries : Array MapEntry) (i : Nat) : entries.getD i default = entries.toList.getD i default := by
  rw [Array.getD_eq_getD_getElem?, List.getD_eq_getElem?_getD, Array.getElem?_toList]

theorem load_ok {t : TypeId} {x : Operand} {ρ : Operand → Value} {a r : AV} {ag : Bool} {n : Nat} (hH : HRel H w) (hag : isAggB P t = some ag) (hn : szB P t = some n)
    (h : Rep H w (ρ x) a) (hd : detV (.load ag n) [a] H = some r) : DetOK P H w (do pure (.value (← Instr.loadAt t (ρ x)))) r := by
  simp only [detV, Option.bind_eq_some_iff] at hd
  obtain ⟨cs, hc, ht⟩ := hd
  obtain ⟨u, hu, hr⟩ := run_loadVar_rep hH hag hn h hc ht
  exact DetOK.of hu hr

theorem fieldaddr_ok {s : TypeId} {f : Nat} {fs : Array Field} {fd : Field} {n : Nat} {v : Value} {a r : AV} (hs : P.underlying s = some (.struct fs)) (hf : fs[f]? = some fd) (hn : szB P fd.type = some n) (hn0 : n ≠ 0)
    (h : Rep H w v a) (hd : detV (.fieldaddr fd.offset) [a] H = some r) : DetOK P H w (do pure (.value (← Instr.fieldAt s v f))) r := by
  have run : ∀ b off, (Instr.fieldAt s (.pointer (some ⟨b, off, none⟩)) f).run P w = .ok (.pointer (some ⟨b, off + fd.offset, none⟩)) w := by
    intro b off
    simp only [Instr.fieldAt, Sem.run_bind, run_underlying hs, Result.andThen_ok, hf, Instr.sureAddr, Sem.run_pure, fieldPlace, szB_run hn, hn0, if_false, add_mid]
  cases h <;> simp [detV] at hd
  · subst hd; exact DetOK.of (run _ _) (.ptr _ _)
  · rename_i b off cs vs hr hx
    subst hd
    refine DetOK.of (run _ _) (.elem b (off + fd.offset) _ (fun j => vs (fd.offset + j)) (fun j hj => ?_) (fun j x hj => ?_))
    · simp at hj
      have := hr (fd.offset + j) (by omega)
      rwa [← Nat.add_assoc] at this
    · rw [List.getElem?_drop] at hj
      exact hx _ _ hj

theorem part_ok {t : TypeId} {ag : Bool} {n off : Nat} {arr : Array Value} {cs : List AV} {r : AV} (hag : isAggB P t = some ag) (hn : szB P t = some n)
    (hs : arr.size = cs.length) (hx : ∀ (i : Nat) (x : AV), cs[i]? = some x → Rep H w (arr.getD i undef) x)
    (hd : (if ag then (if off + n ≤ cs.length then some (.agg ((cs.drop off).take n)) else none) else cs[off]?) = some r) : ∃ v, (part t arr off).run P w = .ok v w ∧ Rep H w v r := by
  cases ag with
  | true =>
    simp only [if_true] at hd
    split at hd
    · rename_i hle
      cases hd
      refine ⟨.agg (arr.extract off (off + n)), by simp [part, isAggB_run hag, szB_run hn], .agg _ _ (by simp; omega) (fun i x hi => ?_)⟩
      rw [List.getElem?_take] at hi
      split at hi
      · rename_i hin
        rw [List.getElem?_drop] at hi
        have := hx _ _ hi
        rw [Array.getD_eq_getD_getElem?] at this ⊢
        rw [Array.getElem?_extract, if_pos (by omega)]
        exact this
      · cases hi
    · cases hd
  | false =>
    simp only [Bool.false_eq_true, if_false] at hd
    have hlt : off < cs.length := by
      rcases Nat.lt_or_ge off cs.length with h | h
      · exact h
      · rw [List.getElem?_eq_none h] at hd; cases hd
    refine ⟨arr.getD off undef, ?_, hx _ _ hd⟩
    simp [part, isAggB_run hag, Array.getElem?_eq_getElem (show off < arr.size by omega), Array.getD_eq_getD_getElem?]

theorem field_ok {s : TypeId} {f : Nat} {fs : Array Field} {fd : Field} {ag : Bool} {n : Nat} {v : Value} {a r : AV} (hs : P.underlying s = some (.struct fs)) (hf : fs[f]? = some fd)
    (hag : isAggB P fd.type = some ag) (hn : szB P fd.type = some n) (h : Rep H w v a) (hd : detV (.field ag n fd.offset) [a] H = some r) : DetOK P H w (do pure (.value (← Instr.field s v f))) r := by
  cases a <;> (try (cases ag <;> simp [detV] at hd; done))
  rename_i cs
  obtain ⟨arr, rfl, hsz, hx⟩ := h.agg_inv
  obtain ⟨u, hu, hr⟩ := part_ok (P := P) (off := fd.offset) hag hn hsz hx (r := r) (by cases ag <;> simpa [detV] using hd)
  refine DetOK.of (v := u) ?_ hr
  simp [Instr.field, run_underlying hs, hf, asAgg, hu]

theorem index_run {k : IntKind} {i : Int} (v : Value) (b off len cap : Nat) {t e : TypeId} {n : Nat} (ht : P.underlying t = some (.slice e)) (hn : szB P e = some n) (h0 : 0 ≤ i) (h1 : i < len) :
    (Instr.indexAt t (.slice (some ⟨b, off, none⟩) len cap) (.int k i)).run P w = .ok (.pointer (some ⟨b, off + i.toNat * n, none⟩)) w := by
  simp [Instr.indexAt, asIntOf, run_underlying ht, szB_run hn, h0, h1, add_mid]

theorem idxaddr_ok {t e : TypeId} {n : Nat} {v i : Value} {a ai r : AV} (ht : P.underlying t = some (.slice e)) (hn : szB P e = some n) (h : Rep H w v a) (hi : Rep H w i ai)
    (hd : detV (.idxaddr n) [a, ai] H = some r) : DetOK P H w (do pure (.value (← Instr.indexAt t v i))) r := by
  cases ai <;> (try (simp [detV] at hd; done))
  rename_i k j
  cases hi.int_inv
  by_cases hm : ∃ b off len cap, a = .mslice b off len cap
  · obtain ⟨b, off, len, cap, rfl⟩ := hm
    cases h
    simp only [detV] at hd
    split at hd
    · rename_i hb
      cases hd
      exact DetOK.of (index_run (.int k j) b off len cap ht hn hb.1 hb.2) (.ptr _ _)
    · cases hd
  · have hd' : ((asSlice a).bind fun es => if 0 ≤ j then es[j.toNat]?.bind fun e => if e.length = n then some (AV.elem e) else none else none) = some r := by
      cases a <;> first | exact hd | exact absurd ⟨_, _, _, _, rfl⟩ hm
    rw [Option.bind_eq_some_iff] at hd'
    obtain ⟨es, hes, hd'⟩ := hd'
    split at hd'
    · rename_i h0
      rw [Option.bind_eq_some_iff] at hd'
      obtain ⟨el, hel, hd'⟩ := hd'
      split at hd'
      · rename_i hlen
        cases hd'
        obtain ⟨ad, cap, rfl, hcap, hne⟩ := asSlice_rep h hes
        have hlt : j.toNat < es.length := by
          rcases Nat.lt_or_ge j.toNat es.length with h | h
          · exact h
          · rw [List.getElem?_eq_none h] at hel; cases hel
        obtain ⟨b, off, sz, rfl, hsz, vs, hr, hx⟩ := hne (by intro e; subst e; simp at hlt)
        have hszn : sz = n := by rw [← hsz el (List.mem_of_getElem? hel), hlen]
        subst hszn
        refine DetOK.of (index_run (.int k j) b off _ cap ht hn h0 (by omega)) (.elem b (off + j.toNat * sz) el (fun q => vs j.toNat q) (fun q hq => hr _ _ hlt (by omega)) (fun q x hq => hx _ _ _ _ hel hq))
      · cases hd'
    · cases hd'

theorem arr_run {k : IntKind} {i : Int} (b off : Nat) {t e : TypeId} {len n : Nat} (ht : P.underlying t = some (.array len e)) (hn : szB P e = some n) (h0 : 0 ≤ i) (h1 : i < len) :
    (Instr.indexAt t (.pointer (some ⟨b, off, none⟩)) (.int k i)).run P w = .ok (.pointer (some ⟨b, off + i.toNat * n, none⟩)) w := by
  simp [Instr.indexAt, asIntOf, run_underlying ht, szB_run hn, h0, h1, add_mid, Instr.sureAddr]

theorem arraddr_ok {t e : TypeId} {len n : Nat} {v i : Value} {a ai r : AV} (ht : P.underlying t = some (.array len e)) (hn : szB P e = some n) (h : Rep H w v a) (hi : Rep H w i ai)
    (hd : detV (.arraddr len n) [a, ai] H = some r) : DetOK P H w (do pure (.value (← Instr.indexAt t v i))) r := by
  cases ai <;> (try (cases a <;> simp [detV] at hd; done))
  rename_i k j
  cases hi.int_inv
  cases h <;> simp only [detV] at hd <;> (try (cases hd; done))
  · split at hd
    · rename_i hb; cases hd; exact DetOK.of (arr_run _ _ ht hn hb.1 hb.2) (.ptr _ _)
    · cases hd
  · rename_i b off cs vs hr hx
    split at hd
    · rename_i hb
      cases hd
      refine DetOK.of (arr_run b off ht hn hb.1 hb.2) (.elem b (off + j.toNat * n) _ (fun q => vs (j.toNat * n + q)) (fun q hq => ?_) (fun q x hq => ?_))
      · simp at hq
        have := hr (j.toNat * n + q) (by omega)
        rwa [← Nat.add_assoc] at this
      · rw [List.getElem?_drop] at hq
        exact hx _ _ hq
    · cases hd

theorem idx_ok {t e : TypeId} {len n : Nat} {ag : Bool} {v i : Value} {a ai r : AV} (ht : P.underlying t = some (.array len e)) (hag : isAggB P e = some ag) (hn : szB P e = some n) (h : Rep H w v a) (hi : Rep H w i ai)
    (hd : detV (.idx len ag n) [a, ai] H = some r) : DetOK P H w (do pure (.value (← Instr.index t v i))) r := by
  cases ai <;> (try (cases a <;> cases ag <;> simp [detV] at hd; done))
  rename_i k j
  cases hi.int_inv
  cases a <;> (try (cases ag <;> simp [detV] at hd; done))
  rename_i cs
  obtain ⟨arr, rfl, hsz, hx⟩ := h.agg_inv
  have hb : 0 ≤ j ∧ j < len ∧ (if ag then (if j.toNat * n + n ≤ cs.length then some (.agg ((cs.drop (j.toNat * n)).take n)) else none) else cs[j.toNat * n]?) = some r := by
    cases ag <;> simp only [detV] at hd <;> split at hd <;> (try (cases hd; done))
    · rename_i hb; exact ⟨hb.1, hb.2, by simpa using hd⟩
    · rename_i hb; exact ⟨hb.1, hb.2.1, by rw [if_pos rfl, if_pos hb.2.2]; exact hd⟩
  obtain ⟨u, hu, hr⟩ := part_ok (P := P) hag hn hsz hx hb.2.2
  refine DetOK.of (v := u) ?_ hr
  simp [Instr.index, asIntOf, run_underlying ht, hb.1, hb.2.1, szB_run hn, hu]

theorem sub_ok {t e : TypeId} {n : Nat} {v i : Value} {a ai r : AV} (ht : P.underlying t = some (.slice e)) (hn : szB P e = some n) (h : Rep H w v a) (hi : Rep H w i ai)
    (hd : detV (.sub n) [a, ai] H = some r) : DetOK P H w (do pure (.value (← Instr.sliceAt t v none (some i) none))) r := by
  cases ai <;> (try (simp [detV] at hd; done))
  rename_i k j
  cases hi.int_inv
  simp only [detV, Option.bind_eq_some_iff] at hd
  obtain ⟨es, hes, hd⟩ := hd
  split at hd
  · rename_i hb
    cases hd
    obtain ⟨ad, cap, rfl, hcap, hne⟩ := asSlice_rep h hes
    have hrun : (Instr.sliceAt t (.slice ad es.length cap) none (some (.int k j)) none).run P w = .ok (.slice (if cap = 0 then ad else ad.map (·.add 0)) j.toNat cap) w := by
      have : j ≤ (cap : Int) := by omega
      simp [Instr.sliceAt, Instr.slice, Instr.sliceBounds, Instr.sliceBound, asIntOf, run_underlying ht, szB_run hn, hb.1, this]
    refine DetOK.of hrun ?_
    by_cases he : es = []
    · subst he
      simp at hb
      have : j.toNat = 0 := by omega
      rw [this]
      simp only [List.take_nil]
      exact .nil _ _
    · obtain ⟨b, off, sz, rfl, hsz, vs, hr, hx⟩ := hne he
      have hcap0 : ¬ cap = 0 := by
        intro h0; subst h0
        cases es with
        | nil => exact he rfl
        | cons => simp at hcap
      simp only [hcap0, if_false, Option.map_some, add_mid, Nat.add_zero]
      have hl : (es.take j.toNat).length = j.toNat := by simp; omega
      have := Rep.slice (H := H) (w := w) b off cap sz (es.take j.toNat) vs (by omega) (fun e he => hsz e (List.mem_of_mem_take he)) (fun i q hi hq => hr i q (by omega) hq)
        (fun i q e x hi hq => hx i q e x (by rw [List.getElem?_take] at hi; split at hi <;> simp_all) hq)
      rwa [hl] at this
  · cases hd

theorem arrsub_ok {t e : TypeId} {len n : Nat} {v i : Value} {a ai r : AV} (ht : P.underlying t = some (.array len e)) (hn : szB P e = some n) (h : Rep H w v a) (hi : Rep H w i ai)
    (hd : detV (.arrsub len n) [a, ai] H = some r) : DetOK P H w (do pure (.value (← Instr.sliceAt t v none (some i) none))) r := by
  cases ai <;> (try (cases a <;> simp [detV] at hd; done))
  rename_i k j
  cases hi.int_inv
  cases h <;> simp only [detV] at hd <;> (try (cases hd; done))
  rename_i b off
  split at hd
  · rename_i hb
    cases hd
    refine DetOK.of (v := .slice (some ⟨b, off, none⟩) j.toNat len) ?_ (.mslice _ _ _ _)
    by_cases h0 : len = 0
    · subst h0; simp [Instr.sliceAt, Instr.sliceBounds, Instr.sliceBound, asIntOf, run_underlying ht, szB_run hn, hb.1, hb.2, Instr.sureAddr]
      intro h; omega
    · simp [Instr.sliceAt, Instr.sliceBounds, Instr.sliceBound, asIntOf, run_underlying ht, szB_run hn, hb.1, hb.2, Instr.sureAddr, h0, add_mid]
  · cases hd

theorem arrall_ok {t e : TypeId} {len n : Nat} {v : Value} {a r : AV} (ht : P.underlying t = some (.array len e)) (hn : szB P e = some n) (h : Rep H w v a)
    (hd : detV (.arrall len n) [a] H = some r) : DetOK P H w (do pure (.value (← Instr.sliceAt t v none none none))) r := by
  cases h <;> simp only [detV] at hd <;> (try (cases hd; done))
  rename_i b off
  cases hd
  refine DetOK.of (v := .slice (some ⟨b, off, none⟩) len len) ?_ (.mslice _ _ _ _)
  by_cases h0 : len = 0
  · subst h0; simp [Instr.sliceAt, Instr.sliceBounds, Instr.sliceBound, asIntOf, run_underlying ht, szB_run hn, Instr.sureAddr]
  · simp [Instr.sliceAt, Instr.sliceBounds, Instr.sliceBound, asIntOf, run_underlying ht, szB_run hn, Instr.sureAddr, h0, add_mid]
end
end Go.Lift

