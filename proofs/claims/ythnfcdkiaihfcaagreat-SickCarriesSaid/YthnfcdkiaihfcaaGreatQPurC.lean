/- The courses and truths of the reference are those of the program, in another order; what is harmed and safe. Conditions: none. -/
import Derived.Test.YthnfcdkiaihfcaaGreatQPurB
set_option linter.unusedSimpArgs false
set_option linter.unusedVariables false
namespace Go.Lift
open Go Go.Proofs
theorem prodL_pos {f : Nat → Nat} : ∀ (k a : Nat), (∀ i, a ≤ i → i < a + k → 1 ≤ f i) → 1 ≤ prodL f a k
  | 0, _, _ => Nat.le_refl _
  | k + 1, a, h => by
    rw [prodL]
    exact Nat.mul_pos (h a (by omega) (by omega)) (prodL_pos k (a + 1) fun i h1 h2 => h i (by omega) (by omega))
theorem timesR_eq {h : House} (hv : HV h) : timesR h h.touches.length = prodL (hourN h) 0 h.touches.length := by
  have h1 := manyH_eq hv
  have h2 := hv.many
  have h3 := prodL_pos (f := womN h.table) h.table.pieces.length 0 fun i _ hi => womN_pos hv.tab i (by omega)
  have h4 : prodL (womN h.table) 0 h.table.pieces.length * prodL (hourN h) 0 h.touches.length ≤ 2000 := by omega
  have h5 : prodL (hourN h) 0 h.touches.length ≤ prodL (womN h.table) 0 h.table.pieces.length * prodL (hourN h) 0 h.touches.length := Nat.le_mul_of_pos_left _ h3
  rw [timesR]; omega
theorem flat_filter {α β : Type} (p : α → Bool) (f : α → List β) : ∀ l : List α, l.flatMap (fun a => if p a = true then f a else []) = (l.filter p).flatMap f
  | [] => rfl
  | a :: l => by
    rw [List.flatMap_cons, List.filter_cons, flat_filter p f l]
    cases p a <;> simp
theorem courses_perm {h : House} (hv : HV h) : (coursesR h).Perm (allC h) := by
  have e1 : allC h = (ownersA h.table).flatMap fun o => (enumH h h.touches.length []).map fun hs => (⟨o, hs⟩ : Course) := by
    rw [allC, ownersA, ← flat_filter]; rfl
  rw [e1, coursesR]
  refine ((owners_perm hv.tab).flatMap_right _).trans (flat_congr fun o _ => ?_)
  rw [rowR, timesR_eq hv]
  have := (hours_perm h (hourN_pos hv)).map fun hs => (⟨o, hs⟩ : Course)
  rw [List.map_map] at this
  exact this
theorem truths_perm {h : House} (hv : HV h) : (truthsH h).Perm (truH h []) := (courses_perm hv).filter _
theorem mem_coursesR {h : House} (hv : HV h) (c : Course) : c ∈ coursesR h ↔ courseOK h c = true := by rw [(courses_perm hv).mem_iff, mem_allC hv.tab]
theorem coursesR_clen {h : House} (hv : HV h) {c : Course} (hc : c ∈ coursesR h) : CLen h c := by
  have := courseOK_len ((mem_coursesR hv c).1 hc)
  exact ⟨this.1, this.2⟩
theorem truthsH_clen {h : House} (hv : HV h) {c : Course} (hc : c ∈ truthsH h) : CLen h c := coursesR_clen hv (List.mem_filter.1 hc).1
theorem truthsH_sm {h : House} (hv : HV h) : (truthsH h).length ≤ 2000 := by
  have h1 := (courses_perm hv).length_eq
  have h2 := allC_len hv
  have h3 : (truthsH h).length ≤ (coursesR h).length := List.length_filter_le _ _
  omega
theorem perm_nil {α : Type} {a b : List α} (h : a.Perm b) : a = [] ↔ b = [] := by
  rw [← List.length_eq_zero_iff, ← List.length_eq_zero_iff, h.length_eq]
theorem perm_any {α : Type} {a b : List α} (h : a.Perm b) (p : α → Bool) : a.any p = b.any p := by
  rw [Bool.eq_iff_iff, List.any_eq_true, List.any_eq_true]
  exact ⟨fun ⟨x, hx, hp⟩ => ⟨x, h.mem_iff.1 hx, hp⟩, fun ⟨x, hx, hp⟩ => ⟨x, h.mem_iff.2 hx, hp⟩⟩
theorem perm_all {α : Type} {a b : List α} (h : a.Perm b) (p : α → Bool) : a.all p = b.all p := by
  rw [Bool.eq_iff_iff, List.all_eq_true, List.all_eq_true]
  exact ⟨fun hp x hx => hp x (h.mem_iff.2 hx), fun hp x hx => hp x (h.mem_iff.1 hx)⟩
/-! owners are women -/
theorem own_woman {h : House} (hv : HV h) {c : Course} (hc : courseOK h c = true) {i : Nat} (hi : i < h.table.pieces.length) : ∃ w : Nat, c.owners.getD i 0 = (w : Int) ∧ w < h.table.women.length := by
  simp only [courseOK, Bool.and_eq_true] at hc
  obtain ⟨h1, _⟩ := (isTruthT_iff hv.tab _).1 hc.1
  obtain ⟨h3, h4, h5⟩ := allO_owner (checkTable_len hv.tab).2 h1
  obtain ⟨w, hw, hwl⟩ := h5 i hi
  refine ⟨w, ?_, hwl⟩
  rw [← hw, pad7_get _ _ (by omega)]
theorem pad_get {h : House} (hv : HV h) {c : Course} (hc : courseOK h c = true) {i : Nat} (hi : i < h.table.pieces.length) : (pad7 c.owners).getD i 0 = c.owners.getD i 0 := by
  have := (courseOK_len hc).1
  rw [pad7_get _ _ (by omega)]
theorem harm_eq {h : House} (hv : HV h) {c : Course} (hc : courseOK h c = true) (w : Int) : harmB h c (lastOf h c []) w = harmedP h w c := by
  have hl := (courseOK_len hc).1
  rw [harmB, harmedP, hl, Bool.eq_iff_iff]
  simp only [Bool.and_eq_true, Bool.not_eq_true', decide_eq_false_iff_not, List.any_eq_true, List.mem_range, harmAt, harmedAt, decide_eq_true_eq]
  constructor
  · rintro ⟨h1, i, hi, h2, h3⟩
    refine ⟨i, hi, ?_⟩
    rw [pad_get hv hc hi, h2]
    exact ⟨⟨h3, rfl⟩, h1⟩
  · rintro ⟨i, hi, h1⟩
    rw [pad_get hv hc hi] at h1
    obtain ⟨⟨h3, h2⟩, h4⟩ := h1
    rw [h2] at h4
    exact ⟨h4, i, hi, h2, h3⟩
theorem safe_eq {h : House} (hv : HV h) {c : Course} (hc : courseOK h c = true) (more : List Boiling) : safeR h more c = safeC h more c := by
  have hl := (courseOK_len hc).1
  rw [safeR, safeC, Bool.eq_iff_iff]
  simp only [List.all_eq_true, List.mem_range, harmB, safeAt, hl, Bool.not_eq_true', Bool.and_eq_false_iff, Bool.not_eq_false', decide_eq_true_eq, List.any_eq_false, harmAt, Bool.and_eq_true]
  constructor
  · intro hw i hi
    obtain ⟨w, h1, h2⟩ := own_woman hv hc hi
    rw [pad_get hv hc hi, h1]
    rcases hw w h2 with h3 | h3
    · exact .inr h3
    · have := h3 i hi
      rw [h1] at this
      simp only [true_and, Bool.not_eq_true] at this
      exact .inl this
  · intro hs w hw
    by_cases h1 : (w : Int) ∈ h.sick
    · exact .inl h1
    · refine .inr fun i hi h2 => ?_
      have := hs i hi
      rw [pad_get hv hc hi, h2.1, h2.2] at this
      rcases this with h | h
      · cases h
      · exact h1 h
theorem all_safe {h : House} (hv : HV h) (more : List Boiling) : (truthsH h).all (safeR h more) = safeP h more := by
  rw [perm_all (truths_perm hv), safeP, Bool.eq_iff_iff, List.all_eq_true, List.all_eq_true]
  have key : ∀ c ∈ truH h [], safeR h more c = safeC h more c := fun c hc => safe_eq hv (tru_ok hv hc) more
  exact ⟨fun hp x hx => by rw [← key x hx]; exact hp x hx, fun hp x hx => by rw [key x hx]; exact hp x hx⟩
theorem carry_count {h : House} (hv : HV h) (i : Nat) : verdictOf ((truthsH h).countP (carriesP h i)) (truthsH h).length = carryAt h i := by
  rw [(truths_perm hv).countP_eq, (truths_perm hv).length_eq]; rfl
theorem whose_any {h : House} (hv : HV h) (ht : truH h [] ≠ []) (w : Nat) : (truthsH h).any (fun c => harmB h c (lastOf h c []) w) = isWhose h w := by
  rw [perm_any (truths_perm hv), isWhose, verdictOf, Bool.eq_iff_iff, List.any_eq_true, decide_eq_true_eq]
  have hpos : 0 < (truH h []).length := List.length_pos_iff.2 ht
  have key : (∃ x, x ∈ truH h [] ∧ harmB h x (lastOf h x []) w = true) ↔ (truH h []).countP (harmedP h w) ≠ 0 := by
    rw [Ne, List.countP_eq_zero]
    constructor
    · rintro ⟨x, hx, hp⟩ hall
      rw [harm_eq hv (tru_ok hv hx)] at hp
      exact hall x hx hp
    · intro hne
      refine Classical.byContradiction fun hno => hne fun x hx hp => hno ⟨x, hx, ?_⟩
      rw [harm_eq hv (tru_ok hv hx)]; exact hp
  rw [key]
  by_cases h1 : (truH h []).countP (harmedP h w) = (truH h []).length
  · rw [if_pos h1]
    exact ⟨fun _ => by decide, fun _ => by omega⟩
  · rw [if_neg h1]
    by_cases h2 : (truH h []).countP (harmedP h w) = 0
    · rw [if_pos h2]; simp [h2]
    · rw [if_neg h2]; exact ⟨fun _ => by decide, fun _ => h2⟩
end Go.Lift
