/- Part 24 of the proof: the tools and contracts. Conditions: none. -/
import Derived.Test.YthnfcdkiaihfcaaGreatP23
import Derived.Deep.Slices
import Derived.ChangeShapes
import Derived.ChangeArms
import Derived.Test.YthnfcdkiaihfcaaGreatRows
import Derived.ProofKit
import Derived.ReadAgain
import Derived.Carry
set_option linter.unusedSimpArgs false
set_option linter.unusedVariables false
namespace Go.Lift
open Go Go.Proofs
theorem thingsR_c (h : House) : Pure Tryz.prog 25 [eH h] (i6 (thingsW h)) := by
  intro H
  refine fn_of hmix fc25 (by simp) ?_
  rw [ienv1]
  simp only [go_sem, reduceIte, reduceCtorEq, Nat.reduceEqDiff, Nat.reduceBEq, Nat.reduceAdd, Nat.reduceMul, Nat.reduceLeDiff, ac25, eH]
  refine v_box _ rfl fun b1 hb1 => ?_
  simp only [go_sem, reduceIte, reduceCtorEq, Nat.reduceEqDiff, Nat.reduceBEq, Nat.reduceAdd, Nat.reduceMul, Nat.reduceLeDiff, take_f', List.getElem?_cons_zero]
  refine fin_ret 2 (by simp [upd_at]) ⟨_, H, Settle.refl ((Ext.refl H).new hb1 _), ?_⟩
  simp [upd_at, thingsW]
theorem isThing_c (h : House) (n : Int) : Pure Tryz.prog 96 [eH h, i6 n] (.bool (thingOK h n)) := by
  intro H
  refine fn_of hmix fc96 (by simp) ?_
  rw [ienv2]
  simp only [go_sem, reduceIte, reduceCtorEq, Nat.reduceEqDiff, Nat.reduceBEq, Nat.reduceAdd, Nat.reduceMul, Nat.reduceLeDiff, ac96, eH]
  refine v_box _ rfl fun b1 hb1 => ?_
  simp only [go_sem, reduceIte, reduceCtorEq, Nat.reduceEqDiff, Nat.reduceBEq, Nat.reduceAdd, Nat.reduceMul, Nat.reduceLeDiff]
  refine (thingsR_c h).go ?_
  simp only [go_sem, reduceIte, reduceCtorEq, Nat.reduceEqDiff, Nat.reduceBEq, Nat.reduceAdd, Nat.reduceMul, Nat.reduceLeDiff]
  refine (in_c n 0 _).go ?_
  simp only [go_sem, reduceIte, reduceCtorEq, Nat.reduceEqDiff, Nat.reduceBEq, Nat.reduceAdd, Nat.reduceMul, Nat.reduceLeDiff]
  refine fin_ret 4 (by simp [upd_at]) ⟨_, H, Settle.refl ((Ext.refl H).new hb1 _), ?_⟩
  simp [upd_at, thingOK]
theorem isHour_c (h : House) (n : Int) : Pure Tryz.prog 97 [eH h, i6 n] (.bool (hourOK h n)) := by
  intro H
  refine fn_of hmix fc97 (by simp) ?_
  rw [ienv2]
  simp only [go_sem, reduceIte, reduceCtorEq, Nat.reduceEqDiff, Nat.reduceBEq, Nat.reduceAdd, Nat.reduceMul, Nat.reduceLeDiff, ac97, eH]
  refine v_box _ rfl fun b1 hb1 => ?_
  simp only [go_sem, reduceIte, reduceCtorEq, Nat.reduceEqDiff, Nat.reduceBEq, Nat.reduceAdd, Nat.reduceMul, Nat.reduceLeDiff, take_f', List.getElem?_cons_zero]
  refine (in_c n 0 _).go ?_
  simp only [go_sem, reduceIte, reduceCtorEq, Nat.reduceEqDiff, Nat.reduceBEq, Nat.reduceAdd, Nat.reduceMul, Nat.reduceLeDiff]
  refine fin_ret 4 (by simp [upd_at]) ⟨_, H, Settle.refl ((Ext.refl H).new hb1 _), ?_⟩
  simp [upd_at, hourOK]
def risingRAt (l : List Int) (limit : Int) (i : Nat) : Bool := decide (0 ≤ l.getD i 0 ∧ l.getD i 0 ≤ IntKind.i64.wrap (limit - 1)) && (decide (i = 0) || !decide (l.getD i 0 ≤ l.getD (i - 1) 0))
def risingR (l : List Int) (limit : Int) : Bool := (List.range l.length).all (risingRAt l limit)
theorem risingR_c (l : List Int) (limit : Int) (hl : Sm l.length) : Pure Tryz.prog 54 [.slice (eI l), i6 limit] (.bool (risingR l limit)) := by
  intro H
  unfold Sm at hl
  refine fn_of hmix fc54 (by simp) ?_
  rw [ienv2]
  simp only [go_sem, reduceIte, reduceCtorEq, Nat.reduceEqDiff, Nat.reduceBEq, Nat.reduceAdd, Nat.reduceMul, Nat.reduceLeDiff, ac54]
  refine x_for l.length (fun k env H1 => H1 = H ∧ env 0 = .slice (eI l) ∧ env 1 = i6 limit ∧ env 5 = i6 k ∧ env 36 = .any ∧ ∀ i, i < k → risingRAt l limit i = true) (by simp [upd_at]) ?_
  rintro k env H1 hk ⟨rfl, g0, g1, g5, hN, hm⟩
  by_cases hlt : (k : Int) < (l.length : Int)
  · have hltk : k < l.length := by omega
    have hgk : l.getD k 0 = l[k] := by simp [hltk]
    have hbad : risingRAt l limit k = false → risingR l limit = false := fun h => by
      rw [risingR, List.all_eq_false]; exact ⟨k, by simp [hltk], by simp [h]⟩
    simp only [go_sem, reduceIte, reduceCtorEq, Nat.reduceEqDiff, Nat.reduceBEq, Nat.reduceAdd, Nat.reduceMul, Nat.reduceLeDiff, g0, g1, g5, hN, hlt, eI_get hltk]
    refine pgo_call (in_c l[k] 0 _) ?_
    by_cases d1 : 0 ≤ l[k] ∧ l[k] ≤ IntKind.i64.wrap (limit - 1)
    rotate_left
    · simp only [go_sem, reduceIte, reduceCtorEq, Nat.reduceEqDiff, Nat.reduceBEq, Nat.reduceAdd, Nat.reduceMul, Nat.reduceLeDiff, d1, hN]
      refine fin_ret' 4 (by simp [upd_at, hN]) ?_
      rw [hbad (by rw [risingRAt, hgk, decide_eq_false d1]; rfl)]; simp [upd_at]
    by_cases d2 : (0 : Int) < (k : Int)
    rotate_left
    · have hk0 : k = 0 := by omega
      simp only [go_sem, reduceIte, reduceCtorEq, Nat.reduceEqDiff, Nat.reduceBEq, Nat.reduceAdd, Nat.reduceMul, Nat.reduceLeDiff, d1, d2, g0, g1, g5, hN, wsucc (show k < 4611686018427387904 by omega), hltk]
      intro i hi
      rcases Nat.lt_or_ge i k with h | h
      · exact hm i h
      · have : i = k := by omega
        subst this; rw [risingRAt, hgk, decide_eq_true d1]; simp [hk0]
    have hgk1 : l.getD (k - 1) 0 = l[k - 1] := by simp [show k - 1 < l.length by omega]
    have hk0 : ¬ k = 0 := by omega
    by_cases d3 : l[k] ≤ l[k - 1]
    · simp only [go_sem, reduceIte, reduceCtorEq, Nat.reduceEqDiff, Nat.reduceBEq, Nat.reduceAdd, Nat.reduceMul, Nat.reduceLeDiff, d1, d2, d3, g0, g1, g5, hN, wpred (show k < 4611686018427387904 by omega) (show 0 < k by omega), eI_get hltk, eI_get (show k - 1 < l.length by omega)]
      refine fin_ret' 4 (by simp [upd_at, hN]) ?_
      rw [hbad (by rw [risingRAt, hgk, hgk1, decide_eq_true d3, decide_eq_false hk0]; simp)]; simp [upd_at]
    · simp only [go_sem, reduceIte, reduceCtorEq, Nat.reduceEqDiff, Nat.reduceBEq, Nat.reduceAdd, Nat.reduceMul, Nat.reduceLeDiff, d1, d2, d3, g0, g1, g5, hN, wpred (show k < 4611686018427387904 by omega) (show 0 < k by omega), eI_get hltk, eI_get (show k - 1 < l.length by omega), wsucc (show k < 4611686018427387904 by omega), hltk]
      intro i hi
      rcases Nat.lt_or_ge i k with h | h
      · exact hm i h
      · have : i = k := by omega
        subst this; rw [risingRAt, hgk, hgk1, decide_eq_true d1, decide_eq_false d3]; simp
  · simp only [go_sem, reduceIte, reduceCtorEq, Nat.reduceEqDiff, Nat.reduceBEq, Nat.reduceAdd, Nat.reduceMul, Nat.reduceLeDiff, g0, g1, g5, hN, hlt]
    have : k = l.length := by omega
    subst this
    refine fin_ret' 4 (by simp [upd_at, hN]) ?_
    have : risingR l limit = true := by rw [risingR, List.all_eq_true]; intro i hi; exact hm i (by simpa using hi)
    simp [upd_at, this]
theorem rising_eq (l : List Int) (limit : Int) (h0 : 0 ≤ limit) (h1 : limit < 4611686018427387904) : risingOK l limit = risingR l limit := by
  have hw := w64 (x := limit - 1) (by omega) (by omega)
  have key : ∀ n, (∀ i, i < n → risingAt l limit i = true) ↔ (∀ i, i < n → risingRAt l limit i = true) := by
    intro n
    induction n with
    | zero => constructor <;> intro _ i hi <;> omega
    | succ n ih =>
      have step : (∀ i, i < n → risingRAt l limit i = true) → (risingAt l limit n = true ↔ risingRAt l limit n = true) := by
        intro hp
        simp only [risingAt, risingRAt, hw, lastAt]
        cases n with
        | zero => simp [w64]
        | succ m =>
          have hm := hp m (by omega)
          simp only [risingRAt, hw, Bool.and_eq_true, decide_eq_true_eq] at hm
          have h2 := hm.1
          have hw2 := w64 (x := l.getD m 0 + 1) (by omega) (by omega)
          simp only [Nat.add_one_ne_zero, if_false, Nat.add_sub_cancel, hw2, decide_eq_true_eq, Bool.and_eq_true, decide_false, Bool.false_or, Bool.not_eq_true', decide_eq_false_iff_not]
          omega
      constructor
      · intro h i hi
        have h' := ih.1 fun i hi => h i (by omega)
        rcases Nat.lt_or_ge i n with h2 | h2
        · exact h' i h2
        · have : i = n := by omega
          subst this; exact (step h').1 (h i (by omega))
      · intro h i hi
        have h' : ∀ i, i < n → risingRAt l limit i = true := fun i hi => h i (by omega)
        rcases Nat.lt_or_ge i n with h2 | h2
        · exact ih.2 h' i h2
        · have : i = n := by omega
          subst this; exact (step h').2 (h i (by omega))
  have := key l.length
  rw [Bool.eq_iff_iff]
  simp only [risingOK, risingR, List.all_eq_true, List.mem_range]
  exact this
theorem enumG_snoc (f : Nat → List Int) : ∀ (k : Nat) (pre : List Int), enumG f (k + 1) pre = (enumG f k pre).flatMap fun o => (f (pre.length + k)).map fun w => o ++ [w]
  | 0, pre => by simp [enumG, List.map_eq_flatMap]
  | k + 1, pre => by
    rw [enumG]
    conv => rhs; rw [enumG, List.flatMap_assoc]
    congr 1
    funext w
    rw [enumG_snoc f k (pre ++ [w])]
    congr 1
    funext o
    rw [List.length_append, List.length_singleton, show pre.length + 1 + k = pre.length + (k + 1) by omega]
theorem range_mul (b : Nat) : ∀ a, List.range (a * b) = (List.range a).flatMap fun q => (List.range b).map fun r => q * b + r
  | 0 => by simp
  | a + 1 => by
    rw [Nat.add_mul, Nat.one_mul, List.range_add, range_mul b a, List.range_succ, List.flatMap_append]
    simp
theorem allO_nth (t : Table) : ∀ k, (∀ i, i < k → 1 ≤ womN t i) → enumO t k [] = (List.range (prodL (womN t) 0 k)).map (nthL t k)
  | 0, _ => rfl
  | k + 1, hp => by
    have hk := hp k (by omega)
    rw [enumO_eq, enumG_snoc, ← enumO_eq, allO_nth t k (fun i hi => hp i (by omega)), prodL_snoc, range_mul, List.map_flatMap, List.flatMap_map]
    simp only [List.length_nil, Nat.zero_add]
    congr 1
    funext q
    rw [List.map_map]
    have hof : womenOf t.women (t.pieces.getD k default).marks = ofAt t k := rfl
    rw [hof]
    apply List.ext_getElem
    · simp [womN, ofAt]
    · intro i h1 h2
      simp only [List.length_map, List.length_range] at h1 h2
      simp only [List.getElem_map, List.getElem_range, Function.comp]
      rw [nthL]
      have e1 : (q * womN t k + i) / womN t k = q := by
        rw [Nat.mul_comm, Nat.mul_add_div hk, Nat.div_eq_of_lt h2, Nat.add_zero]
      have e2 : (q * womN t k + i) % womN t k = i := by
        rw [Nat.mul_comm, Nat.mul_add_mod, Nat.mod_eq_of_lt h2]
      rw [e1, e2]
      simp [h1]
theorem truthsR_eq {t : Table} (hc : checkTable t = 0) : truthsR t = (allO t).filter (isTruthR t) := by
  have hp := prodO_le hc
  rw [truthsR, ownersUpto, manyR, Nat.min_eq_right (by omega), allO, allO_nth t _ (womN_pos hc)]
theorem truths_nil {t : Table} (hc : checkTable t = 0) : truthsR t = [] ↔ truthsT t = [] := by
  constructor
  · intro h
    rw [truthsT]
    cases hq : truthsUpto t (allO t) with
    | nil => rfl
    | cons q l =>
      obtain ⟨o, ho, _, hw⟩ := (truthsUpto_mem t (allO t) q).1 (by rw [hq]; exact List.mem_cons_self)
      have : o ∈ truthsR t := by
        rw [truthsR_eq hc, List.mem_filter]
        exact ⟨ho, by rw [isTruthR, (mem_allO t o).1 ho, decide_eq_true hw]; rfl⟩
      rw [h] at this; cases this
  · intro h
    cases hq : truthsR t with
    | nil => rfl
    | cons o l =>
      have : o ∈ truthsR t := by rw [hq]; exact List.mem_cons_self
      rw [truthsR_eq hc, List.mem_filter] at this
      simp only [isTruthR, Bool.and_eq_true, decide_eq_true_eq] at this
      have h2 := (truthsUpto_mem t (allO t) (pad7 o)).2 ⟨o, this.1, rfl, this.2.2⟩
      rw [show truthsUpto t (allO t) = truthsT t from rfl, h] at h2; cases h2
end Go.Lift

set_option linter.unusedSimpArgs false
set_option linter.unusedVariables false
namespace Go.Lift
open Go Go.Proofs
def timesR (h : House) (j : Nat) : Nat := min 3000 (prodL (hourN h) 0 j)
theorem timesR_c (h : House) (htl : h.touches.length ≤ 6) (ht : ∀ x ∈ h.touches, 0 ≤ x.lo ∧ x.lo ≤ x.hi ∧ x.hi ≤ 5) : Pure Tryz.prog 89 [eH h] (i6 (timesR h h.touches.length : Nat)) := by
  intro H
  refine fn_of hmix fc89 (by simp) ?_
  rw [ienv1]
  simp only [go_sem, reduceIte, reduceCtorEq, Nat.reduceEqDiff, Nat.reduceBEq, Nat.reduceAdd, Nat.reduceMul, Nat.reduceLeDiff, ac89, eH]
  refine v_box _ rfl fun b1 hb1 => ?_
  simp only [go_sem, reduceIte, reduceCtorEq, Nat.reduceEqDiff, Nat.reduceBEq, Nat.reduceAdd, Nat.reduceMul, Nat.reduceLeDiff]
  refine x_for h.touches.length (fun j env H1 => Ext H H1 ∧ H1 b1 = some (.box [.slice (h.table.women.map eW), .slice (h.table.pieces.map eP), i6 h.table.wrong, .slice (eI h.sick), i6 h.others, i6 h.last, .slice (h.touches.map eTo), .slice (h.boiled.map eB), .slice (h.signs.map eS)]) ∧ env 1 = .ptr b1 0 ∧ env 3 = i6 (timesR h j : Nat) ∧ env 4 = i6 j ∧ env 32 = .any)
    ⟨(Ext.refl H).new hb1 _, updH_same _ _ _, by simp [upd_at], by simp [upd_at, timesR, prodL], by simp [upd_at], by simp [upd_at]⟩ ?_
  rintro j env H1 hj ⟨hE, hB, g1, g3, g4, hN⟩
  by_cases hlt : (j : Int) < (h.touches.length : Int)
  · have hlt' : j < h.touches.length := by omega
    have hget : h.touches.getD j default = h.touches[j] := by simp [hlt']
    have hx := ht _ (List.getElem_mem hlt')
    have hsz : h.touches[j].hi - h.touches[j].lo + 1 = ((hourN h j : Nat) : Int) := by rw [hourN, hget]; omega
    have hw1 := w64 (x := h.touches[j].hi - h.touches[j].lo) (by omega) (by omega)
    have hw2 : IntKind.i64.wrap (h.touches[j].hi - h.touches[j].lo + 1) = ((hourN h j : Nat) : Int) := by rw [w64 (by omega) (by omega), hsz]
    have hn6 : hourN h j ≤ 6 := by omega
    have hmr : timesR h j ≤ 3000 := Nat.min_le_left _ _
    have hmul : timesR h j * hourN h j ≤ 3000 * 6 := Nat.mul_le_mul hmr hn6
    have hcast : ((timesR h j : Nat) : Int) * ((hourN h j : Nat) : Int) = ((timesR h j * hourN h j : Nat) : Int) := by simp
    have hw : IntKind.i64.wrap (((timesR h j : Nat) : Int) * ((hourN h j : Nat) : Int)) = ((timesR h j : Nat) : Int) * ((hourN h j : Nat) : Int) := by
      rw [hcast]; exact w64 (by omega) (by omega)
    have hcap : (if ((timesR h j : Nat) : Int) * ((hourN h j : Nat) : Int) < 3000 then ((timesR h j : Nat) : Int) * ((hourN h j : Nat) : Int) else 3000) = ((timesR h (j + 1) : Nat) : Int) := by
      rw [show timesR h (j + 1) = min 3000 (prodL (hourN h) 0 j * hourN h j) by rw [timesR, prodL_snoc, Nat.zero_add]]
      exact capmin 3000 (prodL (hourN h) 0 j) (hourN h j)
    simp only [go_sem, reduceIte, reduceCtorEq, Nat.reduceEqDiff, Nat.reduceBEq, Nat.reduceAdd, Nat.reduceMul, Nat.reduceLeDiff, g1, g3, g4, hN, hB, hlt, take_f', List.getElem?_cons_zero, map_get (f := eTo) hlt', eTo, hw1, hw2, hw, hcap, wsucc (show j < 4611686018427387904 by omega), hlt']
    exact hE
  · simp only [go_sem, reduceIte, reduceCtorEq, Nat.reduceEqDiff, Nat.reduceBEq, Nat.reduceAdd, Nat.reduceMul, Nat.reduceLeDiff, g1, g3, g4, hN, hB, hlt, take_f', List.getElem?_cons_zero]
    have : j = h.touches.length := by omega
    subst this
    refine fin_ret 2 (by simp [upd_at, hN]) ⟨_, H, Settle.refl hE, ?_, rfl⟩
    simp [upd_at]
theorem manyH_iff (h : House) (hc : checkTable h.table = 0) (ht : ∀ x ∈ h.touches, 0 ≤ x.lo ∧ x.lo ≤ x.hi ∧ x.hi ≤ 5) :
    2000 < manyH h ↔ 2000 < (manyR h.table h.table.pieces.length) * (timesR h h.touches.length) := by
  have hpos : ∀ i, i < h.touches.length → 1 ≤ hourN h i := fun i hi => by
    have := ht _ (List.getElem_mem hi)
    have hg : h.touches.getD i default = h.touches[i] := by simp [hi]
    rw [hourN, hg]; omega
  have hP := prodO_le hc
  rw [manyH, manyUpto_eq h.table (womN_pos hc) _ (Nat.le_refl _), timesUpto_eq h _ hpos _ (Nat.le_refl _), manyR, timesR]
  generalize prodL (womN h.table) 0 h.table.pieces.length = p at hP ⊢
  generalize prodL (hourN h) 0 h.touches.length = q
  rw [Nat.min_eq_right (show p ≤ 3000 by omega)]
  rcases Nat.lt_or_ge 3000 q with hq | hq
  · rw [Nat.min_eq_left (show 3000 ≤ q by omega)]
    rcases Nat.eq_zero_or_pos p with rfl | hp
    · simp
    · have h1 : 3000 ≤ p * 3000 := by omega
      have h2 : p * 3000 ≤ p * q := Nat.mul_le_mul_left p (by omega)
      omega
  · rw [Nat.min_eq_right hq]; omega
theorem faultH_c (h : House) (hs : TSm h.table) (hsk : Sm h.sick.length) : Pure Tryz.prog 42 [eH h] (i6 (checkHouse h)) := by
  intro H
  refine fn_of hmix fc42 (by simp) ?_
  rw [ienv1]
  simp only [go_sem, reduceIte, reduceCtorEq, Nat.reduceEqDiff, Nat.reduceBEq, Nat.reduceAdd, Nat.reduceMul, Nat.reduceLeDiff, ac42, eH]
  refine v_box _ rfl fun b1 hb1 => ?_
  have e1 := (Ext.refl H).new hb1 (.box [.slice (h.table.women.map eW), .slice (h.table.pieces.map eP), i6 h.table.wrong, .slice (eI h.sick), i6 h.others, i6 h.last, .slice (h.touches.map eTo), .slice (h.boiled.map eB), .slice (h.signs.map eS)])
  simp only [go_sem, reduceIte, reduceCtorEq, Nat.reduceEqDiff, Nat.reduceBEq, Nat.reduceAdd, Nat.reduceMul, Nat.reduceLeDiff]
  by_cases c1 : bigH h
  · have hres : checkHouse h = 3 := by rw [checkHouse, if_pos c1]
    unfold bigH at c1
    by_cases d1 : 5 < h.last
    · simp only [go_sem, reduceIte, reduceCtorEq, Nat.reduceEqDiff, Nat.reduceBEq, Nat.reduceAdd, Nat.reduceMul, Nat.reduceLeDiff, d1]
      refine fin_ret 2 (by simp [upd_at]) ⟨_, H, Settle.refl e1, by simp [upd_at, hres], rfl⟩
    by_cases d2 : 10 < h.others
    · simp only [go_sem, reduceIte, reduceCtorEq, Nat.reduceEqDiff, Nat.reduceBEq, Nat.reduceAdd, Nat.reduceMul, Nat.reduceLeDiff, d1, d2]
      refine fin_ret 2 (by simp [upd_at]) ⟨_, H, Settle.refl e1, by simp [upd_at, hres], rfl⟩
    by_cases d3 : 6 < (h.touches.length : Int)
    · simp only [go_sem, reduceIte, reduceCtorEq, Nat.reduceEqDiff, Nat.reduceBEq, Nat.reduceAdd, Nat.reduceMul, Nat.reduceLeDiff, d1, d2, d3]
      refine fin_ret 2 (by simp [upd_at]) ⟨_, H, Settle.refl e1, by simp [upd_at, hres], rfl⟩
    by_cases d4 : 4 < (h.boiled.length : Int)
    · simp only [go_sem, reduceIte, reduceCtorEq, Nat.reduceEqDiff, Nat.reduceBEq, Nat.reduceAdd, Nat.reduceMul, Nat.reduceLeDiff, d1, d2, d3, d4]
      refine fin_ret 2 (by simp [upd_at]) ⟨_, H, Settle.refl e1, by simp [upd_at, hres], rfl⟩
    have d5 : 5 < (h.signs.length : Int) := by
      rcases c1 with c | c | c | c | c
      · exact absurd c d1
      · exact absurd c d2
      · exact absurd c d3
      · exact absurd c d4
      · exact c
    simp only [go_sem, reduceIte, reduceCtorEq, Nat.reduceEqDiff, Nat.reduceBEq, Nat.reduceAdd, Nat.reduceMul, Nat.reduceLeDiff, d1, d2, d3, d4, d5]
    refine fin_ret 2 (by simp [upd_at]) ⟨_, H, Settle.refl e1, by simp [upd_at, hres], rfl⟩
  have hc1 := c1
  unfold bigH at c1
  simp only [not_or] at c1
  obtain ⟨d1, d2, d3, d4, d5⟩ := c1
  simp only [go_sem, reduceIte, reduceCtorEq, Nat.reduceEqDiff, Nat.reduceBEq, Nat.reduceAdd, Nat.reduceMul, Nat.reduceLeDiff, d1, d2, d3, d4, d5]
  refine (faultT_c h.table hs).go ?_
  by_cases c0 : checkTable h.table = 0
  rotate_left
  · have hask : askErr h.table = checkTable h.table := by rw [askErr, if_neg c0]
    have hres : checkHouse h = checkTable h.table := by rw [checkHouse, if_neg hc1, if_pos (by rw [hask]; exact c0), hask]
    simp only [go_sem, reduceIte, reduceCtorEq, Nat.reduceEqDiff, Nat.reduceBEq, Nat.reduceAdd, Nat.reduceMul, Nat.reduceLeDiff, c0]
    refine fin_ret 2 (by simp [upd_at]) ⟨_, H, Settle.refl e1, by simp [upd_at, hres], rfl⟩
  obtain ⟨hw5, hp7⟩ := checkTable_len c0
  simp only [go_sem, reduceIte, reduceCtorEq, Nat.reduceEqDiff, Nat.reduceBEq, Nat.reduceAdd, Nat.reduceMul, Nat.reduceLeDiff, c0]
  refine (truthsR_c h.table hs c0).go ?_
  have hnil := truths_nil c0
  by_cases c2 : ((truthsR h.table).length : Int) = 0
  · have hask : askErr h.table = 11 := by rw [askErr, if_pos c0, if_pos (hnil.1 (List.length_eq_zero_iff.1 (by omega)))]
    have hres : checkHouse h = 11 := by rw [checkHouse, if_neg hc1, if_pos (by rw [hask]; omega), hask]
    simp only [go_sem, reduceIte, reduceCtorEq, Nat.reduceEqDiff, Nat.reduceBEq, Nat.reduceAdd, Nat.reduceMul, Nat.reduceLeDiff, eII, c2]
    refine fin_ret 2 (by simp [upd_at]) ⟨_, H, Settle.refl e1, by simp [upd_at, hres], rfl⟩
  have hask : askErr h.table = 0 := by
    rw [askErr, if_pos c0, if_neg]
    intro h0; exact c2 (by rw [hnil.2 h0]; rfl)
  have hc2 : ¬ (askErr h.table ≠ 0) := fun h => h hask
  have hreq := rising_eq h.sick h.table.women.length (by omega) (by omega)
  simp only [go_sem, reduceIte, reduceCtorEq, Nat.reduceEqDiff, Nat.reduceBEq, Nat.reduceAdd, Nat.reduceMul, Nat.reduceLeDiff, eII, c2]
  by_cases c3 : badH h
  · have hres : checkHouse h = 1 := by rw [checkHouse, if_neg hc1, if_neg hc2, if_pos c3]
    unfold badH at c3
    by_cases f1 : h.last < 0
    · simp only [go_sem, reduceIte, reduceCtorEq, Nat.reduceEqDiff, Nat.reduceBEq, Nat.reduceAdd, Nat.reduceMul, Nat.reduceLeDiff, f1]
      refine fin_ret 2 (by simp [upd_at]) ⟨_, H, Settle.refl e1, by simp [upd_at, hres], rfl⟩
    by_cases f2 : h.others < 0
    · simp only [go_sem, reduceIte, reduceCtorEq, Nat.reduceEqDiff, Nat.reduceBEq, Nat.reduceAdd, Nat.reduceMul, Nat.reduceLeDiff, f1, f2]
      refine fin_ret 2 (by simp [upd_at]) ⟨_, H, Settle.refl e1, by simp [upd_at, hres], rfl⟩
    simp only [go_sem, reduceIte, reduceCtorEq, Nat.reduceEqDiff, Nat.reduceBEq, Nat.reduceAdd, Nat.reduceMul, Nat.reduceLeDiff, f1, f2]
    refine (thingsR_c h).go ?_
    by_cases f3 : 10 < thingsW h
    · simp only [go_sem, reduceIte, reduceCtorEq, Nat.reduceEqDiff, Nat.reduceBEq, Nat.reduceAdd, Nat.reduceMul, Nat.reduceLeDiff, f3]
      refine fin_ret 2 (by simp [upd_at]) ⟨_, H, Settle.refl e1, by simp [upd_at, hres], rfl⟩
    have f4 : risingR h.sick h.table.women.length = false := by
      rw [← hreq]
      rcases c3 with c | c | c | c
      · exact absurd c f1
      · exact absurd c f2
      · exact absurd c f3
      · exact c
    simp only [go_sem, reduceIte, reduceCtorEq, Nat.reduceEqDiff, Nat.reduceBEq, Nat.reduceAdd, Nat.reduceMul, Nat.reduceLeDiff, f3]
    refine (risingR_c h.sick _ hsk).go ?_
    simp only [go_sem, reduceIte, reduceCtorEq, Nat.reduceEqDiff, Nat.reduceBEq, Nat.reduceAdd, Nat.reduceMul, Nat.reduceLeDiff, f4]
    refine fin_ret 2 (by simp [upd_at]) ⟨_, H, Settle.refl e1, by simp [upd_at, hres], rfl⟩
  have hc3 := c3
  unfold badH at c3
  simp only [not_or, Bool.not_eq_false] at c3
  obtain ⟨f1, f2, f3, f4⟩ := c3
  have f4' : risingR h.sick h.table.women.length = true := by rw [← hreq]; exact f4
  simp only [go_sem, reduceIte, reduceCtorEq, Nat.reduceEqDiff, Nat.reduceBEq, Nat.reduceAdd, Nat.reduceMul, Nat.reduceLeDiff, f1, f2]
  refine (thingsR_c h).go ?_
  simp only [go_sem, reduceIte, reduceCtorEq, Nat.reduceEqDiff, Nat.reduceBEq, Nat.reduceAdd, Nat.reduceMul, Nat.reduceLeDiff, f3]
  refine (risingR_c h.sick _ hsk).go ?_
  simp only [go_sem, reduceIte, reduceCtorEq, Nat.reduceEqDiff, Nat.reduceBEq, Nat.reduceAdd, Nat.reduceMul, Nat.reduceLeDiff, f4']
  -- the touches
  refine x_for h.touches.length (fun j env H1 => Ext H H1 ∧ H1 b1 = some (.box [.slice (h.table.women.map eW), .slice (h.table.pieces.map eP), i6 h.table.wrong, .slice (eI h.sick), i6 h.others, i6 h.last, .slice (h.touches.map eTo), .slice (h.boiled.map eB), .slice (h.signs.map eS)]) ∧ env 1 = .ptr b1 0 ∧ env 4 = i6 j ∧ env 175 = .any ∧ ∀ i, i < j → touchOK h (h.touches.getD i default) = true)
    ⟨e1, updH_same _ _ _, by simp [upd_at], by simp [upd_at], by simp [upd_at], by simp⟩ ?_
  rintro j env H1 hj ⟨hE, hB, g1, g4, hN, hq⟩
  by_cases hlt : (j : Int) < (h.touches.length : Int)
  · have hlt' : j < h.touches.length := by omega
    have hget : h.touches.getD j default = h.touches[j] := by simp [hlt']
    obtain ⟨x, hx⟩ : ∃ x, x = h.touches[j] := ⟨_, rfl⟩
    have hbad : touchOK h x = false → checkHouse h = 1 := fun hw => by
      have : ¬ allH h := fun ha => by
        have := List.all_eq_true.1 ha.1 _ (List.getElem_mem hlt')
        rw [← hx, hw] at this; cases this
      rw [checkHouse, if_neg hc1, if_neg hc2, if_neg hc3, if_pos this]
    simp only [go_sem, reduceIte, reduceCtorEq, Nat.reduceEqDiff, Nat.reduceBEq, Nat.reduceAdd, Nat.reduceMul, Nat.reduceLeDiff, g1, g4, hN, hlt, hB, take_f', List.getElem?_cons_zero, map_get (f := eTo) hlt', ← hx, eTo]
    refine v_alloc fun b5 hb5 => ?_
    have n15 : b1 ≠ b5 := fun h => by subst h; rw [hB] at hb5; cases hb5
    simp only [go_sem, reduceIte, reduceCtorEq, Nat.reduceEqDiff, Nat.reduceBEq, Nat.reduceAdd, Nat.reduceMul, Nat.reduceLeDiff, g1, g4, hN]
    rw [v_store]
    refine ⟨rfl, rfl, by simp [AV.cells, AV.isCell], _, updH_same _ _ _, by simp, ?_⟩
    have hE5 : ∀ o1 o2, Ext H (updH (updH H1 b5 o1) b5 o2) := fun o1 o2 => (hE.new hb5 _).upd (hE.isNone hb5) _
    simp only [go_sem, reduceIte, reduceCtorEq, Nat.reduceEqDiff, Nat.reduceBEq, Nat.reduceAdd, Nat.reduceMul, Nat.reduceLeDiff, g1, g4, hN, placeAt, List.append_nil, List.nil_append, List.drop_nil, updH_ne _ _ n15, hB, take_f', List.getElem?_cons_zero]
    refine (isThing_c h x.a).go ?_
    cases k1 : thingOK h x.a
    · simp only [go_sem, reduceIte, reduceCtorEq, Nat.reduceEqDiff, Nat.reduceBEq, Nat.reduceAdd, Nat.reduceMul, Nat.reduceLeDiff, hN]
      refine fin_ret 2 (by simp [upd_at, hN]) ⟨_, H, Settle.refl (hE5 _ _), ?_, rfl⟩
      rw [hbad (by rw [touchOK, k1]; rfl)]; simp [upd_at]
    simp only [go_sem, reduceIte, reduceCtorEq, Nat.reduceEqDiff, Nat.reduceBEq, Nat.reduceAdd, Nat.reduceMul, Nat.reduceLeDiff, g1, g4, hN, updH_ne _ _ n15, hB, take_f', List.getElem?_cons_zero]
    refine (isThing_c h x.b).go ?_
    cases k2 : thingOK h x.b
    · simp only [go_sem, reduceIte, reduceCtorEq, Nat.reduceEqDiff, Nat.reduceBEq, Nat.reduceAdd, Nat.reduceMul, Nat.reduceLeDiff, hN]
      refine fin_ret 2 (by simp [upd_at, hN]) ⟨_, H, Settle.refl (hE5 _ _), ?_, rfl⟩
      rw [hbad (by rw [touchOK, k1, k2]; rfl)]; simp [upd_at]
    by_cases k3 : x.a = x.b
    · simp only [go_sem, reduceIte, reduceCtorEq, Nat.reduceEqDiff, Nat.reduceBEq, Nat.reduceAdd, Nat.reduceMul, Nat.reduceLeDiff, hN, k3, take_f', List.getElem?_cons_zero]
      refine fin_ret 2 (by simp [upd_at, hN]) ⟨_, H, Settle.refl (hE5 _ _), ?_, rfl⟩
      rw [hbad (by rw [touchOK, decide_eq_true k3]; simp)]; simp [upd_at]
    simp only [go_sem, reduceIte, reduceCtorEq, Nat.reduceEqDiff, Nat.reduceBEq, Nat.reduceAdd, Nat.reduceMul, Nat.reduceLeDiff, g1, g4, hN, k3, updH_ne _ _ n15, hB, take_f', List.getElem?_cons_zero]
    refine (isHour_c h x.lo).go ?_
    cases k4 : hourOK h x.lo
    · simp only [go_sem, reduceIte, reduceCtorEq, Nat.reduceEqDiff, Nat.reduceBEq, Nat.reduceAdd, Nat.reduceMul, Nat.reduceLeDiff, hN]
      refine fin_ret 2 (by simp [upd_at, hN]) ⟨_, H, Settle.refl (hE5 _ _), ?_, rfl⟩
      rw [hbad (by rw [touchOK, k4]; simp)]; simp [upd_at]
    simp only [go_sem, reduceIte, reduceCtorEq, Nat.reduceEqDiff, Nat.reduceBEq, Nat.reduceAdd, Nat.reduceMul, Nat.reduceLeDiff, g1, g4, hN, updH_ne _ _ n15, hB, take_f', List.getElem?_cons_zero]
    refine (isHour_c h x.hi).go ?_
    cases k5 : hourOK h x.hi
    · simp only [go_sem, reduceIte, reduceCtorEq, Nat.reduceEqDiff, Nat.reduceBEq, Nat.reduceAdd, Nat.reduceMul, Nat.reduceLeDiff, hN]
      refine fin_ret 2 (by simp [upd_at, hN]) ⟨_, H, Settle.refl (hE5 _ _), ?_, rfl⟩
      rw [hbad (by rw [touchOK, k5]; simp)]; simp [upd_at]
    by_cases k6 : x.hi < x.lo
    · simp only [go_sem, reduceIte, reduceCtorEq, Nat.reduceEqDiff, Nat.reduceBEq, Nat.reduceAdd, Nat.reduceMul, Nat.reduceLeDiff, hN, k6, take_f', List.getElem?_cons_zero]
      refine fin_ret 2 (by simp [upd_at, hN]) ⟨_, H, Settle.refl (hE5 _ _), ?_, rfl⟩
      rw [hbad (by rw [touchOK, decide_eq_false (show ¬ x.lo ≤ x.hi by omega)]; simp)]; simp [upd_at]
    simp only [go_sem, reduceIte, reduceCtorEq, Nat.reduceEqDiff, Nat.reduceBEq, Nat.reduceAdd, Nat.reduceMul, Nat.reduceLeDiff, g1, g4, hN, k6, updH_ne _ _ n15, hB, take_f', List.getElem?_cons_zero, wsucc (show j < 4611686018427387904 by omega), hlt']
    refine ⟨hE5 _ _, fun i hi => ?_⟩
    rcases Nat.lt_or_ge i j with h' | h'
    · exact hq i h'
    · have : i = j := by omega
      subst this
      rw [hget, ← hx, touchOK, k1, k2, k4, k5, decide_eq_false k3, decide_eq_true (show x.lo ≤ x.hi by omega)]; rfl
  have hj' : j = h.touches.length := by omega
  subst hj'
  have t1 : h.touches.all (touchOK h) = true := List.all_eq_true.2 fun w hw => by
    obtain ⟨i, hi, rfl⟩ := List.getElem_of_mem hw
    have := hq i hi
    rwa [show h.touches.getD i default = h.touches[i] by simp [hi]] at this
  simp only [go_sem, reduceIte, reduceCtorEq, Nat.reduceEqDiff, Nat.reduceBEq, Nat.reduceAdd, Nat.reduceMul, Nat.reduceLeDiff, g1, g4, hN, hlt, hB, take_f', List.getElem?_cons_zero]
  -- the boilings
  refine x_for h.boiled.length (fun j env H1 => Ext H H1 ∧ H1 b1 = some (.box [.slice (h.table.women.map eW), .slice (h.table.pieces.map eP), i6 h.table.wrong, .slice (eI h.sick), i6 h.others, i6 h.last, .slice (h.touches.map eTo), .slice (h.boiled.map eB), .slice (h.signs.map eS)]) ∧ env 1 = .ptr b1 0 ∧ env 6 = i6 j ∧ env 175 = .any ∧ ∀ i, i < j → boilOK h (h.boiled.getD i default) = true)
    ⟨hE, hB, by simp [upd_at, g1], by simp [upd_at], by simp [upd_at, hN], by simp⟩ ?_
  clear hE hB g1 g4 hN hq hlt hj env H1
  rintro j env H1 hj ⟨hE, hB, g1, g6, hN, hq⟩
  by_cases hlt : (j : Int) < (h.boiled.length : Int)
  · have hlt' : j < h.boiled.length := by omega
    have hget : h.boiled.getD j default = h.boiled[j] := by simp [hlt']
    obtain ⟨x, hx⟩ : ∃ x, x = h.boiled[j] := ⟨_, rfl⟩
    have hbad : boilOK h x = false → checkHouse h = 1 := fun hw => by
      have : ¬ allH h := fun ha => by
        have := List.all_eq_true.1 ha.2.1 _ (List.getElem_mem hlt')
        rw [← hx, hw] at this; cases this
      rw [checkHouse, if_neg hc1, if_neg hc2, if_neg hc3, if_pos this]
    simp only [go_sem, reduceIte, reduceCtorEq, Nat.reduceEqDiff, Nat.reduceBEq, Nat.reduceAdd, Nat.reduceMul, Nat.reduceLeDiff, g1, g6, hN, hlt, hB, take_f', List.getElem?_cons_zero, map_get (f := eB) hlt', ← hx, eB]
    refine pgo_call (isThing_c h x.thing) ?_
    cases k1 : thingOK h x.thing
    · simp only [go_sem, reduceIte, reduceCtorEq, Nat.reduceEqDiff, Nat.reduceBEq, Nat.reduceAdd, Nat.reduceMul, Nat.reduceLeDiff, hN]
      refine fin_ret 2 (by simp [upd_at, hN]) ⟨_, H, Settle.refl hE, ?_, rfl⟩
      rw [hbad (by rw [boilOK, k1]; rfl)]; simp [upd_at]
    simp only [go_sem, reduceIte, reduceCtorEq, Nat.reduceEqDiff, Nat.reduceBEq, Nat.reduceAdd, Nat.reduceMul, Nat.reduceLeDiff, g1, g6, hN, hB, take_f', List.getElem?_cons_zero, List.getElem?_cons_succ, map_get (f := eB) hlt', ← hx, eB]
    refine pgo_call (isHour_c h x.hour) ?_
    cases k2 : hourOK h x.hour
    · simp only [go_sem, reduceIte, reduceCtorEq, Nat.reduceEqDiff, Nat.reduceBEq, Nat.reduceAdd, Nat.reduceMul, Nat.reduceLeDiff, hN]
      refine fin_ret 2 (by simp [upd_at, hN]) ⟨_, H, Settle.refl hE, ?_, rfl⟩
      rw [hbad (by rw [boilOK, k2]; simp)]; simp [upd_at]
    simp only [go_sem, reduceIte, reduceCtorEq, Nat.reduceEqDiff, Nat.reduceBEq, Nat.reduceAdd, Nat.reduceMul, Nat.reduceLeDiff, g1, g6, hN, hB, wsucc (show j < 4611686018427387904 by omega), hlt']
    refine ⟨hE, fun i hi => ?_⟩
    rcases Nat.lt_or_ge i j with h' | h'
    · exact hq i h'
    · have : i = j := by omega
      subst this
      rw [hget, ← hx, boilOK, k1, k2]; rfl
  have hj' : j = h.boiled.length := by omega
  subst hj'
  have t2 : h.boiled.all (boilOK h) = true := List.all_eq_true.2 fun w hw => by
    obtain ⟨i, hi, rfl⟩ := List.getElem_of_mem hw
    have := hq i hi
    rwa [show h.boiled.getD i default = h.boiled[i] by simp [hi]] at this
  simp only [go_sem, reduceIte, reduceCtorEq, Nat.reduceEqDiff, Nat.reduceBEq, Nat.reduceAdd, Nat.reduceMul, Nat.reduceLeDiff, g1, g6, hN, hlt, hB, take_f', List.getElem?_cons_zero]
  -- the signs
  refine x_for h.signs.length (fun j env H1 => Ext H H1 ∧ H1 b1 = some (.box [.slice (h.table.women.map eW), .slice (h.table.pieces.map eP), i6 h.table.wrong, .slice (eI h.sick), i6 h.others, i6 h.last, .slice (h.touches.map eTo), .slice (h.boiled.map eB), .slice (h.signs.map eS)]) ∧ env 1 = .ptr b1 0 ∧ env 7 = i6 j ∧ env 175 = .any ∧ ∀ i, i < j → thingOK h (h.signs.getD i default).thing = true)
    ⟨hE, hB, by simp [upd_at, g1], by simp [upd_at], by simp [upd_at, hN], by simp⟩ ?_
  clear hE hB g1 g6 hN hq hlt hj env H1
  rintro j env H1 hj ⟨hE, hB, g1, g7, hN, hq⟩
  by_cases hlt : (j : Int) < (h.signs.length : Int)
  · have hlt' : j < h.signs.length := by omega
    have hget : h.signs.getD j default = h.signs[j] := by simp [hlt']
    obtain ⟨x, hx⟩ : ∃ x, x = h.signs[j] := ⟨_, rfl⟩
    have hbad : thingOK h x.thing = false → checkHouse h = 1 := fun hw => by
      have : ¬ allH h := fun ha => by
        have := List.all_eq_true.1 ha.2.2 _ (List.getElem_mem hlt')
        rw [← hx, hw] at this; cases this
      rw [checkHouse, if_neg hc1, if_neg hc2, if_neg hc3, if_pos this]
    simp only [go_sem, reduceIte, reduceCtorEq, Nat.reduceEqDiff, Nat.reduceBEq, Nat.reduceAdd, Nat.reduceMul, Nat.reduceLeDiff, g1, g7, hN, hlt, hB, take_f', List.getElem?_cons_zero, map_get (f := eS) hlt', ← hx, eS]
    refine pgo_call (isThing_c h x.thing) ?_
    cases k1 : thingOK h x.thing
    · simp only [go_sem, reduceIte, reduceCtorEq, Nat.reduceEqDiff, Nat.reduceBEq, Nat.reduceAdd, Nat.reduceMul, Nat.reduceLeDiff, hN]
      refine fin_ret 2 (by simp [upd_at, hN]) ⟨_, H, Settle.refl hE, ?_, rfl⟩
      rw [hbad k1]; simp [upd_at]
    simp only [go_sem, reduceIte, reduceCtorEq, Nat.reduceEqDiff, Nat.reduceBEq, Nat.reduceAdd, Nat.reduceMul, Nat.reduceLeDiff, g1, g7, hN, hB, wsucc (show j < 4611686018427387904 by omega), hlt']
    refine ⟨hE, fun i hi => ?_⟩
    rcases Nat.lt_or_ge i j with h' | h'
    · exact hq i h'
    · have : i = j := by omega
      subst this
      rw [hget, ← hx]; exact k1
  have hj' : j = h.signs.length := by omega
  subst hj'
  have t3 : (h.signs.all fun s => thingOK h s.thing) = true := List.all_eq_true.2 fun w hw => by
    obtain ⟨i, hi, rfl⟩ := List.getElem_of_mem hw
    have := hq i hi
    rwa [show h.signs.getD i default = h.signs[i] by simp [hi]] at this
  have hc4 : ¬ ¬ allH h := fun h' => h' ⟨t1, t2, t3⟩
  have htim := touches_ok t1 (by omega)
  simp only [go_sem, reduceIte, reduceCtorEq, Nat.reduceEqDiff, Nat.reduceBEq, Nat.reduceAdd, Nat.reduceMul, Nat.reduceLeDiff, g1, g7, hN, hlt, hB, take_f', List.getElem?_cons_zero]
  refine pgo_call (manyR_c h.table hs) ?_
  simp only [go_sem, reduceIte, reduceCtorEq, Nat.reduceEqDiff, Nat.reduceBEq, Nat.reduceAdd, Nat.reduceMul, Nat.reduceLeDiff, g1, hB]
  refine pgo_call (timesR_c h (by omega) htim) ?_
  have hm1 : manyR h.table h.table.pieces.length ≤ 3000 := Nat.min_le_left _ _
  have hm2 : timesR h h.touches.length ≤ 3000 := Nat.min_le_left _ _
  have hmul : manyR h.table h.table.pieces.length * timesR h h.touches.length ≤ 3000 * 3000 := Nat.mul_le_mul hm1 hm2
  have hiff := manyH_iff h c0 htim
  generalize hpq : manyR h.table h.table.pieces.length * timesR h h.touches.length = pq at hmul hiff
  have hw : IntKind.i64.wrap (((manyR h.table h.table.pieces.length : Nat) : Int) * ((timesR h h.touches.length : Nat) : Int)) = (pq : Int) := by
    rw [← hpq, Int.natCast_mul, w64]
    · have := Int.mul_nonneg (show (0 : Int) ≤ ((manyR h.table h.table.pieces.length : Nat) : Int) by omega) (show (0 : Int) ≤ ((timesR h h.touches.length : Nat) : Int) by omega); omega
    · rw [← Int.natCast_mul, hpq]; omega
  by_cases c5 : 2000 < manyH h
  · have hres : checkHouse h = 3 := by rw [checkHouse, if_neg hc1, if_neg hc2, if_neg hc3, if_neg hc4, if_pos c5]
    have c5' := hiff.1 c5
    have hmin : (2000 : Int) < (if (pq : Int) < 3000 then (pq : Int) else 3000) := by split <;> omega
    simp only [go_sem, reduceIte, reduceCtorEq, Nat.reduceEqDiff, Nat.reduceBEq, Nat.reduceAdd, Nat.reduceMul, Nat.reduceLeDiff, hw, hmin]
    refine fin_ret 2 (by simp [upd_at, hN]) ⟨_, H, Settle.refl hE, by simp [upd_at, hres], rfl⟩
  · have hres : checkHouse h = 0 := by rw [checkHouse, if_neg hc1, if_neg hc2, if_neg hc3, if_neg hc4, if_neg c5]
    have c5' : ¬ 2000 < pq := fun h' => c5 (hiff.2 h')
    have hmin : ¬ (2000 : Int) < (if (pq : Int) < 3000 then (pq : Int) else 3000) := by split <;> omega
    simp only [go_sem, reduceIte, reduceCtorEq, Nat.reduceEqDiff, Nat.reduceBEq, Nat.reduceAdd, Nat.reduceMul, Nat.reduceLeDiff, hw, hmin]
    refine fin_ret 2 (by simp [upd_at, hN]) ⟨_, H, Settle.refl hE, by simp [upd_at, hres], rfl⟩
end Go.Lift

set_option linter.unusedSimpArgs false
set_option linter.unusedVariables false
namespace Go.Lift
open Go Go.Proofs
theorem natOf_set_t {c : List Bool} {i : Nat} (h : i < c.length) : natOf (c.set i true) = natOf c ||| 2 ^ i := by
  apply Nat.eq_of_testBit_eq
  intro j
  rw [Nat.testBit_or, natOf_bit, natOf_bit, Nat.testBit_two_pow, List.getD_eq_getElem?_getD, List.getElem?_set]
  by_cases hij : i = j
  · subst hij; simp [h]
  · simp [hij, List.getD_eq_getElem?_getD]
theorem natOf_set_f {c : List Bool} {i : Nat} (h : i < c.length) : natOf (c.set i false) = andN (natOf c) (2 ^ i) := by
  apply Nat.eq_of_testBit_eq
  intro j
  rw [andN_bit, natOf_bit, natOf_bit, Nat.testBit_two_pow, List.getD_eq_getElem?_getD, List.getElem?_set]
  by_cases hij : i = j
  · subst hij; simp [h]
  · simp [hij, List.getD_eq_getElem?_getD]
theorem natOf_and {c : List Bool} {i : Nat} : natOf c &&& 2 ^ i ≠ 0 ↔ c.getD i false = true := by
  rw [← natOf_bit]
  constructor
  · intro h
    cases hb : (natOf c).testBit i
    · exfalso; apply h
      apply Nat.eq_of_testBit_eq
      intro j
      rw [Nat.testBit_and, Nat.testBit_two_pow, Nat.zero_testBit]
      by_cases hij : i = j
      · subst hij; simp [hb]
      · simp [hij]
    · rfl
  · intro h h0
    have := congrArg (fun n => n.testBit i) h0
    simp [Nat.testBit_and, Nat.testBit_two_pow, h] at this
theorem natOf_and2 {c : List Bool} {a b : Nat} : natOf c &&& (2 ^ a ||| 2 ^ b) ≠ 0 ↔ (c.getD a false || c.getD b false) = true := by
  have h1 : natOf c &&& (2 ^ a ||| 2 ^ b) = (natOf c &&& 2 ^ a) ||| (natOf c &&& 2 ^ b) := Nat.and_or_distrib_left ..
  rw [h1, Bool.or_eq_true, ← natOf_and, ← natOf_and]
  generalize natOf c &&& 2 ^ a = x
  generalize natOf c &&& 2 ^ b = y
  constructor
  · intro h
    by_cases hx : x = 0
    · right; intro hy; apply h; rw [hx, hy]; rfl
    · exact .inl hx
  · intro h h0
    have := Nat.or_eq_zero_iff.1 h0
    rcases h with h | h
    · exact h this.1
    · exact h this.2
theorem isBoiled_c (l : List Boiling) (n k : Int) (hl : Sm l.length) : Pure Tryz.prog 151 [.slice (l.map eB), i6 n, i6 k] (.bool (decide ((n, k) ∈ l.map bKey))) := by
  intro H
  unfold Sm at hl
  refine fn_of hmix fc151 (by simp) ?_
  rw [ienv3]
  simp only [go_sem, reduceIte, reduceCtorEq, Nat.reduceEqDiff, Nat.reduceBEq, Nat.reduceAdd, Nat.reduceMul, Nat.reduceLeDiff, ac151]
  refine x_for l.length (fun j env H1 => H1 = H ∧ (n, k) ∉ (l.take j).map bKey ∧ env 0 = .slice (l.map eB) ∧ env 1 = i6 n ∧ env 2 = i6 k ∧ env 7 = i6 j ∧ env 30 = .any) (by simp [upd_at]) ?_
  rintro j env H1 hj ⟨rfl, hq, g0, g1, g2, g7, hN⟩
  by_cases hlt : (j : Int) < (l.length : Int)
  · have hlt' : j < l.length := by omega
    have hsn : (n, k) ∈ (l.take (j + 1)).map bKey ↔ (n, k) ∈ (l.take j).map bKey ∨ (l[j].thing = n ∧ l[j].hour = k) := by
      rw [take_snoc hlt', List.map_append, List.mem_append]
      simp only [List.map_cons, List.map_nil, List.mem_singleton, bKey, Prod.mk.injEq]
      constructor <;> rintro (h | ⟨h1, h2⟩)
      · exact .inl h
      · exact .inr ⟨h1.symm, h2.symm⟩
      · exact .inl h
      · exact .inr ⟨h1.symm, h2.symm⟩
    by_cases c1 : l[j].thing = n
    · by_cases c2 : l[j].hour = k
      · simp only [go_sem, reduceIte, reduceCtorEq, Nat.reduceEqDiff, Nat.reduceBEq, Nat.reduceAdd, Nat.reduceMul, Nat.reduceLeDiff, g0, g1, g2, g7, hN, hlt, map_get (f := eB) hlt', eB, take_f', List.getElem?_cons_zero, List.getElem?_cons_succ, c1, c2]
        refine fin_ret' 6 (by simp [upd_at, hN]) ?_
        simp only [upd_at, if_true, and_true, AV.bool.injEq]
        symm; rw [decide_eq_true_eq]
        have h1 := hsn.2 (.inr ⟨c1, c2⟩)
        rw [List.mem_map] at h1 ⊢
        obtain ⟨x, hx, hx2⟩ := h1
        exact ⟨x, List.mem_of_mem_take hx, hx2⟩
      · simp only [go_sem, reduceIte, reduceCtorEq, Nat.reduceEqDiff, Nat.reduceBEq, Nat.reduceAdd, Nat.reduceMul, Nat.reduceLeDiff, g0, g1, g2, g7, hN, hlt, map_get (f := eB) hlt', eB, take_f', List.getElem?_cons_zero, List.getElem?_cons_succ, c1, c2, wsucc (show j < 4611686018427387904 by omega), hlt']
        intro h; rcases hsn.1 h with h | h
        · exact hq h
        · exact c2 h.2
    · simp only [go_sem, reduceIte, reduceCtorEq, Nat.reduceEqDiff, Nat.reduceBEq, Nat.reduceAdd, Nat.reduceMul, Nat.reduceLeDiff, g0, g1, g2, g7, hN, hlt, map_get (f := eB) hlt', eB, take_f', List.getElem?_cons_zero, c1, wsucc (show j < 4611686018427387904 by omega), hlt']
      intro h; rcases hsn.1 h with h | h
      · exact hq h
      · exact c1 h.1
  · simp only [go_sem, reduceIte, reduceCtorEq, Nat.reduceEqDiff, Nat.reduceBEq, Nat.reduceAdd, Nat.reduceMul, Nat.reduceLeDiff, g0, g1, g2, g7, hN, hlt]
    have : j = l.length := by omega
    subst this
    rw [List.take_length] at hq
    refine fin_ret' 6 (by simp [upd_at, hN]) ?_
    simp only [upd_at, if_true, and_true, AV.bool.injEq]
    exact (decide_eq_false hq).symm
theorem startOf_out (h : House) (o : List Int) : ∀ (j i : Nat), j ≤ i → (startOf h o j).getD i false = false
  | 0, i, _ => by simp only [startOf, List.range_zero, List.foldl_nil]; rw [List.getD_eq_getElem?_getD, List.getElem?_replicate]; split <;> rfl
  | j + 1, i, hi => by
    have ih := startOf_out h o j i (by omega)
    simp only [startOf, range_fold]
    rw [sickAt, List.getD_eq_getElem?_getD, List.getElem?_set_ne (by omega), ← List.getD_eq_getElem?_getD]
    exact ih
theorem startOf_nat (h : House) (o : List Int) (j : Nat) (hj : j < 10) : natOf (startOf h o (j + 1)) = if o.getD j 0 ∈ h.sick then natOf (startOf h o j) ||| 2 ^ j else natOf (startOf h o j) := by
  have hl := startOf_len h o j
  have h1 : startOf h o (j + 1) = (startOf h o j).set j (decide (o.getD j 0 ∈ h.sick)) := by simp only [startOf, range_fold]; rfl
  rw [h1]
  by_cases hm : o.getD j 0 ∈ h.sick
  · rw [if_pos hm, decide_eq_true hm, natOf_set_t (by omega)]
  · rw [if_neg hm, decide_eq_false hm, natOf_set_f (by omega)]
    apply Nat.eq_of_testBit_eq
    intro i
    rw [andN_bit, Nat.testBit_two_pow, natOf_bit]
    by_cases hij : j = i
    · subst hij; rw [startOf_out h o j j (Nat.le_refl _)]; rfl
    · simp [hij]
theorem pad6_get (l : List Int) (i : Nat) (h : i < l.length) : (pad6 l).getD i 0 = l[i] := by
  rw [pad6, List.getD_eq_getElem?_getD, List.getElem?_append_left h]; simp [h]
theorem carriers_c (h : House) (hv : HV h) (c : Course) (hc : CLen h c) (l : List Boiling) (hl : Sm l.length) :
    ∀ k : Nat, k ≤ 6 → Pure Tryz.prog 123 [eH h, eC c, .slice (l.map eB), i6 ((k : Int) - 1)] (i6 (natOf (hoursOf h (pad7 c.owners) (pad6 c.hours) (l.map bKey) k) : Nat)) := by
  have hp7 := hv.ok.pcs
  have hm6 := hv.ok.touches
  have h7 : c.owners.length ≤ 7 := by have := hc.own; omega
  have hnT := nT_le hv.ok
  intro k
  induction k with
  | zero =>
    intro _ H
    refine fn_of hmix fc123 (by simp) ?_
    rw [ienv4]
    simp only [go_sem, reduceIte, reduceCtorEq, Nat.reduceEqDiff, Nat.reduceBEq, Nat.reduceAdd, Nat.reduceMul, Nat.reduceLeDiff, ac123, eH, eC, show (((0 : Nat) : Int) - 1 < 0) by omega]
    refine v_box _ rfl fun b4 hb4 => ?_
    simp only [go_sem, reduceIte, reduceCtorEq, Nat.reduceEqDiff, Nat.reduceBEq, Nat.reduceAdd, Nat.reduceMul, Nat.reduceLeDiff, show (((0 : Nat) : Int) - 1 < 0) by omega]
    refine v_box _ rfl fun b5 hb5 => ?_
    have n45 : b4 ≠ b5 := fun h => by subst h; simp at hb5
    simp only [go_sem, reduceIte, reduceCtorEq, Nat.reduceEqDiff, Nat.reduceBEq, Nat.reduceAdd, Nat.reduceMul, Nat.reduceLeDiff, show (((0 : Nat) : Int) - 1 < 0) by omega]
    have e2 := ((Ext.refl H).new hb4 (.box [.slice (h.table.women.map eW), .slice (h.table.pieces.map eP), i6 h.table.wrong, .slice (eI h.sick), i6 h.others, i6 h.last, .slice (h.touches.map eTo), .slice (h.boiled.map eB), .slice (h.signs.map eS)])).new hb5 (.box [.slice (eI c.owners), .slice (eI c.hours)])
    refine x_for c.owners.length (fun j env H1 => Ext H H1 ∧ H1 b4 = some (.box [.slice (h.table.women.map eW), .slice (h.table.pieces.map eP), i6 h.table.wrong, .slice (eI h.sick), i6 h.others, i6 h.last, .slice (h.touches.map eTo), .slice (h.boiled.map eB), .slice (h.signs.map eS)]) ∧ H1 b5 = some (.box [.slice (eI c.owners), .slice (eI c.hours)]) ∧ env 4 = .ptr b4 0 ∧ env 5 = .ptr b5 0 ∧ env 9 = i6 (natOf (startOf h (pad7 c.owners) j) : Nat) ∧ env 10 = i6 j ∧ env 99 = .any)
      ⟨e2, by rw [updH_ne _ _ n45]; exact updH_same _ _ _, updH_same _ _ _, by simp [upd_at], by simp [upd_at], by simp [upd_at, startOf, natOf], by simp [upd_at], by simp [upd_at]⟩ ?_
    rintro j env H1 hj ⟨hE, hB4, hB5, g4, g5, g9, g10, hN⟩
    by_cases hlt : (j : Int) < (c.owners.length : Int)
    · have hlt' : j < c.owners.length := by omega
      have hgo : (pad7 c.owners).getD j 0 = c.owners[j] := by rw [pad7_get _ _ hlt']; simp [hlt']
      have hst := startOf_nat h (pad7 c.owners) j (by omega)
      rw [hgo] at hst
      simp only [go_sem, reduceIte, reduceCtorEq, Nat.reduceEqDiff, Nat.reduceBEq, Nat.reduceAdd, Nat.reduceMul, Nat.reduceLeDiff, g4, g5, g9, g10, hN, hB4, hB5, hlt, take_f', List.getElem?_cons_zero, eI_get hlt']
      refine pgo_call (has_c h.sick c.owners[j] hv.ok.sk) ?_
      by_cases hm : c.owners[j] ∈ h.sick
      · have hor := w_or (natOf_lt62 (c := startOf h (pad7 c.owners) j) (by rw [startOf_len]; omega)) (two_lt (show j < 62 by omega))
        simp only [↓aops_nil, ↓aops_go, ↓aops_go0, ↓aops_if, ↓k_cont, ↓k_cont0, g_tt, g_ff, g_tf, g_ft, g_u, ↓apre_nil, ↓apre_if, ↓apre_go, pgo_det, Tag.isCall, popt_some, gp_tt, gp_ff, gp_tf, gp_ft, gp_u, ↓k_draw, opt_some, List.map_cons, List.map_nil, ev, upd_at, ↓x_skip, ↓x_label, ↓x_ret, ↓x_exit, ↓x_seq, ↓x_block, ↓x_ops, ↓x_cond, x_sel_t, x_sel_f, ↓x_draw, ↓q_kseq_n, ↓q_kseq_r, ↓q_kseq_e, ↓q_block_n, ↓q_block_r, ↓q_block_e, ↓q_loop_n, ↓q_loop_r, ↓q_loop_e, ↓l_done, d_mov, d_pick, d_not, d_nilchk, d_nilchk', d_conv, d_add, d_sub, d_mul, d_quo, d_rem, d_shl, d_shr, d_and, d_or, d_andnot, d_eql, d_neq, d_lss, d_leq, d_gtr, d_geq, d_eqb, d_neqb, d_mkfunc, d_load, d_fieldaddr, d_fieldaddr', d_field_t, d_field_f, d_idxaddr, d_idxaddr_g, elemO_some, d_idxaddr_m, d_arraddr, d_arraddr', d_idx_f, d_sub_s, d_sub_g, d_arrsub, d_arrall, d_extract, d_len, d_len_g, d_len_e, d_len_m, d_min, d_build, d_bslice0, d_bs1, d_bs2, d_bsa, d_eqagg, v_mov, v_pick, v_not, v_nilchk, v_conv, v_bin, v_binb, v_eqagg, v_mkfunc, v_load, v_fieldaddr, v_field, v_idxaddr, v_arraddr, v_idx, v_sub, v_arrsub, v_arrall, v_extract, v_len, v_min, v_build, v_bslice, v_lookup, v_call, v_callv, Nat.reduceEqDiff, Nat.reduceBEq, reduceIte, ite_true, ite_false, Bool.false_eq_true, Bool.true_eq_false, if_true, if_false, decide_eq_true_eq, decide_eq_false_iff_not, decide_true, decide_false, Nat.zero_add, Nat.add_zero, Nat.reduceAdd, reduceCtorEq, eq_self, not_true_eq_false, not_false_eq_true, Bool.not_true, Bool.not_false, Nat.reduceMul, List.length_cons, List.length_nil, at_elem, take_f, take_tt, Int.toNat_natCast, Option.some.injEq, Option.bind_some, Int.natCast_nonneg, true_and, and_true, and_self, ↓q_for_n, ↓q_for_r, ↓q_for_e, eI_len, List.length_map, at_obj, obj_box, updH_same, Nat.reduceLeDiff, Nat.zero_le, Nat.le_refl, List.drop_zero, List.drop_succ_cons, List.take_succ_cons, List.take_zero, c_agg, c_int, c_bool, c_slice, c_emp, c_grow, ↓l_one0, ↓l_one1, ↓k_l0, ↓k_l1, stab_nil, stab_cons, stab_if, st_tt, st_ff, st_tf, st_ft, st_u, hm, g4, g5, g9, g10, hN, u64w (show j < 2 ^ 62 by omega), w_shl1 (show j < 62 by omega), show ¬ ((j : Int) < 0) by omega, hor, wsucc (show j < 4611686018427387904 by omega), hlt', hB4, hB5]
        refine ⟨hE, ?_⟩
        rw [hst, if_pos hm]
      · simp only [go_sem, reduceIte, reduceCtorEq, Nat.reduceEqDiff, Nat.reduceBEq, Nat.reduceAdd, Nat.reduceMul, Nat.reduceLeDiff, hm, g4, g5, g9, g10, hN, wsucc (show j < 4611686018427387904 by omega), hlt', hB4, hB5]
        refine ⟨hE, ?_⟩
        rw [hst, if_neg hm]
    · simp only [go_sem, reduceIte, reduceCtorEq, Nat.reduceEqDiff, Nat.reduceBEq, Nat.reduceAdd, Nat.reduceMul, Nat.reduceLeDiff, g4, g5, g9, g10, hN, hB4, hB5, hlt, take_f', List.getElem?_cons_zero]
      have : j = c.owners.length := by omega
      subst this
      refine fin_ret 8 (by simp [upd_at, hN]) ⟨_, H, Settle.refl hE, ?_, rfl⟩
      simp [upd_at, hoursOf, hc.own]
  | succ k ih =>
    intro hk H
    have ih' := ih (by omega)
    have hcast : ((k + 1 : Nat) : Int) - 1 = (k : Int) := by omega
    have hdec : IntKind.i64.wrap ((k : Int) - 1) = (k : Int) - 1 := w64 (by omega) (by omega)
    rw [hcast]
    refine fn_of hmix fc123 (by simp) ?_
    rw [ienv4]
    simp only [go_sem, reduceIte, reduceCtorEq, Nat.reduceEqDiff, Nat.reduceBEq, Nat.reduceAdd, Nat.reduceMul, Nat.reduceLeDiff, ac123, eH, eC]
    refine v_box _ rfl fun b4 hb4 => ?_
    simp only [go_sem, reduceIte, reduceCtorEq, Nat.reduceEqDiff, Nat.reduceBEq, Nat.reduceAdd, Nat.reduceMul, Nat.reduceLeDiff]
    refine v_box _ rfl fun b5 hb5 => ?_
    have n45 : b4 ≠ b5 := fun h => by subst h; simp at hb5
    simp only [go_sem, reduceIte, reduceCtorEq, Nat.reduceEqDiff, Nat.reduceBEq, Nat.reduceAdd, Nat.reduceMul, Nat.reduceLeDiff, show ¬ ((k : Int) < 0) by omega, updH_ne _ _ n45, hdec]
    have e2 := ((Ext.refl H).new hb4 (.box [.slice (h.table.women.map eW), .slice (h.table.pieces.map eP), i6 h.table.wrong, .slice (eI h.sick), i6 h.others, i6 h.last, .slice (h.touches.map eTo), .slice (h.boiled.map eB), .slice (h.signs.map eS)])).new hb5 (.box [.slice (eI c.owners), .slice (eI c.hours)])
    refine ih'.go ?_
    obtain ⟨c0, hc0⟩ : ∃ c0, c0 = hoursOf h (pad7 c.owners) (pad6 c.hours) (l.map bKey) k := ⟨_, rfl⟩
    have hc0l : c0.length = 10 := by rw [hc0]; exact hoursOf_len _ _ _ _ _
    rw [← hc0]
    have hfin : hoursOf h (pad7 c.owners) (pad6 c.hours) (l.map bKey) (k + 1) = touchOf h (pad6 c.hours) k (boilOf (l.map bKey) k c0 (nT h)) h.touches.length := by
      simp only [hoursOf, range_fold]; rw [hc0]; rfl
    rw [hfin]
    simp only [go_sem, reduceIte, reduceCtorEq, Nat.reduceEqDiff, Nat.reduceBEq, Nat.reduceAdd, Nat.reduceMul, Nat.reduceLeDiff]
    refine x_for (nT h) (fun j env H1 => Ext H H1 ∧ H1 b4 = some (.box [.slice (h.table.women.map eW), .slice (h.table.pieces.map eP), i6 h.table.wrong, .slice (eI h.sick), i6 h.others, i6 h.last, .slice (h.touches.map eTo), .slice (h.boiled.map eB), .slice (h.signs.map eS)]) ∧ H1 b5 = some (.box [.slice (eI c.owners), .slice (eI c.hours)]) ∧ env 2 = .slice (l.map eB) ∧ env 3 = i6 k ∧ env 4 = .ptr b4 0 ∧ env 5 = .ptr b5 0 ∧ env 9 = i6 (natOf (boilOf (l.map bKey) k c0 j) : Nat) ∧ env 11 = i6 j ∧ env 99 = .any)
      ⟨e2, by rw [updH_ne _ _ n45]; exact updH_same _ _ _, updH_same _ _ _, by simp [upd_at], by simp [upd_at], by simp [upd_at], by simp [upd_at], by simp [upd_at, boilOf], by simp [upd_at], by simp [upd_at]⟩ ?_
    rintro j env H1 hj ⟨hE, hB4, hB5, g2, g3, g4, g5, g9, g11, hN⟩
    have hbl := boilOf_len (l.map bKey) k c0 j hc0l
    simp only [go_sem, reduceIte, reduceCtorEq, Nat.reduceEqDiff, Nat.reduceBEq, Nat.reduceAdd, Nat.reduceMul, Nat.reduceLeDiff, g2, g3, g4, g5, g9, g11, hN, hB4]
    refine (thingsR_c h).go ?_
    rw [thingsW_ok hv.ok]
    by_cases hlt : (j : Int) < (nT h : Int)
    · have hlt' : j < nT h := by omega
      simp only [go_sem, reduceIte, reduceCtorEq, Nat.reduceEqDiff, Nat.reduceBEq, Nat.reduceAdd, Nat.reduceMul, Nat.reduceLeDiff, g2, g3, g4, g5, g9, g11, hN, hlt]
      refine (isBoiled_c l j k hl).go ?_
      have hst : boilOf (l.map bKey) k c0 (j + 1) = if ((j : Int), (k : Int)) ∈ l.map bKey then (boilOf (l.map bKey) k c0 j).set j false else boilOf (l.map bKey) k c0 j := by
        simp only [boilOf, range_fold]; rfl
      by_cases hin : ((j : Int), (k : Int)) ∈ l.map bKey
      · have handn := w_andN (natOf_lt62 (c := boilOf (l.map bKey) k c0 j) (by omega)) (two_lt (show j < 62 by omega))
        simp only [↓aops_nil, ↓aops_go, ↓aops_go0, ↓aops_if, ↓k_cont, ↓k_cont0, g_tt, g_ff, g_tf, g_ft, g_u, ↓apre_nil, ↓apre_if, ↓apre_go, pgo_det, Tag.isCall, popt_some, gp_tt, gp_ff, gp_tf, gp_ft, gp_u, ↓k_draw, opt_some, List.map_cons, List.map_nil, ev, upd_at, ↓x_skip, ↓x_label, ↓x_ret, ↓x_exit, ↓x_seq, ↓x_block, ↓x_ops, ↓x_cond, x_sel_t, x_sel_f, ↓x_draw, ↓q_kseq_n, ↓q_kseq_r, ↓q_kseq_e, ↓q_block_n, ↓q_block_r, ↓q_block_e, ↓q_loop_n, ↓q_loop_r, ↓q_loop_e, ↓l_done, d_mov, d_pick, d_not, d_nilchk, d_nilchk', d_conv, d_add, d_sub, d_mul, d_quo, d_rem, d_shl, d_shr, d_and, d_or, d_andnot, d_eql, d_neq, d_lss, d_leq, d_gtr, d_geq, d_eqb, d_neqb, d_mkfunc, d_load, d_fieldaddr, d_fieldaddr', d_field_t, d_field_f, d_idxaddr, d_idxaddr_g, elemO_some, d_idxaddr_m, d_arraddr, d_arraddr', d_idx_f, d_sub_s, d_sub_g, d_arrsub, d_arrall, d_extract, d_len, d_len_g, d_len_e, d_len_m, d_min, d_build, d_bslice0, d_bs1, d_bs2, d_bsa, d_eqagg, v_mov, v_pick, v_not, v_nilchk, v_conv, v_bin, v_binb, v_eqagg, v_mkfunc, v_load, v_fieldaddr, v_field, v_idxaddr, v_arraddr, v_idx, v_sub, v_arrsub, v_arrall, v_extract, v_len, v_min, v_build, v_bslice, v_lookup, v_call, v_callv, Nat.reduceEqDiff, Nat.reduceBEq, reduceIte, ite_true, ite_false, Bool.false_eq_true, Bool.true_eq_false, if_true, if_false, decide_eq_true_eq, decide_eq_false_iff_not, decide_true, decide_false, Nat.zero_add, Nat.add_zero, Nat.reduceAdd, reduceCtorEq, eq_self, not_true_eq_false, not_false_eq_true, Bool.not_true, Bool.not_false, Nat.reduceMul, List.length_cons, List.length_nil, at_elem, take_f, take_tt, Int.toNat_natCast, Option.some.injEq, Option.bind_some, Int.natCast_nonneg, true_and, and_true, and_self, ↓q_for_n, ↓q_for_r, ↓q_for_e, eI_len, List.length_map, at_obj, obj_box, updH_same, Nat.reduceLeDiff, Nat.zero_le, Nat.le_refl, List.drop_zero, List.drop_succ_cons, List.take_succ_cons, List.take_zero, c_agg, c_int, c_bool, c_slice, c_emp, c_grow, hin, g2, g3, g4, g5, g9, g11, hN, u64w (show j < 2 ^ 62 by omega), w_shl1 (show j < 62 by omega), show ¬ ((j : Int) < 0) by omega, handn, wsucc (show j < 4611686018427387904 by omega), hlt', hB4, hB5]
        refine ⟨hE, ?_⟩
        rw [hst, if_pos hin, natOf_set_f (by omega)]
      · simp only [go_sem, reduceIte, reduceCtorEq, Nat.reduceEqDiff, Nat.reduceBEq, Nat.reduceAdd, Nat.reduceMul, Nat.reduceLeDiff, hin, g2, g3, g4, g5, g9, g11, hN, wsucc (show j < 4611686018427387904 by omega), hlt', hB4, hB5]
        refine ⟨hE, ?_⟩
        rw [hst, if_neg hin]
    have hj' : j = nT h := by omega
    subst hj'
    simp only [go_sem, reduceIte, reduceCtorEq, Nat.reduceEqDiff, Nat.reduceBEq, Nat.reduceAdd, Nat.reduceMul, Nat.reduceLeDiff, g2, g3, g4, g5, g9, g11, hN, hlt]
    obtain ⟨c1, hc1⟩ : ∃ c1, c1 = boilOf (l.map bKey) k c0 (nT h) := ⟨_, rfl⟩
    have hc1l : c1.length = 10 := by rw [hc1]; exact boilOf_len _ _ _ _ hc0l
    rw [← hc1] at g9 ⊢
    refine x_for h.touches.length (fun j env H1 => Ext H H1 ∧ H1 b4 = some (.box [.slice (h.table.women.map eW), .slice (h.table.pieces.map eP), i6 h.table.wrong, .slice (eI h.sick), i6 h.others, i6 h.last, .slice (h.touches.map eTo), .slice (h.boiled.map eB), .slice (h.signs.map eS)]) ∧ H1 b5 = some (.box [.slice (eI c.owners), .slice (eI c.hours)]) ∧ env 3 = i6 k ∧ env 4 = .ptr b4 0 ∧ env 5 = .ptr b5 0 ∧ env 9 = i6 (natOf (touchOf h (pad6 c.hours) k c1 j) : Nat) ∧ env 12 = i6 j ∧ env 99 = .any)
      ⟨hE, hB4, hB5, by simp [upd_at, g3], by simp [upd_at, g4], by simp [upd_at, g5], by simp [upd_at, g9, touchOf], by simp [upd_at], by simp [upd_at, hN]⟩ ?_
    clear hE hB4 hB5 g2 g3 g4 g5 g9 g11 hN hlt hj hbl env H1
    rintro j env H1 hj ⟨hE, hB4, hB5, g3, g4, g5, g9, g12, hN⟩
    by_cases hlt : (j : Int) < (h.touches.length : Int)
    rotate_left
    · have : j = h.touches.length := by omega
      subst this
      simp only [go_sem, reduceIte, reduceCtorEq, Nat.reduceEqDiff, Nat.reduceBEq, Nat.reduceAdd, Nat.reduceMul, Nat.reduceLeDiff, g3, g4, g5, g9, g12, hN, hlt, hB4, take_f', List.getElem?_cons_zero]
      refine fin_ret 8 (by simp [upd_at, hN]) ⟨_, H, Settle.refl hE, ?_, rfl⟩
      simp [upd_at]
    have hlt' : j < h.touches.length := by omega
    have hlth : j < c.hours.length := by have := hc.hrs; omega
    have hget : h.touches.getD j default = h.touches[j] := by simp [hlt']
    obtain ⟨a, b, ha, hb, ha10, hb10⟩ := hv.ok.touch _ (List.getElem_mem hlt')
    have htl := touchOf_len h (pad6 c.hours) k c1 j hc1l
    have hpg := pad6_get c.hours j hlth
    have hst : touchOf h (pad6 c.hours) k c1 (j + 1) = if c.hours[j] = (k : Int) ∧ ((touchOf h (pad6 c.hours) k c1 j).getD a false || (touchOf h (pad6 c.hours) k c1 j).getD b false) = true then ((touchOf h (pad6 c.hours) k c1 j).set a true).set b true else touchOf h (pad6 c.hours) k c1 j := by
      simp only [touchOf, range_fold]
      rw [touchAt, hget, ha, hb, hpg]; simp only [Int.toNat_natCast]; rfl
    obtain ⟨ct, hct⟩ : ∃ ct, ct = touchOf h (pad6 c.hours) k c1 j := ⟨_, rfl⟩
    rw [← hct] at g9 htl hst
    have hpair := w_or (two_lt (show a < 62 by omega)) (two_lt (show b < 62 by omega))
    have hpl : (2 ^ a ||| 2 ^ b) < 2 ^ 62 := Nat.or_lt_two_pow (two_lt (by omega)) (two_lt (by omega))
    have hcl := natOf_lt62 (c := ct) (by omega)
    have handp := w_and hcl hpl
    have horp := w_or hcl hpl
    by_cases c1 : c.hours[j] = (k : Int)
    rotate_left
    · simp only [go_sem, reduceIte, reduceCtorEq, Nat.reduceEqDiff, Nat.reduceBEq, Nat.reduceAdd, Nat.reduceMul, Nat.reduceLeDiff, g3, g4, g5, g9, g12, hN, hlt, hB4, hB5, take_f', List.getElem?_cons_zero, List.getElem?_cons_succ, map_get (f := eTo) hlt', eTo, ha, hb, u64w (show a < 2 ^ 62 by omega), u64w (show b < 2 ^ 62 by omega), w_shl1 (show a < 62 by omega), w_shl1 (show b < 62 by omega), show ¬ ((a : Int) < 0) by omega, show ¬ ((b : Int) < 0) by omega, hpair, eI_get hlth, c1, wsucc (show j < 4611686018427387904 by omega), hlt']
      refine ⟨hE, ?_⟩
      rw [hst, if_neg (fun h => c1 h.1)]
    by_cases c2 : natOf ct &&& (2 ^ a ||| 2 ^ b) = 0
    · have c2' : ((natOf ct &&& (2 ^ a ||| 2 ^ b) : Nat) : Int) = 0 := by rw [c2]; rfl
      simp only [↓aops_nil, ↓aops_go, ↓aops_go0, ↓aops_if, ↓k_cont, ↓k_cont0, g_tt, g_ff, g_tf, g_ft, g_u, ↓apre_nil, ↓apre_if, ↓apre_go, pgo_det, Tag.isCall, popt_some, gp_tt, gp_ff, gp_tf, gp_ft, gp_u, ↓k_draw, opt_some, List.map_cons, List.map_nil, ev, upd_at, ↓x_skip, ↓x_label, ↓x_ret, ↓x_exit, ↓x_seq, ↓x_block, ↓x_ops, ↓x_cond, x_sel_t, x_sel_f, ↓x_draw, ↓q_kseq_n, ↓q_kseq_r, ↓q_kseq_e, ↓q_block_n, ↓q_block_r, ↓q_block_e, ↓q_loop_n, ↓q_loop_r, ↓q_loop_e, ↓l_done, d_mov, d_pick, d_not, d_nilchk, d_nilchk', d_conv, d_add, d_sub, d_mul, d_quo, d_rem, d_shl, d_shr, d_and, d_or, d_andnot, d_eql, d_neq, d_lss, d_leq, d_gtr, d_geq, d_eqb, d_neqb, d_mkfunc, d_load, d_fieldaddr, d_fieldaddr', d_field_t, d_field_f, d_idxaddr, d_idxaddr_g, elemO_some, d_idxaddr_m, d_arraddr, d_arraddr', d_idx_f, d_sub_s, d_sub_g, d_arrsub, d_arrall, d_extract, d_len, d_len_g, d_len_e, d_len_m, d_min, d_build, d_bslice0, d_bs1, d_bs2, d_bsa, d_eqagg, v_mov, v_pick, v_not, v_nilchk, v_conv, v_bin, v_binb, v_eqagg, v_mkfunc, v_load, v_fieldaddr, v_field, v_idxaddr, v_arraddr, v_idx, v_sub, v_arrsub, v_arrall, v_extract, v_len, v_min, v_build, v_bslice, v_lookup, v_call, v_callv, Nat.reduceEqDiff, Nat.reduceBEq, reduceIte, ite_true, ite_false, Bool.false_eq_true, Bool.true_eq_false, if_true, if_false, decide_eq_true_eq, decide_eq_false_iff_not, decide_true, decide_false, Nat.zero_add, Nat.add_zero, Nat.reduceAdd, reduceCtorEq, eq_self, not_true_eq_false, not_false_eq_true, Bool.not_true, Bool.not_false, Nat.reduceMul, List.length_cons, List.length_nil, at_elem, take_f, take_tt, Int.toNat_natCast, Option.some.injEq, Option.bind_some, Int.natCast_nonneg, true_and, and_true, and_self, ↓q_for_n, ↓q_for_r, ↓q_for_e, eI_len, List.length_map, at_obj, obj_box, updH_same, Nat.reduceLeDiff, Nat.zero_le, Nat.le_refl, List.drop_zero, List.drop_succ_cons, List.take_succ_cons, List.take_zero, c_agg, c_int, c_bool, c_slice, c_emp, c_grow, ↓l_one0, ↓l_one1, ↓k_l0, ↓k_l1, stab_nil, stab_cons, stab_if, st_tt, st_ff, st_tf, st_ft, st_u, g3, g4, g5, g9, g12, hN, hlt, hB4, hB5, take_f', List.getElem?_cons_zero, List.getElem?_cons_succ, map_get (f := eTo) hlt', eTo, ha, hb, u64w (show a < 2 ^ 62 by omega), u64w (show b < 2 ^ 62 by omega), w_shl1 (show a < 62 by omega), w_shl1 (show b < 62 by omega), show ¬ ((a : Int) < 0) by omega, show ¬ ((b : Int) < 0) by omega, hpair, eI_get hlth, c1, handp, c2', wsucc (show j < 4611686018427387904 by omega), hlt']
      refine ⟨hE, ?_⟩
      rw [hst, if_neg (fun h => natOf_and2.2 h.2 c2)]
    · have c2' : ¬ ((natOf ct &&& (2 ^ a ||| 2 ^ b) : Nat) : Int) = 0 := by omega
      simp only [↓aops_nil, ↓aops_go, ↓aops_go0, ↓aops_if, ↓k_cont, ↓k_cont0, g_tt, g_ff, g_tf, g_ft, g_u, ↓apre_nil, ↓apre_if, ↓apre_go, pgo_det, Tag.isCall, popt_some, gp_tt, gp_ff, gp_tf, gp_ft, gp_u, ↓k_draw, opt_some, List.map_cons, List.map_nil, ev, upd_at, ↓x_skip, ↓x_label, ↓x_ret, ↓x_exit, ↓x_seq, ↓x_block, ↓x_ops, ↓x_cond, x_sel_t, x_sel_f, ↓x_draw, ↓q_kseq_n, ↓q_kseq_r, ↓q_kseq_e, ↓q_block_n, ↓q_block_r, ↓q_block_e, ↓q_loop_n, ↓q_loop_r, ↓q_loop_e, ↓l_done, d_mov, d_pick, d_not, d_nilchk, d_nilchk', d_conv, d_add, d_sub, d_mul, d_quo, d_rem, d_shl, d_shr, d_and, d_or, d_andnot, d_eql, d_neq, d_lss, d_leq, d_gtr, d_geq, d_eqb, d_neqb, d_mkfunc, d_load, d_fieldaddr, d_fieldaddr', d_field_t, d_field_f, d_idxaddr, d_idxaddr_g, elemO_some, d_idxaddr_m, d_arraddr, d_arraddr', d_idx_f, d_sub_s, d_sub_g, d_arrsub, d_arrall, d_extract, d_len, d_len_g, d_len_e, d_len_m, d_min, d_build, d_bslice0, d_bs1, d_bs2, d_bsa, d_eqagg, v_mov, v_pick, v_not, v_nilchk, v_conv, v_bin, v_binb, v_eqagg, v_mkfunc, v_load, v_fieldaddr, v_field, v_idxaddr, v_arraddr, v_idx, v_sub, v_arrsub, v_arrall, v_extract, v_len, v_min, v_build, v_bslice, v_lookup, v_call, v_callv, Nat.reduceEqDiff, Nat.reduceBEq, reduceIte, ite_true, ite_false, Bool.false_eq_true, Bool.true_eq_false, if_true, if_false, decide_eq_true_eq, decide_eq_false_iff_not, decide_true, decide_false, Nat.zero_add, Nat.add_zero, Nat.reduceAdd, reduceCtorEq, eq_self, not_true_eq_false, not_false_eq_true, Bool.not_true, Bool.not_false, Nat.reduceMul, List.length_cons, List.length_nil, at_elem, take_f, take_tt, Int.toNat_natCast, Option.some.injEq, Option.bind_some, Int.natCast_nonneg, true_and, and_true, and_self, ↓q_for_n, ↓q_for_r, ↓q_for_e, eI_len, List.length_map, at_obj, obj_box, updH_same, Nat.reduceLeDiff, Nat.zero_le, Nat.le_refl, List.drop_zero, List.drop_succ_cons, List.take_succ_cons, List.take_zero, c_agg, c_int, c_bool, c_slice, c_emp, c_grow, ↓l_one0, ↓l_one1, ↓k_l0, ↓k_l1, stab_nil, stab_cons, stab_if, st_tt, st_ff, st_tf, st_ft, st_u, g3, g4, g5, g9, g12, hN, hlt, hB4, hB5, take_f', List.getElem?_cons_zero, List.getElem?_cons_succ, map_get (f := eTo) hlt', eTo, ha, hb, u64w (show a < 2 ^ 62 by omega), u64w (show b < 2 ^ 62 by omega), w_shl1 (show a < 62 by omega), w_shl1 (show b < 62 by omega), show ¬ ((a : Int) < 0) by omega, show ¬ ((b : Int) < 0) by omega, hpair, eI_get hlth, c1, handp, c2', horp, wsucc (show j < 4611686018427387904 by omega), hlt']
      refine ⟨hE, ?_⟩
      rw [hst, if_pos ⟨c1, natOf_and2.1 c2⟩, natOf_set_t (by simp; omega), natOf_set_t (by omega), Nat.or_assoc]
end Go.Lift

set_option linter.unusedSimpArgs false
set_option linter.unusedVariables false
namespace Go.Lift
open Go Go.Proofs
theorem ACalls.arg2 {P : Program} {f : FuncId} {a b x y d : AV} {H : AHeap} {R : AV → AHeap → Prop} (h : ∀ w v, Rep H w v x → Rep H w v y) (hc : ACalls P f [a, b, y, d] H R) : ACalls P f [a, b, x, d] H R :=
  ACalls.weaken (xs := [a, b, x, d]) (ys := [a, b, y, d]) rfl (hc := hc) fun i p q hp hq w v hr => by
    match i, hp, hq with
    | 0, hp, hq => cases hp; cases hq; exact hr
    | 1, hp, hq => cases hp; cases hq; exact hr
    | 2, hp, hq => cases hp; cases hq; exact h w v hr
    | 3, hp, hq => cases hp; cases hq; exact hr
theorem last_c (h : House) (hv : HV h) (c : Course) (hc : CLen h c) (more : List Boiling) (hm : more.length ≤ 1000) : Pure Tryz.prog 69 [eH h, eC c, .slice (more.map eB)] (i6 (natOf (lastOf h c more) : Nat)) := by
  intro H
  obtain ⟨nl, hl1, hl2⟩ := hv.ok.last
  have hb4 := hv.ok.boiled
  refine fn_of hmix fc69 (by simp) ?_
  rw [ienv3]
  simp only [go_sem, reduceIte, reduceCtorEq, Nat.reduceEqDiff, Nat.reduceBEq, Nat.reduceAdd, Nat.reduceMul, Nat.reduceLeDiff, ac69, eH, eC]
  refine v_box _ rfl fun b3 hb3 => ?_
  simp only [go_sem, reduceIte, reduceCtorEq, Nat.reduceEqDiff, Nat.reduceBEq, Nat.reduceAdd, Nat.reduceMul, Nat.reduceLeDiff]
  refine v_box _ rfl fun b5 hb5 => ?_
  have n35 : b3 ≠ b5 := fun h => by subst h; simp at hb5
  have e2 := ((Ext.refl H).new hb3 (.box [.slice (h.table.women.map eW), .slice (h.table.pieces.map eP), i6 h.table.wrong, .slice (eI h.sick), i6 h.others, i6 h.last, .slice (h.touches.map eTo), .slice (h.boiled.map eB), .slice (h.signs.map eS)])).new hb5 (.box [.slice (eI c.owners), .slice (eI c.hours)])
  have B3 : updH (updH H b3 (.box [.slice (h.table.women.map eW), .slice (h.table.pieces.map eP), i6 h.table.wrong, .slice (eI h.sick), i6 h.others, i6 h.last, .slice (h.touches.map eTo), .slice (h.boiled.map eB), .slice (h.signs.map eS)])) b5 (.box [.slice (eI c.owners), .slice (eI c.hours)]) b3 = some (.box [.slice (h.table.women.map eW), .slice (h.table.pieces.map eP), i6 h.table.wrong, .slice (eI h.sick), i6 h.others, i6 h.last, .slice (h.touches.map eTo), .slice (h.boiled.map eB), .slice (h.signs.map eS)]) := by rw [updH_ne _ _ n35]; exact updH_same _ _ _
  have B5 : updH (updH H b3 (.box [.slice (h.table.women.map eW), .slice (h.table.pieces.map eP), i6 h.table.wrong, .slice (eI h.sick), i6 h.others, i6 h.last, .slice (h.touches.map eTo), .slice (h.boiled.map eB), .slice (h.signs.map eS)])) b5 (.box [.slice (eI c.owners), .slice (eI c.hours)]) b5 = some (.box [.slice (eI c.owners), .slice (eI c.hours)]) := updH_same _ _ _
  simp only [go_sem, reduceIte, reduceCtorEq, Nat.reduceEqDiff, Nat.reduceBEq, Nat.reduceAdd, Nat.reduceMul, Nat.reduceLeDiff, updH_ne _ _ n35, take_f', List.getElem?_cons_zero]
  refine v_append (H0 := updH (updH H b3 (.box [.slice (h.table.women.map eW), .slice (h.table.pieces.map eP), i6 h.table.wrong, .slice (eI h.sick), i6 h.others, i6 h.last, .slice (h.touches.map eTo), .slice (h.boiled.map eB), .slice (h.signs.map eS)])) b5 (.box [.slice (eI c.owners), .slice (eI c.hours)])) (sz := 2) (.inl ⟨rfl, rfl⟩) (Ext.refl _) rfl (by intro e he; cases he) (eB_good _) (eB_cell _) (by simp; omega) (by simp; omega) ?_
  intro v1 H1 hg1 he1 hk1
  have C3 := he1 _ _ B3
  have C5 := he1 _ _ B5
  simp only [go_sem, reduceIte, reduceCtorEq, Nat.reduceEqDiff, Nat.reduceBEq, Nat.reduceAdd, Nat.reduceMul, Nat.reduceLeDiff, C3, C5, take_f', List.getElem?_cons_zero]
  refine v_append hg1 he1 rfl (eB_good h.boiled) (eB_good more) (eB_cell more) (by simp; omega) (by simp; omega) ?_
  intro v2 H2 hg2 he2 hk2
  have D3 := he2 _ _ B3
  have D5 := he2 _ _ B5
  simp only [go_sem, reduceIte, reduceCtorEq, Nat.reduceEqDiff, Nat.reduceBEq, Nat.reduceAdd, Nat.reduceMul, Nat.reduceLeDiff, D3, D5, take_f', List.getElem?_cons_zero]
  refine ACalls.arg2 (y := .slice ((h.boiled ++ more).map eB)) (fun w v hr => by rw [List.map_append]; exact hg2.weakRep hr) ?_
  have hlast : h.last = ((nl + 1 : Nat) : Int) - 1 := by omega
  have hcall := carriers_c h hv c hc (h.boiled ++ more) (by unfold Sm; simp; omega) (nl + 1) (by omega)
  rw [← hlast] at hcall
  refine hcall.go ?_
  simp only [go_sem, reduceIte, reduceCtorEq, Nat.reduceEqDiff, Nat.reduceBEq, Nat.reduceAdd, Nat.reduceMul, Nat.reduceLeDiff]
  refine fin_ret 6 (by simp [upd_at]) ⟨_, H, Settle.refl (e2.trans he2), ?_, rfl⟩
  simp [upd_at, lastOf, playOf, hl1]
def eCr (c : Course) : List AV := [.slice (eI c.owners), .slice (eI c.hours)]
def eCL (l : List Course) : AV := .slice (l.map eCr)
end Go.Lift

set_option linter.unusedSimpArgs false
set_option linter.unusedVariables false
namespace Go.Lift
open Go Go.Proofs
def signAt (h : House) (bs : List Bool) (i : Nat) : Bool := bs.getD (h.signs.getD i default).thing.toNat false == (h.signs.getD i default).carries
def signsL (h : House) (c : Course) : List Bool := (List.range h.signs.length).map (signAt h (lastOf h c []))
theorem rightH_c (h : House) (hv : HV h) (c : Course) (hc : CLen h c) : Pure Tryz.prog 86 [eH h, eC c] (i6 (natOf (signsL h c) : Nat)) := by
  intro H
  have hsg := hv.ok.signs
  have hll := lastOf_len h c []
  refine fn_of hmix fc86 (by simp) ?_
  rw [ienv2]
  simp only [go_sem, reduceIte, reduceCtorEq, Nat.reduceEqDiff, Nat.reduceBEq, Nat.reduceAdd, Nat.reduceMul, Nat.reduceLeDiff, ac86, eH, eC]
  refine v_box _ rfl fun b2 hb2 => ?_
  simp only [go_sem, reduceIte, reduceCtorEq, Nat.reduceEqDiff, Nat.reduceBEq, Nat.reduceAdd, Nat.reduceMul, Nat.reduceLeDiff]
  refine v_box _ rfl fun b3 hb3 => ?_
  have n23 : b2 ≠ b3 := fun h => by subst h; simp at hb3
  have e2 := ((Ext.refl H).new hb2 (.box [.slice (h.table.women.map eW), .slice (h.table.pieces.map eP), i6 h.table.wrong, .slice (eI h.sick), i6 h.others, i6 h.last, .slice (h.touches.map eTo), .slice (h.boiled.map eB), .slice (h.signs.map eS)])).new hb3 (.box [.slice (eI c.owners), .slice (eI c.hours)])
  simp only [go_sem, reduceIte, reduceCtorEq, Nat.reduceEqDiff, Nat.reduceBEq, Nat.reduceAdd, Nat.reduceMul, Nat.reduceLeDiff, updH_ne _ _ n23]
  refine (Pure.emp2 (last_c h hv c hc [] (by simp))).go ?_
  simp only [go_sem, reduceIte, reduceCtorEq, Nat.reduceEqDiff, Nat.reduceBEq, Nat.reduceAdd, Nat.reduceMul, Nat.reduceLeDiff]
  refine x_for h.signs.length (fun j env H1 => Ext H H1 ∧ H1 b2 = some (.box [.slice (h.table.women.map eW), .slice (h.table.pieces.map eP), i6 h.table.wrong, .slice (eI h.sick), i6 h.others, i6 h.last, .slice (h.touches.map eTo), .slice (h.boiled.map eB), .slice (h.signs.map eS)]) ∧ env 2 = .ptr b2 0 ∧ env 5 = i6 (natOf ((List.range j).map (signAt h (lastOf h c []))) : Nat) ∧ env 6 = i6 (natOf (lastOf h c []) : Nat) ∧ env 7 = i6 j ∧ env 42 = .any)
    ⟨e2, by rw [updH_ne _ _ n23]; exact updH_same _ _ _, by simp [upd_at], by simp [upd_at, natOf], by simp [upd_at], by simp [upd_at], by simp [upd_at]⟩ ?_
  rintro j env H1 hj ⟨hE, hB, g2, g5, g6, g7, hN⟩
  by_cases hlt : (j : Int) < (h.signs.length : Int)
  · have hlt' : j < h.signs.length := by omega
    have hget : h.signs.getD j default = h.signs[j] := by simp [hlt']
    obtain ⟨a, ha, ha10⟩ := hv.ok.sign _ (List.getElem_mem hlt')
    have hsn : natOf ((List.range (j + 1)).map (signAt h (lastOf h c []))) = if signAt h (lastOf h c []) j = true then natOf ((List.range j).map (signAt h (lastOf h c []))) ||| 2 ^ j else natOf ((List.range j).map (signAt h (lastOf h c []))) := by
      rw [List.range_succ, List.map_append, List.map_cons, List.map_nil, natOf_snoc]; simp
    have handp := w_and (natOf_lt62 (c := lastOf h c []) (by omega)) (two_lt (show a < 62 by omega))
    have hor := w_or (natOf_lt62 (c := (List.range j).map (signAt h (lastOf h c []))) (by simp; omega)) (two_lt (show j < 62 by omega))
    have hne : (!decide (((natOf (lastOf h c []) &&& 2 ^ a : Nat) : Int) = 0)) = (lastOf h c []).getD a false := by
      rw [Bool.eq_iff_iff, ← natOf_and]
      simp only [Bool.not_eq_true', decide_eq_false_iff_not]
      omega
    have hsa : signAt h (lastOf h c []) j = ((lastOf h c []).getD a false == h.signs[j].carries) := by
      rw [signAt, hget, ha]; rfl
    simp only [↓aops_nil, ↓aops_go, ↓aops_go0, ↓aops_if, ↓k_cont, ↓k_cont0, g_tt, g_ff, g_tf, g_ft, g_u, ↓apre_nil, ↓apre_if, ↓apre_go, pgo_det, Tag.isCall, popt_some, gp_tt, gp_ff, gp_tf, gp_ft, gp_u, ↓k_draw, opt_some, List.map_cons, List.map_nil, ev, upd_at, ↓x_skip, ↓x_label, ↓x_ret, ↓x_exit, ↓x_seq, ↓x_block, ↓x_ops, ↓x_cond, x_sel_t, x_sel_f, ↓x_draw, ↓q_kseq_n, ↓q_kseq_r, ↓q_kseq_e, ↓q_block_n, ↓q_block_r, ↓q_block_e, ↓q_loop_n, ↓q_loop_r, ↓q_loop_e, ↓l_done, d_mov, d_pick, d_not, d_nilchk, d_nilchk', d_conv, d_add, d_sub, d_mul, d_quo, d_rem, d_shl, d_shr, d_and, d_or, d_andnot, d_eql, d_neq, d_lss, d_leq, d_gtr, d_geq, d_eqb, d_neqb, d_mkfunc, d_load, d_fieldaddr, d_fieldaddr', d_field_t, d_field_f, d_idxaddr, d_idxaddr_g, elemO_some, d_idxaddr_m, d_arraddr, d_arraddr', d_idx_f, d_sub_s, d_sub_g, d_arrsub, d_arrall, d_extract, d_len, d_len_g, d_len_e, d_len_m, d_min, d_build, d_bslice0, d_bs1, d_bs2, d_bsa, d_eqagg, v_mov, v_pick, v_not, v_nilchk, v_conv, v_bin, v_binb, v_eqagg, v_mkfunc, v_load, v_fieldaddr, v_field, v_idxaddr, v_arraddr, v_idx, v_sub, v_arrsub, v_arrall, v_extract, v_len, v_min, v_build, v_bslice, v_lookup, v_call, v_callv, Nat.reduceEqDiff, Nat.reduceBEq, reduceIte, ite_true, ite_false, Bool.false_eq_true, Bool.true_eq_false, if_true, if_false, decide_eq_true_eq, decide_eq_false_iff_not, decide_true, decide_false, Nat.zero_add, Nat.add_zero, Nat.reduceAdd, reduceCtorEq, eq_self, not_true_eq_false, not_false_eq_true, Bool.not_true, Bool.not_false, Nat.reduceMul, List.length_cons, List.length_nil, at_elem, take_f, take_tt, Int.toNat_natCast, Option.some.injEq, Option.bind_some, Int.natCast_nonneg, true_and, and_true, and_self, ↓q_for_n, ↓q_for_r, ↓q_for_e, eI_len, List.length_map, at_obj, obj_box, updH_same, Nat.reduceLeDiff, Nat.zero_le, Nat.le_refl, List.drop_zero, List.drop_succ_cons, List.take_succ_cons, List.take_zero, c_agg, c_int, c_bool, c_slice, c_emp, c_grow, ↓l_one0, ↓l_one1, ↓k_l0, ↓k_l1, stab_nil, stab_cons, stab_if, st_tt, st_ff, st_tf, st_ft, st_u, g2, g5, g6, g7, hN, hlt, hB, take_f', List.getElem?_cons_zero, List.getElem?_cons_succ, map_get (f := eS) hlt', eS, ha, u64w (show a < 2 ^ 62 by omega), w_shl1 (show a < 62 by omega), show ¬ ((a : Int) < 0) by omega, handp, hne, ← hsa]
    cases hs : signAt h (lastOf h c []) j
    · simp only [↓aops_nil, ↓aops_go, ↓aops_go0, ↓aops_if, ↓k_cont, ↓k_cont0, g_tt, g_ff, g_tf, g_ft, g_u, ↓apre_nil, ↓apre_if, ↓apre_go, pgo_det, Tag.isCall, popt_some, gp_tt, gp_ff, gp_tf, gp_ft, gp_u, ↓k_draw, opt_some, List.map_cons, List.map_nil, ev, upd_at, ↓x_skip, ↓x_label, ↓x_ret, ↓x_exit, ↓x_seq, ↓x_block, ↓x_ops, ↓x_cond, x_sel_t, x_sel_f, ↓x_draw, ↓q_kseq_n, ↓q_kseq_r, ↓q_kseq_e, ↓q_block_n, ↓q_block_r, ↓q_block_e, ↓q_loop_n, ↓q_loop_r, ↓q_loop_e, ↓l_done, d_mov, d_pick, d_not, d_nilchk, d_nilchk', d_conv, d_add, d_sub, d_mul, d_quo, d_rem, d_shl, d_shr, d_and, d_or, d_andnot, d_eql, d_neq, d_lss, d_leq, d_gtr, d_geq, d_eqb, d_neqb, d_mkfunc, d_load, d_fieldaddr, d_fieldaddr', d_field_t, d_field_f, d_idxaddr, d_idxaddr_g, elemO_some, d_idxaddr_m, d_arraddr, d_arraddr', d_idx_f, d_sub_s, d_sub_g, d_arrsub, d_arrall, d_extract, d_len, d_len_g, d_len_e, d_len_m, d_min, d_build, d_bslice0, d_bs1, d_bs2, d_bsa, d_eqagg, v_mov, v_pick, v_not, v_nilchk, v_conv, v_bin, v_binb, v_eqagg, v_mkfunc, v_load, v_fieldaddr, v_field, v_idxaddr, v_arraddr, v_idx, v_sub, v_arrsub, v_arrall, v_extract, v_len, v_min, v_build, v_bslice, v_lookup, v_call, v_callv, Nat.reduceEqDiff, Nat.reduceBEq, reduceIte, ite_true, ite_false, Bool.false_eq_true, Bool.true_eq_false, if_true, if_false, decide_eq_true_eq, decide_eq_false_iff_not, decide_true, decide_false, Nat.zero_add, Nat.add_zero, Nat.reduceAdd, reduceCtorEq, eq_self, not_true_eq_false, not_false_eq_true, Bool.not_true, Bool.not_false, Nat.reduceMul, List.length_cons, List.length_nil, at_elem, take_f, take_tt, Int.toNat_natCast, Option.some.injEq, Option.bind_some, Int.natCast_nonneg, true_and, and_true, and_self, ↓q_for_n, ↓q_for_r, ↓q_for_e, eI_len, List.length_map, at_obj, obj_box, updH_same, Nat.reduceLeDiff, Nat.zero_le, Nat.le_refl, List.drop_zero, List.drop_succ_cons, List.take_succ_cons, List.take_zero, c_agg, c_int, c_bool, c_slice, c_emp, c_grow, ↓l_one0, ↓l_one1, ↓k_l0, ↓k_l1, stab_nil, stab_cons, stab_if, st_tt, st_ff, st_tf, st_ft, st_u, g2, g5, g6, g7, hN, hB, wsucc (show j < 4611686018427387904 by omega), hlt']
      refine ⟨hE, ?_⟩
      rw [hsn, hs]; rfl
    · simp only [↓aops_nil, ↓aops_go, ↓aops_go0, ↓aops_if, ↓k_cont, ↓k_cont0, g_tt, g_ff, g_tf, g_ft, g_u, ↓apre_nil, ↓apre_if, ↓apre_go, pgo_det, Tag.isCall, popt_some, gp_tt, gp_ff, gp_tf, gp_ft, gp_u, ↓k_draw, opt_some, List.map_cons, List.map_nil, ev, upd_at, ↓x_skip, ↓x_label, ↓x_ret, ↓x_exit, ↓x_seq, ↓x_block, ↓x_ops, ↓x_cond, x_sel_t, x_sel_f, ↓x_draw, ↓q_kseq_n, ↓q_kseq_r, ↓q_kseq_e, ↓q_block_n, ↓q_block_r, ↓q_block_e, ↓q_loop_n, ↓q_loop_r, ↓q_loop_e, ↓l_done, d_mov, d_pick, d_not, d_nilchk, d_nilchk', d_conv, d_add, d_sub, d_mul, d_quo, d_rem, d_shl, d_shr, d_and, d_or, d_andnot, d_eql, d_neq, d_lss, d_leq, d_gtr, d_geq, d_eqb, d_neqb, d_mkfunc, d_load, d_fieldaddr, d_fieldaddr', d_field_t, d_field_f, d_idxaddr, d_idxaddr_g, elemO_some, d_idxaddr_m, d_arraddr, d_arraddr', d_idx_f, d_sub_s, d_sub_g, d_arrsub, d_arrall, d_extract, d_len, d_len_g, d_len_e, d_len_m, d_min, d_build, d_bslice0, d_bs1, d_bs2, d_bsa, d_eqagg, v_mov, v_pick, v_not, v_nilchk, v_conv, v_bin, v_binb, v_eqagg, v_mkfunc, v_load, v_fieldaddr, v_field, v_idxaddr, v_arraddr, v_idx, v_sub, v_arrsub, v_arrall, v_extract, v_len, v_min, v_build, v_bslice, v_lookup, v_call, v_callv, Nat.reduceEqDiff, Nat.reduceBEq, reduceIte, ite_true, ite_false, Bool.false_eq_true, Bool.true_eq_false, if_true, if_false, decide_eq_true_eq, decide_eq_false_iff_not, decide_true, decide_false, Nat.zero_add, Nat.add_zero, Nat.reduceAdd, reduceCtorEq, eq_self, not_true_eq_false, not_false_eq_true, Bool.not_true, Bool.not_false, Nat.reduceMul, List.length_cons, List.length_nil, at_elem, take_f, take_tt, Int.toNat_natCast, Option.some.injEq, Option.bind_some, Int.natCast_nonneg, true_and, and_true, and_self, ↓q_for_n, ↓q_for_r, ↓q_for_e, eI_len, List.length_map, at_obj, obj_box, updH_same, Nat.reduceLeDiff, Nat.zero_le, Nat.le_refl, List.drop_zero, List.drop_succ_cons, List.take_succ_cons, List.take_zero, c_agg, c_int, c_bool, c_slice, c_emp, c_grow, ↓l_one0, ↓l_one1, ↓k_l0, ↓k_l1, stab_nil, stab_cons, stab_if, st_tt, st_ff, st_tf, st_ft, st_u, g2, g5, g6, g7, hN, hB, u64w (show j < 2 ^ 62 by omega), w_shl1 (show j < 62 by omega), show ¬ ((j : Int) < 0) by omega, hor, wsucc (show j < 4611686018427387904 by omega), hlt']
      refine ⟨hE, ?_⟩
      rw [hsn, hs]; rfl
  · simp only [go_sem, reduceIte, reduceCtorEq, Nat.reduceEqDiff, Nat.reduceBEq, Nat.reduceAdd, Nat.reduceMul, Nat.reduceLeDiff, g2, g5, g6, g7, hN, hlt, hB, take_f', List.getElem?_cons_zero]
    have : j = h.signs.length := by omega
    subst this
    refine fin_ret 4 (by simp [upd_at, hN]) ⟨_, H, Settle.refl hE, ?_, rfl⟩
    simp [upd_at, signsL]
def fullN (h : House) : Nat := 2 ^ h.signs.length - 1
theorem fullH_c (h : House) (hsg : h.signs.length ≤ 60) : Pure Tryz.prog 49 [eH h] (i6 (fullN h : Nat)) := by
  intro H
  refine fn_of hmix fc49 (by simp) ?_
  rw [ienv1]
  simp only [go_sem, reduceIte, reduceCtorEq, Nat.reduceEqDiff, Nat.reduceBEq, Nat.reduceAdd, Nat.reduceMul, Nat.reduceLeDiff, ac49, eH]
  refine v_box _ rfl fun b1 hb1 => ?_
  have hp : 1 ≤ 2 ^ h.signs.length := Nat.one_le_two_pow
  have hp2 := two_lt (show h.signs.length < 62 by omega)
  have hs : IntKind.i64.wrap (((2 ^ h.signs.length : Nat) : Int) - 1) = ((fullN h : Nat) : Int) := by
    rw [fullN]
    generalize 2 ^ h.signs.length = q at hp hp2
    rw [w64 (by omega) (by omega)]; omega
  simp only [↓aops_nil, ↓aops_go, ↓aops_go0, ↓aops_if, ↓k_cont, ↓k_cont0, g_tt, g_ff, g_tf, g_ft, g_u, ↓apre_nil, ↓apre_if, ↓apre_go, pgo_det, Tag.isCall, popt_some, gp_tt, gp_ff, gp_tf, gp_ft, gp_u, ↓k_draw, opt_some, List.map_cons, List.map_nil, ev, upd_at, ↓x_skip, ↓x_label, ↓x_ret, ↓x_exit, ↓x_seq, ↓x_block, ↓x_ops, ↓x_cond, x_sel_t, x_sel_f, ↓x_draw, ↓q_kseq_n, ↓q_kseq_r, ↓q_kseq_e, ↓q_block_n, ↓q_block_r, ↓q_block_e, ↓q_loop_n, ↓q_loop_r, ↓q_loop_e, ↓l_done, d_mov, d_pick, d_not, d_nilchk, d_nilchk', d_conv, d_add, d_sub, d_mul, d_quo, d_rem, d_shl, d_shr, d_and, d_or, d_andnot, d_eql, d_neq, d_lss, d_leq, d_gtr, d_geq, d_eqb, d_neqb, d_mkfunc, d_load, d_fieldaddr, d_fieldaddr', d_field_t, d_field_f, d_idxaddr, d_idxaddr_g, elemO_some, d_idxaddr_m, d_arraddr, d_arraddr', d_idx_f, d_sub_s, d_sub_g, d_arrsub, d_arrall, d_extract, d_len, d_len_g, d_len_e, d_len_m, d_min, d_build, d_bslice0, d_bs1, d_bs2, d_bsa, d_eqagg, v_mov, v_pick, v_not, v_nilchk, v_conv, v_bin, v_binb, v_eqagg, v_mkfunc, v_load, v_fieldaddr, v_field, v_idxaddr, v_arraddr, v_idx, v_sub, v_arrsub, v_arrall, v_extract, v_len, v_min, v_build, v_bslice, v_lookup, v_call, v_callv, Nat.reduceEqDiff, Nat.reduceBEq, reduceIte, ite_true, ite_false, Bool.false_eq_true, Bool.true_eq_false, if_true, if_false, decide_eq_true_eq, decide_eq_false_iff_not, decide_true, decide_false, Nat.zero_add, Nat.add_zero, Nat.reduceAdd, reduceCtorEq, eq_self, not_true_eq_false, not_false_eq_true, Bool.not_true, Bool.not_false, Nat.reduceMul, List.length_cons, List.length_nil, at_elem, take_f, take_tt, Int.toNat_natCast, Option.some.injEq, Option.bind_some, Int.natCast_nonneg, true_and, and_true, and_self, ↓q_for_n, ↓q_for_r, ↓q_for_e, eI_len, List.length_map, at_obj, obj_box, updH_same, Nat.reduceLeDiff, Nat.zero_le, Nat.le_refl, List.drop_zero, List.drop_succ_cons, List.take_succ_cons, List.take_zero, c_agg, c_int, c_bool, c_slice, c_emp, c_grow, take_f', List.getElem?_cons_zero, u64w (show h.signs.length < 2 ^ 62 by omega), w_shl1 (show h.signs.length < 62 by omega), show ¬ ((h.signs.length : Int) < 0) by omega, hs]
  refine fin_ret 2 (by simp [upd_at]) ⟨_, H, Settle.refl ((Ext.refl H).new hb1 _), ?_, rfl⟩
  simp [upd_at]
end Go.Lift

set_option linter.unusedSimpArgs false
set_option linter.unusedVariables false
namespace Go.Lift
open Go Go.Proofs
def hrsGo (h : House) : Nat → Nat → Nat → List Int
  | 0, _, _ => []
  | k + 1, j, n => ((h.touches.getD j default).lo + ((n % hourN h j : Nat) : Int)) :: hrsGo h k (j + 1) (n / hourN h j)
theorem hrsGo_len (h : House) : ∀ k j n, (hrsGo h k j n).length = k
  | 0, _, _ => rfl
  | k + 1, j, n => by rw [hrsGo, List.length_cons, hrsGo_len h k]
def hrsOf (h : House) (n : Nat) : List Int := hrsGo h h.touches.length 0 n
theorem hours_c (h : House) (hv : HV h) (n : Nat) (hn : n < 2 ^ 62) : Pure Tryz.prog 90 [eH h, i6 n] (.slice (eI (hrsOf h n))) := by
  intro H
  have hm6 := hv.ok.touches
  refine fn_of hmix fc90 (by simp) ?_
  rw [ienv2]
  simp only [go_sem, reduceIte, reduceCtorEq, Nat.reduceEqDiff, Nat.reduceBEq, Nat.reduceAdd, Nat.reduceMul, Nat.reduceLeDiff, ac90, eH]
  refine v_box _ rfl fun b2 hb2 => ?_
  simp only [go_sem, reduceIte, reduceCtorEq, Nat.reduceEqDiff, Nat.reduceBEq, Nat.reduceAdd, Nat.reduceMul, Nat.reduceLeDiff]
  refine x_for h.touches.length (fun j env H1 => Ext H H1 ∧ H1 b2 = some (.box [.slice (h.table.women.map eW), .slice (h.table.pieces.map eP), i6 h.table.wrong, .slice (eI h.sick), i6 h.others, i6 h.last, .slice (h.touches.map eTo), .slice (h.boiled.map eB), .slice (h.signs.map eS)]) ∧ (∃ (out : List Int) (nk : Nat), nk < 2 ^ 62 ∧ out.length = j ∧ hrsOf h n = out ++ hrsGo h (h.touches.length - j) j nk ∧ Grown 1 H H1 (env 5) (eI out) ∧ env 1 = i6 nk) ∧ env 2 = .ptr b2 0 ∧ env 6 = i6 j ∧ env 41 = .any)
    ⟨(Ext.refl H).new hb2 _, updH_same _ _ _, ⟨[], n, hn, rfl, by simp [hrsOf], .inl ⟨by simp [upd_at], rfl⟩, by simp [upd_at]⟩, by simp [upd_at], by simp [upd_at], by simp [upd_at]⟩ ?_
  rintro j env H1 hj ⟨hE, hB, ⟨out, nk, hnk, hol, heq, hG, g1⟩, g2, g6, hN⟩
  by_cases hlt : (j : Int) < (h.touches.length : Int)
  · have hlt' : j < h.touches.length := by omega
    have hget : h.touches.getD j default = h.touches[j] := by simp [hlt']
    obtain ⟨t1, t2, t3⟩ := hv.tim _ (List.getElem_mem hlt')
    have hsz : h.touches[j].hi - h.touches[j].lo + 1 = ((hourN h j : Nat) : Int) := by rw [hourN, hget]; omega
    have hp : 1 ≤ hourN h j := by omega
    have hw1 := w64 (x := h.touches[j].hi - h.touches[j].lo) (by omega) (by omega)
    have hw2 : IntKind.i64.wrap (h.touches[j].hi - h.touches[j].lo + 1) = ((hourN h j : Nat) : Int) := by rw [w64 (by omega) (by omega), hsz]
    have hne : ¬ ((hourN h j : Nat) : Int) = 0 := by omega
    have hrem : (nk : Int).tmod ((hourN h j : Nat) : Int) = ((nk % hourN h j : Nat) : Int) := (Int.ofNat_tmod nk (hourN h j)).symm
    have hquo : (nk : Int).tdiv ((hourN h j : Nat) : Int) = ((nk / hourN h j : Nat) : Int) := (Int.ofNat_tdiv nk (hourN h j)).symm
    have hml : nk % hourN h j < hourN h j := Nat.mod_lt _ hp
    have hdl : nk / hourN h j < 2 ^ 62 := Nat.lt_of_le_of_lt (Nat.div_le_self _ _) hnk
    have hwd : IntKind.i64.wrap ((nk / hourN h j : Nat) : Int) = ((nk / hourN h j : Nat) : Int) := by
      generalize nk / hourN h j = q at hdl
      exact w64 (by omega) (by omega)
    have hwa : IntKind.i64.wrap (h.touches[j].lo + ((nk % hourN h j : Nat) : Int)) = h.touches[j].lo + ((nk % hourN h j : Nat) : Int) := by
      generalize nk % hourN h j = q at hml
      exact w64 (by omega) (by omega)
    simp only [go_sem, reduceIte, reduceCtorEq, Nat.reduceEqDiff, Nat.reduceBEq, Nat.reduceAdd, Nat.reduceMul, Nat.reduceLeDiff, g1, g2, g6, hN, hB, hlt, take_f', List.getElem?_cons_zero, map_get (f := eTo) hlt', eTo]
    refine v_alloc fun b7 hb7 => ?_
    have n27 : b2 ≠ b7 := fun h => by subst h; rw [hB] at hb7; cases hb7
    simp only [go_sem, reduceIte, reduceCtorEq, Nat.reduceEqDiff, Nat.reduceBEq, Nat.reduceAdd, Nat.reduceMul, Nat.reduceLeDiff, g1, g2, g6, hN]
    rw [v_store]
    refine ⟨rfl, rfl, by simp [AV.cells, AV.isCell], _, updH_same _ _ _, by simp, ?_⟩
    have hE7 : ∀ o1 o2, Ext H (updH (updH H1 b7 o1) b7 o2) := fun o1 o2 => (hE.new hb7 _).upd (hE.isNone hb7) _
    have hG7 : ∀ cs o2, Grown 1 H (updH (updH H1 b7 (.box cs)) b7 o2) (env 5) (eI out) := fun cs o2 => (hG.new hb7 (.box cs)).store (updH_same _ _ _) o2
    simp only [go_sem, reduceIte, reduceCtorEq, Nat.reduceEqDiff, Nat.reduceBEq, Nat.reduceAdd, Nat.reduceMul, Nat.reduceLeDiff, g1, g2, g6, hN, placeAt, List.append_nil, List.nil_append, List.drop_nil, take_f', List.getElem?_cons_zero, List.getElem?_cons_succ, hw1, hw2, hne, hrem, hwa]
    refine v_append (hG7 _ _) (hE7 _ _) rfl (eI_good _) (one_good _) (one_cell _) (by simp; omega) (by simp; omega) ?_
    intro v' H2 hg' he' hk'
    have C2 : H2 b2 = some (.box [.slice (h.table.women.map eW), .slice (h.table.pieces.map eP), i6 h.table.wrong, .slice (eI h.sick), i6 h.others, i6 h.last, .slice (h.touches.map eTo), .slice (h.boiled.map eB), .slice (h.signs.map eS)]) := hk'.box (hG7 _ _) (by rw [updH_ne _ _ n27, updH_ne _ _ n27]; exact hB)
    simp only [go_sem, reduceIte, reduceCtorEq, Nat.reduceEqDiff, Nat.reduceBEq, Nat.reduceAdd, Nat.reduceMul, Nat.reduceLeDiff, g1, g2, g6, hN, hne, hquo, hwd, wsucc (show j < 4611686018427387904 by omega), hlt', C2]
    refine ⟨he', out ++ [h.touches[j].lo + ((nk % hourN h j : Nat) : Int)], nk / hourN h j, hdl, by simp [hol], ?_, by rw [eI_app]; exact hg', rfl⟩
    rw [heq, show h.touches.length - j = (h.touches.length - (j + 1)) + 1 by omega, hrsGo, hget, List.append_assoc]; rfl
  · simp only [go_sem, reduceIte, reduceCtorEq, Nat.reduceEqDiff, Nat.reduceBEq, Nat.reduceAdd, Nat.reduceMul, Nat.reduceLeDiff, g1, g2, g6, hN, hB, hlt, take_f', List.getElem?_cons_zero]
    have : j = h.touches.length := by omega
    subst this
    refine fin_ret 4 (by simp [upd_at, hN]) ⟨_, H, ?_, rfl, rfl⟩
    simp only [upd_at, if_true]
    rw [heq, Nat.sub_self, hrsGo, List.append_nil]
    exact hG.weaken hE
theorem bc36 (a b : List (List AV)) : buildCells [.emp, .emp] [(0, 1), (1, 1)] [.slice a, .slice b] = some [.slice a, .slice b] := by
  simp [buildCells, placeAt, AV.ok, AV.cells]
theorem eCr_good (l : List Course) : goodEls 2 (l.map eCr) := by
  intro e he; rw [List.mem_map] at he; obtain ⟨x, _, rfl⟩ := he; rfl
theorem eCr_cell (l : List Course) : cellEls (l.map eCr) := by
  intro e he x hx; rw [List.mem_map] at he; obtain ⟨y, _, rfl⟩ := he
  simp only [eCr, List.mem_cons, List.not_mem_nil, or_false] at hx
  rcases hx with rfl | rfl <;> rfl
def rowR (h : House) (j : Nat) (o : List Int) : List Course := (List.range j).map fun n => ⟨o, hrsOf h n⟩
def coursesR (h : House) : List Course := (truthsR h.table).flatMap (rowR h (timesR h h.touches.length))
theorem truthsR_size (t : Table) : (truthsR t).length ≤ 3000 := Nat.le_trans (ownersUpto_len t _) (Nat.min_le_left _ _)
theorem truthsR_own {t : Table} {o : List Int} (ho : o ∈ truthsR t) : o.length = t.pieces.length := by
  simp only [truthsR, ownersUpto, List.mem_filter, List.mem_map] at ho
  obtain ⟨⟨n, _, rfl⟩, _⟩ := ho
  exact nthL_len _ _ _
theorem flat_len (h : House) (T : Nat) : ∀ l : List (List Int), (l.flatMap (rowR h T)).length = l.length * T
  | [] => by simp
  | o :: l => by rw [List.flatMap_cons, List.length_append, flat_len h T l, List.length_cons, Nat.add_mul]; simp [rowR]; omega
theorem coursesR_c (h : House) (hv : HV h) : Pure Tryz.prog 36 [eH h] (eCL (coursesR h)) := by
  intro H
  have hm6 := hv.ok.touches
  have hts := truthsR_size h.table
  have hT : timesR h h.touches.length ≤ 3000 := Nat.min_le_left _ _
  obtain ⟨tr, htr⟩ : ∃ tr, tr = truthsR h.table := ⟨_, rfl⟩
  obtain ⟨T, hTe⟩ : ∃ T, T = timesR h h.touches.length := ⟨_, rfl⟩
  refine fn_of hmix fc36 (by simp) ?_
  rw [ienv1]
  simp only [go_sem, reduceIte, reduceCtorEq, Nat.reduceEqDiff, Nat.reduceBEq, Nat.reduceAdd, Nat.reduceMul, Nat.reduceLeDiff, ac36, eH]
  refine v_box _ rfl fun b1 hb1 => ?_
  simp only [go_sem, reduceIte, reduceCtorEq, Nat.reduceEqDiff, Nat.reduceBEq, Nat.reduceAdd, Nat.reduceMul, Nat.reduceLeDiff]
  refine (truthsR_c h.table hv.ok.sm hv.tab).go ?_
  rw [coursesR, ← htr, ← hTe]
  rw [← htr] at hts
  simp only [go_sem, reduceIte, reduceCtorEq, Nat.reduceEqDiff, Nat.reduceBEq, Nat.reduceAdd, Nat.reduceMul, Nat.reduceLeDiff, eII]
  refine x_for tr.length (fun j env H1 => Ext H H1 ∧ H1 b1 = some (.box [.slice (h.table.women.map eW), .slice (h.table.pieces.map eP), i6 h.table.wrong, .slice (eI h.sick), i6 h.others, i6 h.last, .slice (h.touches.map eTo), .slice (h.boiled.map eB), .slice (h.signs.map eS)]) ∧ Grown 2 H H1 (env 3) (((tr.take j).flatMap (rowR h T)).map eCr) ∧ env 1 = .ptr b1 0 ∧ env 4 = .slice (tr.map fun x => [AV.slice (eI x)]) ∧ env 5 = i6 j ∧ env 34 = .any)
    ⟨(Ext.refl H).new hb1 _, updH_same _ _ _, .inl ⟨by simp [upd_at], rfl⟩, by simp [upd_at], by simp [upd_at], by simp [upd_at], by simp [upd_at]⟩ ?_
  rintro j env H1 hj ⟨hE, hB, hG, g1, g4, g5, hN⟩
  by_cases hlt : (j : Int) < (tr.length : Int)
  rotate_left
  · simp only [go_sem, reduceIte, reduceCtorEq, Nat.reduceEqDiff, Nat.reduceBEq, Nat.reduceAdd, Nat.reduceMul, Nat.reduceLeDiff, g1, g4, g5, hN, hlt]
    have : j = tr.length := by omega
    subst this
    refine fin_ret 2 (by simp [upd_at, hN]) ⟨_, H, ?_, rfl, rfl⟩
    simp only [upd_at, if_true]
    rw [List.take_length] at hG
    exact hG.weaken hE
  have hlt' : j < tr.length := by omega
  simp only [go_sem, reduceIte, reduceCtorEq, Nat.reduceEqDiff, Nat.reduceBEq, Nat.reduceAdd, Nat.reduceMul, Nat.reduceLeDiff, g1, g4, g5, hN, hlt]
  refine x_for T (fun n env H1 => Ext H H1 ∧ H1 b1 = some (.box [.slice (h.table.women.map eW), .slice (h.table.pieces.map eP), i6 h.table.wrong, .slice (eI h.sick), i6 h.others, i6 h.last, .slice (h.touches.map eTo), .slice (h.boiled.map eB), .slice (h.signs.map eS)]) ∧ Grown 2 H H1 (env 3) (((tr.take j).flatMap (rowR h T) ++ rowR h n tr[j]).map eCr) ∧ env 1 = .ptr b1 0 ∧ env 4 = .slice (tr.map fun x => [AV.slice (eI x)]) ∧ env 5 = i6 j ∧ env 6 = i6 n ∧ env 34 = .any)
    ⟨hE, hB, by simpa [upd_at, rowR] using hG, by simp [upd_at, g1], by simp [upd_at, g4], by simp [upd_at, g5], by simp [upd_at], by simp [upd_at, hN]⟩ ?_
  clear hE hB hG g1 g4 g5 hN hlt env H1
  rintro n env H1 hn ⟨hE, hB, hG, g1, g4, g5, g6, hN⟩
  simp only [go_sem, reduceIte, reduceCtorEq, Nat.reduceEqDiff, Nat.reduceBEq, Nat.reduceAdd, Nat.reduceMul, Nat.reduceLeDiff, g1, g4, g5, g6, hN, hB]
  refine (timesR_c h hm6 hv.tim).go ?_
  rw [← hTe]
  by_cases hlt : (n : Int) < (T : Int)
  · have hltn : n < T := by omega
    simp only [go_sem, reduceIte, reduceCtorEq, Nat.reduceEqDiff, Nat.reduceBEq, Nat.reduceAdd, Nat.reduceMul, Nat.reduceLeDiff, g1, g4, g5, g6, hN, hlt, hB, map_get (f := fun x : List Int => [AV.slice (eI x)]) hlt', take_f', List.getElem?_cons_zero]
    refine pgo_call (hours_c h hv n (by omega)) ?_
    have hsz : ((tr.take j).flatMap (rowR h T)).length ≤ 3000 * 3000 := by
      rw [flat_len]
      exact Nat.mul_le_mul (by simp; omega) (by omega)
    have hsr : (rowR h n tr[j]).length = n := by simp [rowR]
    simp only [go_sem, reduceIte, reduceCtorEq, Nat.reduceEqDiff, Nat.reduceBEq, Nat.reduceAdd, Nat.reduceMul, Nat.reduceLeDiff, bc36, Option.map_some, d_bsa]
    refine v_append hG hE rfl (eCr_good _) (eCr_good [⟨tr[j], hrsOf h n⟩]) (eCr_cell [⟨tr[j], hrsOf h n⟩]) (by simp only [List.length_map, List.length_append, hsr, List.length_cons, List.length_nil]; omega) (by simp only [List.length_map, List.length_append, hsr, List.length_cons, List.length_nil]; omega) ?_
    intro v' H2 hg' he' hk'
    simp only [go_sem, reduceIte, reduceCtorEq, Nat.reduceEqDiff, Nat.reduceBEq, Nat.reduceAdd, Nat.reduceMul, Nat.reduceLeDiff, g1, g4, g5, g6, hN, wsucc (show n < 4611686018427387904 by omega), hltn, hk'.box hG hB]
    refine ⟨he', ?_⟩
    have : rowR h (n + 1) tr[j] = rowR h n tr[j] ++ [⟨tr[j], hrsOf h n⟩] := by simp only [rowR, List.range_succ, List.map_append]; rfl
    rw [this, ← List.append_assoc, List.map_append]; exact hg'
  · have : n = T := by omega
    subst this
    simp only [go_sem, reduceIte, reduceCtorEq, Nat.reduceEqDiff, Nat.reduceBEq, Nat.reduceAdd, Nat.reduceMul, Nat.reduceLeDiff, g1, g4, g5, g6, hN, hlt, wsucc (show j < 4611686018427387904 by omega), hlt']
    refine ⟨hE, hB, ?_⟩
    rw [take_snoc hlt', List.flatMap_append]; simpa using hG
theorem coursesR_len {h : House} {c : Course} (hc : c ∈ coursesR h) : CLen h c := by
  simp only [coursesR, List.mem_flatMap, rowR, List.mem_map] at hc
  obtain ⟨o, ho, n, _, rfl⟩ := hc
  exact ⟨truthsR_own ho, hrsGo_len _ _ _ _⟩
theorem coursesR_size (h : House) : (coursesR h).length ≤ 9000000 := by
  rw [coursesR, flat_len]
  exact Nat.mul_le_mul (truthsR_size _) (Nat.min_le_left _ _)
def allR (h : House) : List Nat := (coursesR h).map fun c => natOf (signsL h c)
theorem allR_c (h : House) (hv : HV h) : Pure Tryz.prog 32 [eH h] (.slice (eN (allR h))) := by
  intro H
  have hcs := coursesR_size h
  obtain ⟨cs, hcse⟩ : ∃ cs, cs = coursesR h := ⟨_, rfl⟩
  have hcl : ∀ c ∈ cs, CLen h c := fun c hc => coursesR_len (by rw [← hcse]; exact hc)
  rw [← hcse] at hcs
  refine fn_of hmix fc32 (by simp) ?_
  rw [ienv1]
  simp only [go_sem, reduceIte, reduceCtorEq, Nat.reduceEqDiff, Nat.reduceBEq, Nat.reduceAdd, Nat.reduceMul, Nat.reduceLeDiff, ac32, eH]
  refine v_box _ rfl fun b1 hb1 => ?_
  simp only [go_sem, reduceIte, reduceCtorEq, Nat.reduceEqDiff, Nat.reduceBEq, Nat.reduceAdd, Nat.reduceMul, Nat.reduceLeDiff]
  refine (coursesR_c h hv).go ?_
  rw [allR, ← hcse]
  simp only [go_sem, reduceIte, reduceCtorEq, Nat.reduceEqDiff, Nat.reduceBEq, Nat.reduceAdd, Nat.reduceMul, Nat.reduceLeDiff, eCL]
  refine x_for cs.length (fun j env H1 => Ext H H1 ∧ H1 b1 = some (.box [.slice (h.table.women.map eW), .slice (h.table.pieces.map eP), i6 h.table.wrong, .slice (eI h.sick), i6 h.others, i6 h.last, .slice (h.touches.map eTo), .slice (h.boiled.map eB), .slice (h.signs.map eS)]) ∧ Grown 1 H H1 (env 3) (eN ((cs.take j).map fun c => natOf (signsL h c))) ∧ env 1 = .ptr b1 0 ∧ env 4 = .slice (cs.map eCr) ∧ env 5 = i6 j ∧ env 24 = .any)
    ⟨(Ext.refl H).new hb1 _, updH_same _ _ _, .inl ⟨by simp [upd_at], rfl⟩, by simp [upd_at], by simp [upd_at], by simp [upd_at], by simp [upd_at]⟩ ?_
  rintro j env H1 hj ⟨hE, hB, hG, g1, g4, g5, hN⟩
  by_cases hlt : (j : Int) < (cs.length : Int)
  · have hlt' : j < cs.length := by omega
    simp only [go_sem, reduceIte, reduceCtorEq, Nat.reduceEqDiff, Nat.reduceBEq, Nat.reduceAdd, Nat.reduceMul, Nat.reduceLeDiff, g1, g4, g5, hN, hlt, hB, map_get (f := eCr) hlt', eCr]
    refine pgo_call (rightH_c h hv cs[j] (hcl _ (List.getElem_mem hlt'))) ?_
    simp only [go_sem, reduceIte, reduceCtorEq, Nat.reduceEqDiff, Nat.reduceBEq, Nat.reduceAdd, Nat.reduceMul, Nat.reduceLeDiff]
    refine v_append hG hE rfl (eI_good _) (one_good _) (one_cell _) (by simp [eN]; omega) (by simp [eN]; omega) ?_
    intro v' H2 hg' he' hk'
    simp only [go_sem, reduceIte, reduceCtorEq, Nat.reduceEqDiff, Nat.reduceBEq, Nat.reduceAdd, Nat.reduceMul, Nat.reduceLeDiff, g1, g4, g5, hN, wsucc (show j < 4611686018427387904 by omega), hlt', hk'.box hG hB]
    refine ⟨he', ?_⟩
    rw [take_snoc hlt', List.map_append, eN, List.map_append, eI_app]; exact hg'
  · simp only [go_sem, reduceIte, reduceCtorEq, Nat.reduceEqDiff, Nat.reduceBEq, Nat.reduceAdd, Nat.reduceMul, Nat.reduceLeDiff, g1, g4, g5, hN, hlt]
    have : j = cs.length := by omega
    subst this
    refine fin_ret 2 (by simp [upd_at, hN]) ⟨_, H, ?_, rfl, rfl⟩
    simp only [upd_at, if_true]
    rw [List.take_length] at hG
    exact hG.weaken hE
end Go.Lift

set_option linter.unusedSimpArgs false
set_option linter.unusedVariables false
namespace Go.Lift
open Go Go.Proofs
/-- What may be said of a value instead. -/
def Wk (x y : AV) : Prop := ∀ H w v, Rep H w v x → Rep H w v y
theorem Wk.refl (x : AV) : Wk x x := fun _ _ _ h => h
theorem Wk.emp : Wk .emp (.slice []) := fun _ _ _ h => Rep.weaken_emp h
theorem Wk.grow (b cap : Nat) (es : List (List AV)) : Wk (.grow b cap es) (.slice es) := fun _ _ _ h => Rep.weaken_slice h
theorem Wk.agg {xs ys : List AV} (hl : xs.length = ys.length) (h : ∀ (i : Nat) (x y : AV), xs[i]? = some x → ys[i]? = some y → Wk x y) : Wk (.agg xs) (.agg ys) := fun H w v hr => by
  cases hr with
  | agg arr cs hs hx =>
    refine .agg arr ys (by omega) fun i y hy => ?_
    have hi : i < ys.length := by
      rcases Nat.lt_or_ge i ys.length with h | h
      · exact h
      · rw [List.getElem?_eq_none h] at hy; cases hy
    have hx' : xs[i]? = some xs[i] := by simp [show i < xs.length by omega]
    exact h i _ y hx' hy H w _ (hx i _ hx')
/-- Two lists grow in places of their own. -/
def Apart (v u : AV) : Prop := ∀ b c e c' e', v = .grow b c e → u ≠ .grow b c' e'
theorem v_append_in {P : Program} {R : AV → AHeap → Prop} {sz bytes : Nat} {H0 H : AHeap} {v y : AV} {es es2 : List (List AV)} (g : Grown sz H0 H v es) (e : Ext H0 H) (hy : asSlice y = some es2) (hg : goodEls sz es) (hg2 : goodEls sz es2) (hc : cellEls es2)
    (hb : (es.length + es2.length) * bytes ≤ 140737488355328) (hb' : es.length + es2.length ≤ 9223372036854775807)
    (h : ∀ v' H', Grown sz H0 H' v' (es ++ es2) → Ext H0 H' → (∀ x o, H x = some o → (∀ n s c, o ≠ .tail n s c) → H' x = some o) →
      (∀ sz' u es', Grown sz' H0 H u es' → Apart v u → Grown sz' H0 H' u es' ∧ Apart v' u) → R v' H') : aopV P (.append sz bytes) [v, y] H R := by
  have hg3 : Grown sz (outer (fun x => ∃ cap es, v = .grow x cap es) H) H v es := g.to fun b cap es' h => outer_in ⟨cap, es', h⟩
  refine v_append hg3 (ext_outer _ _) hy hg hg2 hc hb hb' fun v' H' g' e' _ => ?_
  have hE : Ext H0 H' := fun x o hx => e' x o (by
    rw [outer_out]; exact e x o hx
    rintro ⟨cap, es, rfl⟩
    rcases g with ⟨h1, _⟩ | ⟨b', cap', h1, h2, _⟩
    · cases h1
    · cases h1; rw [hx] at h2; cases h2)
  refine h v' H' (g'.to fun b cap es' hb => ?_) hE (fun x o hx ho => e' x o ?_) fun sz' u es' gu ha => ?_
  · subst hb
    rcases g' with ⟨h1, _⟩ | ⟨b', cap', h1, h2, _⟩
    · cases h1
    · cases h1
      rcases outer_none h2 with ⟨cap, es, rfl⟩ | h3
      · rcases g with ⟨h4, _⟩ | ⟨b5, cap5, h4, h5, _⟩
        · cases h4
        · cases h4; exact h5
      · exact e.isNone h3
  · rw [outer_out]; exact hx
    rintro ⟨cap, es, rfl⟩
    rcases g with ⟨h1, _⟩ | ⟨b', cap', h1, _, h3⟩
    · cases h1
    · cases h1; rw [hx] at h3; cases h3; exact ho _ _ _ rfl
  · rcases gu with ⟨rfl, rfl⟩ | ⟨b, cap, rfl, hb0, hb1⟩
    · exact ⟨.inl ⟨rfl, rfl⟩, fun b c e c' e' _ h => by cases h⟩
    · have ho : outer (fun x => ∃ cap es, v = .grow x cap es) H b = some (.tail es'.length sz' cap) := by
        rw [outer_out]; exact hb1
        rintro ⟨cap2, es, rfl⟩
        exact ha b cap2 es cap es' rfl rfl
      refine ⟨.inr ⟨b, cap, rfl, hb0, e' b _ ho⟩, fun b' c e2 c' e3 hv' hu => ?_⟩
      cases hu
      rcases g' with ⟨h1, _⟩ | ⟨b2, cap2, h1, h2, _⟩
      · rw [hv'] at h1; cases h1
      · rw [hv'] at h1; cases h1; rw [ho] at h2; cases h2
theorem copyL_c (l : List Int) (hl : l.length ≤ 2147483648) : Pure Tryz.prog 39 [.slice (eI l)] (.slice (eI l)) := by
  intro H
  refine fn_of hmix fc39 (by simp) ?_
  rw [ienv1]
  simp only [go_sem, reduceIte, reduceCtorEq, Nat.reduceEqDiff, Nat.reduceBEq, Nat.reduceAdd, Nat.reduceMul, Nat.reduceLeDiff, ac39]
  refine v_append (H0 := H) (sz := 1) (.inl ⟨rfl, rfl⟩) (Ext.refl H) rfl (by intro e he; cases he) (eI_good l) (eI_cell l) (by simp; omega) (by simp; omega) ?_
  intro v' H' hg he hk
  simp only [go_sem, reduceIte, reduceCtorEq, Nat.reduceEqDiff, Nat.reduceBEq, Nat.reduceAdd, Nat.reduceMul, Nat.reduceLeDiff]
  refine fin_ret 2 (by simp [upd_at]) ⟨_, H, ?_, rfl, rfl⟩
  simp only [upd_at, if_true]
  have := hg.weaken he
  simpa using this
theorem copyT_c (l : List Int) (hl : l.length ≤ 2147483648) : Pure Tryz.prog 104 [.slice (eI l)] (.slice (eI l)) := by
  intro H
  refine fn_of hmix fc104 (by simp) ?_
  rw [ienv1]
  simp only [go_sem, reduceIte, reduceCtorEq, Nat.reduceEqDiff, Nat.reduceBEq, Nat.reduceAdd, Nat.reduceMul, Nat.reduceLeDiff, ac104]
  refine v_append (H0 := H) (sz := 1) (.inl ⟨rfl, rfl⟩) (Ext.refl H) rfl (by intro e he; cases he) (eI_good l) (eI_cell l) (by simp; omega) (by simp; omega) ?_
  intro v' H' hg he hk
  simp only [go_sem, reduceIte, reduceCtorEq, Nat.reduceEqDiff, Nat.reduceBEq, Nat.reduceAdd, Nat.reduceMul, Nat.reduceLeDiff]
  refine fin_ret 2 (by simp [upd_at]) ⟨_, H, ?_, rfl, rfl⟩
  simp only [upd_at, if_true]
  have := hg.weaken he
  simpa using this
theorem same_c (a b : List Int) (ha : Sm a.length) : Pure Tryz.prog 28 [.slice (eI a), .slice (eI b)] (.bool (decide (a = b))) := by
  intro H
  unfold Sm at ha
  refine fn_of hmix fc28 (by simp) ?_
  rw [ienv2]
  by_cases c1 : (a.length : Int) = (b.length : Int)
  rotate_left
  · simp only [go_sem, reduceIte, reduceCtorEq, Nat.reduceEqDiff, Nat.reduceBEq, Nat.reduceAdd, Nat.reduceMul, Nat.reduceLeDiff, ac28, c1]
    refine fin_ret' 4 (by simp [upd_at]) ?_
    simp only [upd_at, if_true, and_true, AV.bool.injEq]
    symm; rw [decide_eq_false_iff_not]
    rintro rfl; exact c1 rfl
  have c1' : a.length = b.length := by omega
  have d1 : decide ((a.length : Int) = (b.length : Int)) = true := decide_eq_true c1
  simp only [go_sem, reduceIte, reduceCtorEq, Nat.reduceEqDiff, Nat.reduceBEq, Nat.reduceAdd, Nat.reduceMul, Nat.reduceLeDiff, ac28, d1]
  refine x_for a.length (fun j env H1 => H1 = H ∧ a.take j = b.take j ∧ env 0 = .slice (eI a) ∧ env 1 = .slice (eI b) ∧ env 5 = i6 j ∧ env 26 = .any) (by simp [upd_at]) ?_
  rintro j env H1 hj ⟨rfl, hq, g0, g1, g5, hN⟩
  by_cases hlt : (j : Int) < (a.length : Int)
  · have hla : j < a.length := by omega
    have hlb : j < b.length := by omega
    by_cases he : a[j] = b[j]
    · simp only [go_sem, reduceIte, reduceCtorEq, Nat.reduceEqDiff, Nat.reduceBEq, Nat.reduceAdd, Nat.reduceMul, Nat.reduceLeDiff, g0, g1, g5, hN, hlt, eI_get hla, eI_get hlb, he, wsucc (show j < 4611686018427387904 by omega), hla]
      rw [take_snoc hla, take_snoc hlb, hq, he]
    · simp only [go_sem, reduceIte, reduceCtorEq, Nat.reduceEqDiff, Nat.reduceBEq, Nat.reduceAdd, Nat.reduceMul, Nat.reduceLeDiff, g0, g1, g5, hN, hlt, eI_get hla, eI_get hlb, he]
      refine fin_ret' 4 (by simp [upd_at, hN]) ?_
      simp only [upd_at, if_true, and_true, AV.bool.injEq]
      symm; rw [decide_eq_false_iff_not]
      rintro rfl; exact he rfl
  · simp only [go_sem, reduceIte, reduceCtorEq, Nat.reduceEqDiff, Nat.reduceBEq, Nat.reduceAdd, Nat.reduceMul, Nat.reduceLeDiff, g0, g1, g5, hN, hlt]
    have : j = a.length := by omega
    subst this
    refine fin_ret' 4 (by simp [upd_at, hN]) ?_
    rw [List.take_length, c1', List.take_length] at hq
    simp [upd_at, hq]
theorem agg71 : isAggB Tryz.prog 71 = some true := by kernel_rfl
theorem sz71 : szB Tryz.prog 71 = some 2 := by kernel_rfl
end Go.Lift

set_option linter.unusedSimpArgs false
set_option linter.unusedVariables false
namespace Go.Lift
open Go Go.Proofs
theorem agg40 : isAggB Tryz.prog 40 = some true := by kernel_rfl
theorem sz40 : szB Tryz.prog 40 = some 3 := by kernel_rfl
theorem agg45 : isAggB Tryz.prog 45 = some true := by kernel_rfl
theorem sz45 : szB Tryz.prog 45 = some 9 := by kernel_rfl
theorem eW_good (l : List Woman) : goodEls 3 (l.map eW) := by
  intro e he; rw [List.mem_map] at he; obtain ⟨x, _, rfl⟩ := he; rfl
theorem eW_cell (l : List Woman) : cellEls (l.map eW) := by
  intro e he x hx; rw [List.mem_map] at he; obtain ⟨y, _, rfl⟩ := he
  simp only [eW, List.mem_cons, List.not_mem_nil, or_false] at hx
  rcases hx with rfl | rfl | rfl <;> rfl
theorem eP_good (l : List Piece) : goodEls 2 (l.map eP) := by
  intro e he; rw [List.mem_map] at he; obtain ⟨x, _, rfl⟩ := he; rfl
theorem eP_cell (l : List Piece) : cellEls (l.map eP) := by
  intro e he x hx; rw [List.mem_map] at he; obtain ⟨y, _, rfl⟩ := he
  simp only [eP, List.mem_cons, List.not_mem_nil, or_false] at hx
  rcases hx with rfl | rfl <;> rfl
theorem eTo_good (l : List Touch) : goodEls 4 (l.map eTo) := by
  intro e he; rw [List.mem_map] at he; obtain ⟨x, _, rfl⟩ := he; rfl
theorem eTo_cell (l : List Touch) : cellEls (l.map eTo) := by
  intro e he x hx; rw [List.mem_map] at he; obtain ⟨y, _, rfl⟩ := he
  simp only [eTo, List.mem_cons, List.not_mem_nil, or_false] at hx
  rcases hx with rfl | rfl | rfl | rfl <;> rfl
theorem eS_good (l : List Sign) : goodEls 2 (l.map eS) := by
  intro e he; rw [List.mem_map] at he; obtain ⟨x, _, rfl⟩ := he; rfl
theorem eS_cell (l : List Sign) : cellEls (l.map eS) := by
  intro e he x hx; rw [List.mem_map] at he; obtain ⟨y, _, rfl⟩ := he
  simp only [eS, List.mem_cons, List.not_mem_nil, or_false] at hx
  rcases hx with rfl | rfl <;> rfl
theorem bcT (w : Int) : buildCells [.emp, .emp, .int .i64 0] [(2, 1)] [.int .i64 w] = some [.emp, .emp, i6 w] := by simp [buildCells, placeAt, AV.ok, AV.cells]
theorem bcW (a b c : Int) : buildCells [.int .i64 0, .int .i64 0, .int .i64 0] [(0, 1), (1, 2)] [.int .i64 a, .agg [.int .i64 b, .int .i64 c]] = some [i6 a, i6 b, i6 c] := by simp [buildCells, placeAt, AV.ok, AV.cells]
theorem bcP (es : List (List AV)) (b : Int) : buildCells [.emp, .int .i64 0] [(0, 1), (1, 1)] [.slice es, .int .i64 b] = some [.slice es, i6 b] := by simp [buildCells, placeAt, AV.ok, AV.cells]
theorem bcTo (a b c d : Int) : buildCells [.int .i64 0, .int .i64 0, .int .i64 0, .int .i64 0] [(0, 1), (1, 1), (2, 2)] [.int .i64 a, .int .i64 b, .agg [.int .i64 c, .int .i64 d]] = some [i6 a, i6 b, i6 c, i6 d] := by simp [buildCells, placeAt, AV.ok, AV.cells]
theorem bcS (a : Int) (b : Bool) : buildCells [.int .i64 0, .bool false] [(0, 1), (1, 1)] [.int .i64 a, .bool b] = some [i6 a, .bool b] := by simp [buildCells, placeAt, AV.ok, AV.cells]
theorem bcH (a b c : AV) (es : List (List AV)) (n m : Int) : buildCells [.emp, .emp, .int .i64 0, .emp, .int .i64 0, .int .i64 0, .emp, .emp, .emp] [(0, 3), (3, 1), (4, 1), (5, 1)] [.agg [a, b, c], .slice es, .int .i64 n, .int .i64 m] = some [a, b, c, .slice es, i6 n, i6 m, .emp, .emp, .emp] := by
  simp [buildCells, placeAt, AV.ok, AV.cells]
/-- Cells that may be said otherwise, in a smaller heap. -/
theorem settle_agg {H1 H2 : AHeap} {xs ys : List AV} (e : Ext H2 H1) (hl : xs.length = ys.length) (h : ∀ (i : Nat) (x y : AV), xs[i]? = some x → ys[i]? = some y → ∀ w v, HRel H1 w → Rep H1 w v x → Rep H2 w v y) : Settle H1 (.agg xs) H2 (.agg ys) := by
  refine ⟨e, fun w v hH hr => ?_⟩
  cases hr with
  | agg arr cs hs hx =>
    refine .agg arr ys (by omega) fun i y hy => ?_
    have hi : i < ys.length := by
      rcases Nat.lt_or_ge i ys.length with h | h
      · exact h
      · rw [List.getElem?_eq_none h] at hy; cases hy
    have hx' : xs[i]? = some xs[i] := by simp [show i < xs.length by omega]
    exact h i _ y hx' hy w _ hH (hx i _ hx')
theorem table_c (t : Table) (h1 : t.women.length ≤ 2147483648) (h2 : t.pieces.length ≤ 2147483648) (h3 : ∀ p ∈ t.pieces, p.marks.length ≤ 2147483648) : Pure Tryz.prog 46 [eT t] (eT t) := by
  intro H
  refine fn_of hmix fc46 (by simp) ?_
  rw [ienv1]
  simp only [go_sem, reduceIte, reduceCtorEq, Nat.reduceEqDiff, Nat.reduceBEq, Nat.reduceAdd, Nat.reduceMul, Nat.reduceLeDiff, ac46, eT]
  refine v_box _ rfl fun b1 hb1 => ?_
  simp only [go_sem, reduceIte, reduceCtorEq, Nat.reduceEqDiff, Nat.reduceBEq, Nat.reduceAdd, Nat.reduceMul, Nat.reduceLeDiff]
  refine v_alloc fun b2 hb2 => ?_
  have n12 : b1 ≠ b2 := fun h => by subst h; simp at hb2
  have e1 := (Ext.refl H).new hb1 (.box [.slice (t.women.map eW), .slice (t.pieces.map eP), i6 t.wrong])
  have z2 : H b2 = none := e1.isNone hb2
  have e2 := e1.new hb2 (.box [.emp, .emp, .int .i64 0])
  simp only [go_sem, reduceIte, reduceCtorEq, Nat.reduceEqDiff, Nat.reduceBEq, Nat.reduceAdd, Nat.reduceMul, Nat.reduceLeDiff, updH_ne _ _ n12, take_f', List.getElem?_cons_zero, bcT, Option.map_some]
  refine v_alloc fun b3 hb3 => ?_
  have n13 : b1 ≠ b3 := fun h => by subst h; simp [updH, n12] at hb3
  have n23 : b2 ≠ b3 := fun h => by subst h; simp at hb3
  have z3 : H b3 = none := e2.isNone hb3
  simp only [go_sem, reduceIte, reduceCtorEq, Nat.reduceEqDiff, Nat.reduceBEq, Nat.reduceAdd, Nat.reduceMul, Nat.reduceLeDiff]
  rw [v_store]
  refine ⟨rfl, rfl, by simp [AV.cells, AV.isCell], _, updH_same _ _ _, by simp, ?_⟩
  rw [c_agg, show placeAt [.emp, .emp, .int .i64 0] 0 [.emp, .emp, i6 t.wrong] = [.emp, .emp, i6 t.wrong] from rfl]
  simp only [go_sem, reduceIte, reduceCtorEq, Nat.reduceEqDiff, Nat.reduceBEq, Nat.reduceAdd, Nat.reduceMul, Nat.reduceLeDiff]
  refine x_for t.women.length (fun j env H1 => Ext H H1 ∧ H1 b1 = some (.box [.slice (t.women.map eW), .slice (t.pieces.map eP), i6 t.wrong]) ∧ H1 b2 = some (.box [.emp, .emp, .int .i64 0]) ∧ (∃ v1, H1 b3 = some (.box [v1, .emp, i6 t.wrong]) ∧ Grown 3 H H1 v1 ((t.women.take j).map eW)) ∧ env 1 = .ptr b1 0 ∧ env 2 = .ptr b2 0 ∧ env 3 = .ptr b3 0 ∧ env 4 = i6 j ∧ env 64 = .any)
    ⟨(e2.new hb3 _).upd z3 _, by rw [updH_ne _ _ n13, updH_ne _ _ n13, updH_ne _ _ n12]; exact updH_same _ _ _, by rw [updH_ne _ _ n23, updH_ne _ _ n23]; exact updH_same _ _ _, ⟨.emp, updH_same _ _ _, .inl ⟨rfl, rfl⟩⟩, by simp [upd_at], by simp [upd_at], by simp [upd_at], by simp [upd_at], by simp [upd_at]⟩ ?_
  rintro j env H1 hj ⟨hE, hB1, hB2, ⟨v1, hB3, hG⟩, g1, g2, g3, g4, hN⟩
  by_cases hlt : (j : Int) < (t.women.length : Int)
  · have hlt' : j < t.women.length := by omega
    simp only [go_sem, reduceIte, reduceCtorEq, Nat.reduceEqDiff, Nat.reduceBEq, Nat.reduceAdd, Nat.reduceMul, Nat.reduceLeDiff, g1, g2, g3, g4, hN, hlt, hB1, take_f', List.getElem?_cons_zero, map_get (f := eW) hlt', eW]
    refine v_alloc fun b5 hb5 => ?_
    have n15 : b1 ≠ b5 := fun h => by subst h; rw [hB1] at hb5; cases hb5
    have n25 : b2 ≠ b5 := fun h => by subst h; rw [hB2] at hb5; cases hb5
    have n35 : b3 ≠ b5 := fun h => by subst h; rw [hB3] at hb5; cases hb5
    simp only [go_sem, reduceIte, reduceCtorEq, Nat.reduceEqDiff, Nat.reduceBEq, Nat.reduceAdd, Nat.reduceMul, Nat.reduceLeDiff, g1, g2, g3, g4, hN]
    rw [v_store]
    refine ⟨rfl, rfl, by simp [AV.cells, AV.isCell], _, updH_same _ _ _, by simp, ?_⟩
    rw [c_agg, show placeAt [.int .i64 0, .int .i64 0, .int .i64 0] 0 [i6 t.women[j].mark, i6 t.women[j].lo, i6 t.women[j].hi] = [i6 t.women[j].mark, i6 t.women[j].lo, i6 t.women[j].hi] from rfl]
    have hE5 : ∀ o1 o2, Ext H (updH (updH H1 b5 o1) b5 o2) := fun o1 o2 => (hE.new hb5 _).upd (hE.isNone hb5) _
    have hG5 : ∀ cs o2, Grown 3 H (updH (updH H1 b5 (.box cs)) b5 o2) v1 ((t.women.take j).map eW) := fun cs o2 => (hG.new hb5 (.box cs)).store (updH_same _ _ _) o2
    simp only [go_sem, reduceIte, reduceCtorEq, Nat.reduceEqDiff, Nat.reduceBEq, Nat.reduceAdd, Nat.reduceMul, Nat.reduceLeDiff, g1, g2, g3, g4, hN, updH_ne _ _ n35, hB3, take_f', List.getElem?_cons_zero, List.getElem?_cons_succ, bc2, bcW, Option.map_some, d_bsa]
    refine v_append (hG5 _ _) (hE5 _ _) rfl (eW_good _) (eW_good [t.women[j]]) (eW_cell [t.women[j]]) (by simp; omega) (by simp; omega) ?_
    intro v' H2 hg' he' hk'
    have K1 : H2 b1 = some (.box [.slice (t.women.map eW), .slice (t.pieces.map eP), i6 t.wrong]) := hk'.box (hG5 _ _) (by rw [updH_ne _ _ n15, updH_ne _ _ n15]; exact hB1)
    have K2 : H2 b2 = some (.box [.emp, .emp, .int .i64 0]) := hk'.box (hG5 _ _) (by rw [updH_ne _ _ n25, updH_ne _ _ n25]; exact hB2)
    have K3 : H2 b3 = some (.box [v1, .emp, i6 t.wrong]) := hk'.box (hG5 _ _) (by rw [updH_ne _ _ n35, updH_ne _ _ n35]; exact hB3)
    simp only [go_sem, reduceIte, reduceCtorEq, Nat.reduceEqDiff, Nat.reduceBEq, Nat.reduceAdd, Nat.reduceMul, Nat.reduceLeDiff, g1, g2, g3, g4, hN]
    rw [v_store]
    refine ⟨hg'.cellv.1, by rw [hg'.cellv.2.1]; rfl, by rw [hg'.cellv.2.1]; intro y hy; simp at hy; subst hy; exact hg'.cellv.2.2, _, K3, by simp, ?_⟩
    rw [hg'.cellv.2.1, show placeAt [v1, .emp, i6 t.wrong] 0 [v'] = [v', .emp, i6 t.wrong] from rfl]
    simp only [go_sem, reduceIte, reduceCtorEq, Nat.reduceEqDiff, Nat.reduceBEq, Nat.reduceAdd, Nat.reduceMul, Nat.reduceLeDiff, g1, g2, g3, g4, hN, wsucc (show j < 4611686018427387904 by omega), hlt', updH_ne _ _ n13, updH_ne _ _ n23, K1, K2]
    refine ⟨he'.upd z3 _, v', rfl, ?_⟩
    rw [take_snoc hlt', List.map_append]; exact hg'.store K3 _
  have hj' : j = t.women.length := by omega
  subst hj'
  rw [List.take_length] at hG
  simp only [go_sem, reduceIte, reduceCtorEq, Nat.reduceEqDiff, Nat.reduceBEq, Nat.reduceAdd, Nat.reduceMul, Nat.reduceLeDiff, g1, g2, g3, g4, hN, hlt, hB1, take_f', List.getElem?_cons_zero]
  refine x_for t.pieces.length (fun j env H1 => Ext H H1 ∧ H1 b1 = some (.box [.slice (t.women.map eW), .slice (t.pieces.map eP), i6 t.wrong]) ∧ H1 b2 = some (.box [.emp, .emp, .int .i64 0]) ∧ (∃ v2, H1 b3 = some (.box [v1, v2, i6 t.wrong]) ∧ Grown 3 H H1 v1 (t.women.map eW) ∧ Grown 2 H H1 v2 ((t.pieces.take j).map eP) ∧ Apart v2 v1) ∧ env 1 = .ptr b1 0 ∧ env 2 = .ptr b2 0 ∧ env 3 = .ptr b3 0 ∧ env 6 = i6 j ∧ env 64 = .any)
    ⟨hE, hB1, hB2, ⟨.emp, hB3, hG, .inl ⟨rfl, rfl⟩, fun b c e c' e' h => by cases h⟩, by simp [upd_at, g1], by simp [upd_at, g2], by simp [upd_at, g3], by simp [upd_at], by simp [upd_at, hN]⟩ ?_
  clear hE hB1 hB2 hB3 hG g1 g2 g3 g4 hN hlt hj env H1
  rintro j env H1 hj ⟨hE, hB1, hB2, ⟨v2, hB3, hG1, hG2, hap⟩, g1, g2, g3, g6, hN⟩
  by_cases hlt : (j : Int) < (t.pieces.length : Int)
  · have hlt' : j < t.pieces.length := by omega
    simp only [go_sem, reduceIte, reduceCtorEq, Nat.reduceEqDiff, Nat.reduceBEq, Nat.reduceAdd, Nat.reduceMul, Nat.reduceLeDiff, g1, g2, g3, g6, hN, hlt, hB1, hB3, take_f', List.getElem?_cons_zero, List.getElem?_cons_succ, map_get (f := eP) hlt', eP]
    refine pgo_call (copyT_c t.pieces[j].marks (h3 _ (List.getElem_mem hlt'))) ?_
    simp only [go_sem, reduceIte, reduceCtorEq, Nat.reduceEqDiff, Nat.reduceBEq, Nat.reduceAdd, Nat.reduceMul, Nat.reduceLeDiff, g1, g2, g3, g6, hN, hB1, hB3, take_f', List.getElem?_cons_zero, List.getElem?_cons_succ, map_get (f := eP) hlt', eP, bcP, Option.map_some, d_bsa]
    refine v_append_in hG2 hE rfl (eP_good _) (eP_good [t.pieces[j]]) (eP_cell [t.pieces[j]]) (by simp; omega) (by simp; omega) ?_
    intro v' H2 hg' he' hk' hoth
    obtain ⟨hG1', hap'⟩ := hoth 3 v1 _ hG1 hap
    have K1 := hk' b1 _ hB1 (by intros; simp)
    have K2 := hk' b2 _ hB2 (by intros; simp)
    have K3 := hk' b3 _ hB3 (by intros; simp)
    simp only [go_sem, reduceIte, reduceCtorEq, Nat.reduceEqDiff, Nat.reduceBEq, Nat.reduceAdd, Nat.reduceMul, Nat.reduceLeDiff, g1, g2, g3, g6, hN]
    rw [v_store]
    refine ⟨hg'.cellv.1, by rw [hg'.cellv.2.1]; rfl, by rw [hg'.cellv.2.1]; intro y hy; simp at hy; subst hy; exact hg'.cellv.2.2, _, K3, by simp, ?_⟩
    rw [hg'.cellv.2.1, show placeAt [v1, v2, i6 t.wrong] (0 + 1) [v'] = [v1, v', i6 t.wrong] from rfl]
    simp only [go_sem, reduceIte, reduceCtorEq, Nat.reduceEqDiff, Nat.reduceBEq, Nat.reduceAdd, Nat.reduceMul, Nat.reduceLeDiff, g1, g2, g3, g6, hN, wsucc (show j < 4611686018427387904 by omega), hlt', updH_ne _ _ n13, updH_ne _ _ n23, K1, K2]
    refine ⟨he'.upd z3 _, v', rfl, hG1'.store K3 _, ?_, hap'⟩
    rw [take_snoc hlt', List.map_append]; exact hg'.store K3 _
  · have hj' : j = t.pieces.length := by omega
    subst hj'
    rw [List.take_length] at hG2
    simp only [go_sem, reduceIte, reduceCtorEq, Nat.reduceEqDiff, Nat.reduceBEq, Nat.reduceAdd, Nat.reduceMul, Nat.reduceLeDiff, g1, g2, g3, g6, hN, hlt, hB1, hB3, take_f', List.getElem?_cons_zero, List.getElem?_cons_succ]
    rw [v_store]
    refine ⟨rfl, rfl, by
      intro y hy
      simp only [AV.cells, List.mem_cons, List.not_mem_nil, or_false] at hy
      rcases hy with rfl | rfl | rfl
      · exact hG1.cellv.2.2
      · exact hG2.cellv.2.2
      · rfl, _, hB2, by simp, ?_⟩
    rw [c_agg, show placeAt [.emp, .emp, .int .i64 0] 0 [v1, v2, i6 t.wrong] = [v1, v2, i6 t.wrong] from rfl]
    simp only [go_sem, reduceIte, reduceCtorEq, Nat.reduceEqDiff, Nat.reduceBEq, Nat.reduceAdd, Nat.reduceMul, Nat.reduceLeDiff, g1, g2, g3, g6, hN]
    have eF := hE.upd z2 (.box [v1, v2, i6 t.wrong])
    have gF1 := hG1.store hB2 (.box [v1, v2, i6 t.wrong])
    have gF2 := hG2.store hB2 (.box [v1, v2, i6 t.wrong])
    refine fin_cell1 2 3 b2 40 _ (by simp [upd_at, hN]) agg40 sz40 (by simp [upd_at, g2]) (updH_same _ _ _) rfl ⟨eT t, H, settle_agg eF rfl fun i x y hx hy w v hH hr => ?_, rfl, rfl⟩
    match i, hx, hy with
    | 0, hx, hy => cases hx; cases hy; exact (gF1.weaken eF).2 w v hH hr
    | 1, hx, hy => cases hx; cases hy; exact (gF2.weaken eF).2 w v hH hr
    | 2, hx, hy => cases hx; cases hy; exact hr.mono (Evolve.drop eF)
end Go.Lift

set_option linter.unusedSimpArgs false
set_option linter.unusedVariables false
namespace Go.Lift
open Go Go.Proofs
/-- Sizes for which nothing overflows. -/
structure HSm (h : House) : Prop where
  women : h.table.women.length ≤ 1073741824
  pieces : h.table.pieces.length ≤ 1073741824
  marks : ∀ p ∈ h.table.pieces, p.marks.length ≤ 1073741824
  sick : h.sick.length ≤ 1073741824
  touches : h.touches.length ≤ 1073741824
  boiled : h.boiled.length ≤ 1073741824
  signs : h.signs.length ≤ 1073741824
theorem HSm.tsm {h : House} (s : HSm h) : TSm h.table := ⟨by have := s.women; unfold Sm; omega, by have := s.pieces; unfold Sm; omega, fun p hp => by have := s.marks p hp; unfold Sm; omega⟩
theorem HSm.sk {h : House} (s : HSm h) : Sm h.sick.length := by have := s.sick; unfold Sm; omega
theorem house_c (h : House) (hs : HSm h) : Pure Tryz.prog 22 [eH h] (eH h) := by
  intro H
  have q1 := hs.touches
  have q2 := hs.boiled
  have q3 := hs.signs
  refine fn_of hmix fc22 (by simp) ?_
  rw [ienv1]
  simp only [go_sem, reduceIte, reduceCtorEq, Nat.reduceEqDiff, Nat.reduceBEq, Nat.reduceAdd, Nat.reduceMul, Nat.reduceLeDiff, ac22, eH]
  refine v_box _ rfl fun b1 hb1 => ?_
  simp only [go_sem, reduceIte, reduceCtorEq, Nat.reduceEqDiff, Nat.reduceBEq, Nat.reduceAdd, Nat.reduceMul, Nat.reduceLeDiff]
  refine v_alloc fun b2 hb2 => ?_
  have n12 : b1 ≠ b2 := fun h => by subst h; simp at hb2
  have e1 := (Ext.refl H).new hb1 (.box [.slice (h.table.women.map eW), .slice (h.table.pieces.map eP), i6 h.table.wrong, .slice (eI h.sick), i6 h.others, i6 h.last, .slice (h.touches.map eTo), .slice (h.boiled.map eB), .slice (h.signs.map eS)])
  have z2 : H b2 = none := e1.isNone hb2
  have e2 := e1.new hb2 (.box [.emp, .emp, .int .i64 0, .emp, .int .i64 0, .int .i64 0, .emp, .emp, .emp])
  simp only [go_sem, reduceIte, reduceCtorEq, Nat.reduceEqDiff, Nat.reduceBEq, Nat.reduceAdd, Nat.reduceMul, Nat.reduceLeDiff, updH_ne _ _ n12, take_f', List.getElem?_cons_zero]
  refine pgo_call (table_c h.table (by have := hs.women; omega) (by have := hs.pieces; omega) (fun p hp => by have := hs.marks p hp; omega)) ?_
  simp only [go_sem, reduceIte, reduceCtorEq, Nat.reduceEqDiff, Nat.reduceBEq, Nat.reduceAdd, Nat.reduceMul, Nat.reduceLeDiff, updH_ne _ _ n12, take_f', List.getElem?_cons_zero]
  refine pgo_call (copyL_c h.sick (by have := hs.sick; omega)) ?_
  simp only [go_sem, reduceIte, reduceCtorEq, Nat.reduceEqDiff, Nat.reduceBEq, Nat.reduceAdd, Nat.reduceMul, Nat.reduceLeDiff, updH_ne _ _ n12, take_f', List.getElem?_cons_zero, eT, bcH, Option.map_some]
  refine v_alloc fun b3 hb3 => ?_
  have n13 : b1 ≠ b3 := fun h => by subst h; simp [updH, n12] at hb3
  have n23 : b2 ≠ b3 := fun h => by subst h; simp at hb3
  have z3 : H b3 = none := e2.isNone hb3
  simp only [go_sem, reduceIte, reduceCtorEq, Nat.reduceEqDiff, Nat.reduceBEq, Nat.reduceAdd, Nat.reduceMul, Nat.reduceLeDiff, updH_ne _ _ n12, updH_ne _ _ n13, take_f', List.getElem?_cons_zero]
  rw [v_store]
  refine ⟨rfl, rfl, by simp [AV.cells, AV.isCell], _, updH_same _ _ _, by simp, ?_⟩
  rw [c_agg, show placeAt [.emp, .emp, .int .i64 0, .emp, .int .i64 0, .int .i64 0, .emp, .emp, .emp] 0 [.slice (h.table.women.map eW), .slice (h.table.pieces.map eP), i6 h.table.wrong, .slice (eI h.sick), i6 h.others, i6 h.last, .emp, .emp, .emp] = [.slice (h.table.women.map eW), .slice (h.table.pieces.map eP), i6 h.table.wrong, .slice (eI h.sick), i6 h.others, i6 h.last, .emp, .emp, .emp] from rfl]
  simp only [go_sem, reduceIte, reduceCtorEq, Nat.reduceEqDiff, Nat.reduceBEq, Nat.reduceAdd, Nat.reduceMul, Nat.reduceLeDiff]
  -- the touches
  refine x_for h.touches.length (fun j env H1 => Ext H H1 ∧ H1 b1 = some (.box [.slice (h.table.women.map eW), .slice (h.table.pieces.map eP), i6 h.table.wrong, .slice (eI h.sick), i6 h.others, i6 h.last, .slice (h.touches.map eTo), .slice (h.boiled.map eB), .slice (h.signs.map eS)]) ∧ H1 b2 = some (.box [.emp, .emp, .int .i64 0, .emp, .int .i64 0, .int .i64 0, .emp, .emp, .emp]) ∧ (∃ v1, H1 b3 = some (.box [.slice (h.table.women.map eW), .slice (h.table.pieces.map eP), i6 h.table.wrong, .slice (eI h.sick), i6 h.others, i6 h.last, v1, .emp, .emp]) ∧ Grown 4 H H1 v1 ((h.touches.take j).map eTo)) ∧ env 1 = .ptr b1 0 ∧ env 2 = .ptr b2 0 ∧ env 3 = .ptr b3 0 ∧ env 4 = i6 j ∧ env 99 = .any)
    ⟨(e2.new hb3 _).upd z3 _, by rw [updH_ne _ _ n13, updH_ne _ _ n13, updH_ne _ _ n12]; exact updH_same _ _ _, by rw [updH_ne _ _ n23, updH_ne _ _ n23]; exact updH_same _ _ _, ⟨.emp, updH_same _ _ _, .inl ⟨rfl, rfl⟩⟩, by simp [upd_at], by simp [upd_at], by simp [upd_at], by simp [upd_at], by simp [upd_at]⟩ ?_
  rintro j env H1 hj ⟨hE, hB1, hB2, ⟨v1, hB3, hG⟩, g1, g2, g3, g4, hN⟩
  by_cases hlt : (j : Int) < (h.touches.length : Int)
  · have hlt' : j < h.touches.length := by omega
    simp only [go_sem, reduceIte, reduceCtorEq, Nat.reduceEqDiff, Nat.reduceBEq, Nat.reduceAdd, Nat.reduceMul, Nat.reduceLeDiff, g1, g2, g3, g4, hN, hlt, hB1, take_f', List.getElem?_cons_zero, map_get (f := eTo) hlt', eTo]
    refine v_alloc fun b5 hb5 => ?_
    have n15 : b1 ≠ b5 := fun h => by subst h; rw [hB1] at hb5; cases hb5
    have n25 : b2 ≠ b5 := fun h => by subst h; rw [hB2] at hb5; cases hb5
    have n35 : b3 ≠ b5 := fun h => by subst h; rw [hB3] at hb5; cases hb5
    simp only [go_sem, reduceIte, reduceCtorEq, Nat.reduceEqDiff, Nat.reduceBEq, Nat.reduceAdd, Nat.reduceMul, Nat.reduceLeDiff, g1, g2, g3, g4, hN]
    rw [v_store]
    refine ⟨rfl, rfl, by simp [AV.cells, AV.isCell], _, updH_same _ _ _, by simp, ?_⟩
    rw [c_agg, show placeAt [.int .i64 0, .int .i64 0, .int .i64 0, .int .i64 0] 0 [i6 h.touches[j].a, i6 h.touches[j].b, i6 h.touches[j].lo, i6 h.touches[j].hi] = [i6 h.touches[j].a, i6 h.touches[j].b, i6 h.touches[j].lo, i6 h.touches[j].hi] from rfl]
    have hE5 : ∀ o1 o2, Ext H (updH (updH H1 b5 o1) b5 o2) := fun o1 o2 => (hE.new hb5 _).upd (hE.isNone hb5) _
    have hG5 : ∀ cs o2, Grown 4 H (updH (updH H1 b5 (.box cs)) b5 o2) v1 ((h.touches.take j).map eTo) := fun cs o2 => (hG.new hb5 (.box cs)).store (updH_same _ _ _) o2
    simp only [go_sem, reduceIte, reduceCtorEq, Nat.reduceEqDiff, Nat.reduceBEq, Nat.reduceAdd, Nat.reduceMul, Nat.reduceLeDiff, g1, g2, g3, g4, hN, updH_ne _ _ n35, hB3, take_f', List.getElem?_cons_zero, List.getElem?_cons_succ, bc2, bcTo, Option.map_some, d_bsa]
    refine v_append (hG5 _ _) (hE5 _ _) rfl (eTo_good _) (eTo_good [h.touches[j]]) (eTo_cell [h.touches[j]]) (by simp; omega) (by simp; omega) ?_
    intro v' H2 hg' he' hk'
    have K1 : H2 b1 = some (.box [.slice (h.table.women.map eW), .slice (h.table.pieces.map eP), i6 h.table.wrong, .slice (eI h.sick), i6 h.others, i6 h.last, .slice (h.touches.map eTo), .slice (h.boiled.map eB), .slice (h.signs.map eS)]) := hk'.box (hG5 _ _) (by rw [updH_ne _ _ n15, updH_ne _ _ n15]; exact hB1)
    have K2 : H2 b2 = some (.box [.emp, .emp, .int .i64 0, .emp, .int .i64 0, .int .i64 0, .emp, .emp, .emp]) := hk'.box (hG5 _ _) (by rw [updH_ne _ _ n25, updH_ne _ _ n25]; exact hB2)
    have K3 : H2 b3 = some (.box [.slice (h.table.women.map eW), .slice (h.table.pieces.map eP), i6 h.table.wrong, .slice (eI h.sick), i6 h.others, i6 h.last, v1, .emp, .emp]) := hk'.box (hG5 _ _) (by rw [updH_ne _ _ n35, updH_ne _ _ n35]; exact hB3)
    simp only [go_sem, reduceIte, reduceCtorEq, Nat.reduceEqDiff, Nat.reduceBEq, Nat.reduceAdd, Nat.reduceMul, Nat.reduceLeDiff, g1, g2, g3, g4, hN]
    rw [v_store]
    refine ⟨hg'.cellv.1, by rw [hg'.cellv.2.1]; rfl, by rw [hg'.cellv.2.1]; intro y hy; simp at hy; subst hy; exact hg'.cellv.2.2, _, K3, by simp, ?_⟩
    rw [hg'.cellv.2.1, show placeAt [.slice (h.table.women.map eW), .slice (h.table.pieces.map eP), i6 h.table.wrong, .slice (eI h.sick), i6 h.others, i6 h.last, v1, .emp, .emp] (0 + 6) [v'] = [.slice (h.table.women.map eW), .slice (h.table.pieces.map eP), i6 h.table.wrong, .slice (eI h.sick), i6 h.others, i6 h.last, v', .emp, .emp] from rfl]
    simp only [go_sem, reduceIte, reduceCtorEq, Nat.reduceEqDiff, Nat.reduceBEq, Nat.reduceAdd, Nat.reduceMul, Nat.reduceLeDiff, g1, g2, g3, g4, hN, wsucc (show j < 4611686018427387904 by omega), hlt', updH_ne _ _ n13, updH_ne _ _ n23, K1, K2]
    refine ⟨he'.upd z3 _, v', rfl, ?_⟩
    rw [take_snoc hlt', List.map_append]; exact hg'.store K3 _
  have hj' : j = h.touches.length := by omega
  subst hj'
  rw [List.take_length] at hG
  simp only [go_sem, reduceIte, reduceCtorEq, Nat.reduceEqDiff, Nat.reduceBEq, Nat.reduceAdd, Nat.reduceMul, Nat.reduceLeDiff, g1, g2, g3, g4, hN, hlt, hB1, take_f', List.getElem?_cons_zero]
  -- the boilings
  refine x_for h.boiled.length (fun j env H1 => Ext H H1 ∧ H1 b1 = some (.box [.slice (h.table.women.map eW), .slice (h.table.pieces.map eP), i6 h.table.wrong, .slice (eI h.sick), i6 h.others, i6 h.last, .slice (h.touches.map eTo), .slice (h.boiled.map eB), .slice (h.signs.map eS)]) ∧ H1 b2 = some (.box [.emp, .emp, .int .i64 0, .emp, .int .i64 0, .int .i64 0, .emp, .emp, .emp]) ∧ (∃ v2, H1 b3 = some (.box [.slice (h.table.women.map eW), .slice (h.table.pieces.map eP), i6 h.table.wrong, .slice (eI h.sick), i6 h.others, i6 h.last, v1, v2, .emp]) ∧ Grown 4 H H1 v1 (h.touches.map eTo) ∧ Grown 2 H H1 v2 ((h.boiled.take j).map eB) ∧ Apart v2 v1) ∧ env 1 = .ptr b1 0 ∧ env 2 = .ptr b2 0 ∧ env 3 = .ptr b3 0 ∧ env 6 = i6 j ∧ env 99 = .any)
    ⟨hE, hB1, hB2, ⟨.emp, hB3, hG, .inl ⟨rfl, rfl⟩, fun b c e c' e' h => by cases h⟩, by simp [upd_at, g1], by simp [upd_at, g2], by simp [upd_at, g3], by simp [upd_at], by simp [upd_at, hN]⟩ ?_
  clear hE hB1 hB2 hB3 hG g1 g2 g3 g4 hN hlt hj env H1
  rintro j env H1 hj ⟨hE, hB1, hB2, ⟨v2, hB3, hG1, hG2, hap⟩, g1, g2, g3, g6, hN⟩
  by_cases hlt : (j : Int) < (h.boiled.length : Int)
  · have hlt' : j < h.boiled.length := by omega
    simp only [go_sem, reduceIte, reduceCtorEq, Nat.reduceEqDiff, Nat.reduceBEq, Nat.reduceAdd, Nat.reduceMul, Nat.reduceLeDiff, g1, g2, g3, g6, hN, hlt, hB1, hB3, take_f', List.getElem?_cons_zero, List.getElem?_cons_succ, map_get (f := eB) hlt', eB, bc2, Option.map_some, d_bsa]
    refine v_append_in hG2 hE rfl (eB_good _) (eB_good [h.boiled[j]]) (eB_cell [h.boiled[j]]) (by simp; omega) (by simp; omega) ?_
    intro v' H2 hg' he' hk' hoth
    obtain ⟨hG1', hap'⟩ := hoth 4 v1 _ hG1 hap
    have K1 := hk' b1 _ hB1 (by intros; simp)
    have K2 := hk' b2 _ hB2 (by intros; simp)
    have K3 := hk' b3 _ hB3 (by intros; simp)
    simp only [go_sem, reduceIte, reduceCtorEq, Nat.reduceEqDiff, Nat.reduceBEq, Nat.reduceAdd, Nat.reduceMul, Nat.reduceLeDiff, g1, g2, g3, g6, hN]
    rw [v_store]
    refine ⟨hg'.cellv.1, by rw [hg'.cellv.2.1]; rfl, by rw [hg'.cellv.2.1]; intro y hy; simp at hy; subst hy; exact hg'.cellv.2.2, _, K3, by simp, ?_⟩
    rw [hg'.cellv.2.1, show placeAt [.slice (h.table.women.map eW), .slice (h.table.pieces.map eP), i6 h.table.wrong, .slice (eI h.sick), i6 h.others, i6 h.last, v1, v2, .emp] (0 + 7) [v'] = [.slice (h.table.women.map eW), .slice (h.table.pieces.map eP), i6 h.table.wrong, .slice (eI h.sick), i6 h.others, i6 h.last, v1, v', .emp] from rfl]
    simp only [go_sem, reduceIte, reduceCtorEq, Nat.reduceEqDiff, Nat.reduceBEq, Nat.reduceAdd, Nat.reduceMul, Nat.reduceLeDiff, g1, g2, g3, g6, hN, wsucc (show j < 4611686018427387904 by omega), hlt', updH_ne _ _ n13, updH_ne _ _ n23, K1, K2]
    refine ⟨he'.upd z3 _, v', rfl, hG1'.store K3 _, ?_, hap'⟩
    rw [take_snoc hlt', List.map_append]; exact hg'.store K3 _
  have hj' : j = h.boiled.length := by omega
  subst hj'
  rw [List.take_length] at hG2
  simp only [go_sem, reduceIte, reduceCtorEq, Nat.reduceEqDiff, Nat.reduceBEq, Nat.reduceAdd, Nat.reduceMul, Nat.reduceLeDiff, g1, g2, g3, g6, hN, hlt, hB1, take_f', List.getElem?_cons_zero]
  -- the signs
  refine x_for h.signs.length (fun j env H1 => Ext H H1 ∧ H1 b1 = some (.box [.slice (h.table.women.map eW), .slice (h.table.pieces.map eP), i6 h.table.wrong, .slice (eI h.sick), i6 h.others, i6 h.last, .slice (h.touches.map eTo), .slice (h.boiled.map eB), .slice (h.signs.map eS)]) ∧ H1 b2 = some (.box [.emp, .emp, .int .i64 0, .emp, .int .i64 0, .int .i64 0, .emp, .emp, .emp]) ∧ (∃ v3, H1 b3 = some (.box [.slice (h.table.women.map eW), .slice (h.table.pieces.map eP), i6 h.table.wrong, .slice (eI h.sick), i6 h.others, i6 h.last, v1, v2, v3]) ∧ Grown 4 H H1 v1 (h.touches.map eTo) ∧ Grown 2 H H1 v2 (h.boiled.map eB) ∧ Grown 2 H H1 v3 ((h.signs.take j).map eS) ∧ Apart v3 v1 ∧ Apart v3 v2) ∧ env 1 = .ptr b1 0 ∧ env 2 = .ptr b2 0 ∧ env 3 = .ptr b3 0 ∧ env 7 = i6 j ∧ env 99 = .any)
    ⟨hE, hB1, hB2, ⟨.emp, hB3, hG1, hG2, .inl ⟨rfl, rfl⟩, (fun b c e c' e' h => by cases h), fun b c e c' e' h => by cases h⟩, by simp [upd_at, g1], by simp [upd_at, g2], by simp [upd_at, g3], by simp [upd_at], by simp [upd_at, hN]⟩ ?_
  clear hE hB1 hB2 hB3 hG1 hG2 hap g1 g2 g3 g6 hN hlt hj env H1
  rintro j env H1 hj ⟨hE, hB1, hB2, ⟨v3, hB3, hG1, hG2, hG3, hap1, hap2⟩, g1, g2, g3, g7, hN⟩
  by_cases hlt : (j : Int) < (h.signs.length : Int)
  · have hlt' : j < h.signs.length := by omega
    simp only [go_sem, reduceIte, reduceCtorEq, Nat.reduceEqDiff, Nat.reduceBEq, Nat.reduceAdd, Nat.reduceMul, Nat.reduceLeDiff, g1, g2, g3, g7, hN, hlt, hB1, hB3, take_f', List.getElem?_cons_zero, List.getElem?_cons_succ, map_get (f := eS) hlt', eS, bcS, Option.map_some, d_bsa]
    refine v_append_in hG3 hE rfl (eS_good _) (eS_good [h.signs[j]]) (eS_cell [h.signs[j]]) (by simp; omega) (by simp; omega) ?_
    intro v' H2 hg' he' hk' hoth
    obtain ⟨hG1', hap1'⟩ := hoth 4 v1 _ hG1 hap1
    obtain ⟨hG2', hap2'⟩ := hoth 2 v2 _ hG2 hap2
    have K1 := hk' b1 _ hB1 (by intros; simp)
    have K2 := hk' b2 _ hB2 (by intros; simp)
    have K3 := hk' b3 _ hB3 (by intros; simp)
    simp only [go_sem, reduceIte, reduceCtorEq, Nat.reduceEqDiff, Nat.reduceBEq, Nat.reduceAdd, Nat.reduceMul, Nat.reduceLeDiff, g1, g2, g3, g7, hN]
    rw [v_store]
    refine ⟨hg'.cellv.1, by rw [hg'.cellv.2.1]; rfl, by rw [hg'.cellv.2.1]; intro y hy; simp at hy; subst hy; exact hg'.cellv.2.2, _, K3, by simp, ?_⟩
    rw [hg'.cellv.2.1, show placeAt [.slice (h.table.women.map eW), .slice (h.table.pieces.map eP), i6 h.table.wrong, .slice (eI h.sick), i6 h.others, i6 h.last, v1, v2, v3] (0 + 8) [v'] = [.slice (h.table.women.map eW), .slice (h.table.pieces.map eP), i6 h.table.wrong, .slice (eI h.sick), i6 h.others, i6 h.last, v1, v2, v'] from rfl]
    simp only [go_sem, reduceIte, reduceCtorEq, Nat.reduceEqDiff, Nat.reduceBEq, Nat.reduceAdd, Nat.reduceMul, Nat.reduceLeDiff, g1, g2, g3, g7, hN, wsucc (show j < 4611686018427387904 by omega), hlt', updH_ne _ _ n13, updH_ne _ _ n23, K1, K2]
    refine ⟨he'.upd z3 _, v', rfl, hG1'.store K3 _, hG2'.store K3 _, ?_, hap1', hap2'⟩
    rw [take_snoc hlt', List.map_append]; exact hg'.store K3 _
  have hj' : j = h.signs.length := by omega
  subst hj'
  rw [List.take_length] at hG3
  simp only [go_sem, reduceIte, reduceCtorEq, Nat.reduceEqDiff, Nat.reduceBEq, Nat.reduceAdd, Nat.reduceMul, Nat.reduceLeDiff, g1, g2, g3, g7, hN, hlt, hB1, hB3, take_f', List.getElem?_cons_zero]
  rw [v_store]
  refine ⟨rfl, rfl, by
    intro y hy
    simp only [AV.cells, List.mem_cons, List.not_mem_nil, or_false] at hy
    rcases hy with rfl | rfl | rfl | rfl | rfl | rfl | rfl | rfl | rfl
    · rfl
    · rfl
    · rfl
    · rfl
    · rfl
    · rfl
    · exact hG1.cellv.2.2
    · exact hG2.cellv.2.2
    · exact hG3.cellv.2.2, _, hB2, by simp, ?_⟩
  rw [c_agg, show placeAt [.emp, .emp, .int .i64 0, .emp, .int .i64 0, .int .i64 0, .emp, .emp, .emp] 0 [.slice (h.table.women.map eW), .slice (h.table.pieces.map eP), i6 h.table.wrong, .slice (eI h.sick), i6 h.others, i6 h.last, v1, v2, v3] = [.slice (h.table.women.map eW), .slice (h.table.pieces.map eP), i6 h.table.wrong, .slice (eI h.sick), i6 h.others, i6 h.last, v1, v2, v3] from rfl]
  simp only [go_sem, reduceIte, reduceCtorEq, Nat.reduceEqDiff, Nat.reduceBEq, Nat.reduceAdd, Nat.reduceMul, Nat.reduceLeDiff, g1, g2, g3, g7, hN]
  have eF := hE.upd z2 (.box [.slice (h.table.women.map eW), .slice (h.table.pieces.map eP), i6 h.table.wrong, .slice (eI h.sick), i6 h.others, i6 h.last, v1, v2, v3])
  have gF1 := hG1.store hB2 (.box [.slice (h.table.women.map eW), .slice (h.table.pieces.map eP), i6 h.table.wrong, .slice (eI h.sick), i6 h.others, i6 h.last, v1, v2, v3])
  have gF2 := hG2.store hB2 (.box [.slice (h.table.women.map eW), .slice (h.table.pieces.map eP), i6 h.table.wrong, .slice (eI h.sick), i6 h.others, i6 h.last, v1, v2, v3])
  have gF3 := hG3.store hB2 (.box [.slice (h.table.women.map eW), .slice (h.table.pieces.map eP), i6 h.table.wrong, .slice (eI h.sick), i6 h.others, i6 h.last, v1, v2, v3])
  refine fin_cell1 2 9 b2 45 _ (by simp [upd_at, hN]) agg45 sz45 (by simp [upd_at, g2]) (updH_same _ _ _) rfl ⟨eH h, H, settle_agg eF rfl fun i x y hx hy w v hH hr => ?_, rfl, rfl⟩
  match i, hx, hy with
  | 0, hx, hy => cases hx; cases hy; exact hr.mono (Evolve.drop eF)
  | 1, hx, hy => cases hx; cases hy; exact hr.mono (Evolve.drop eF)
  | 2, hx, hy => cases hx; cases hy; exact hr.mono (Evolve.drop eF)
  | 3, hx, hy => cases hx; cases hy; exact hr.mono (Evolve.drop eF)
  | 4, hx, hy => cases hx; cases hy; exact hr.mono (Evolve.drop eF)
  | 5, hx, hy => cases hx; cases hy; exact hr.mono (Evolve.drop eF)
  | 6, hx, hy => cases hx; cases hy; exact (gF1.weaken eF).2 w v hH hr
  | 7, hx, hy => cases hx; cases hy; exact (gF2.weaken eF).2 w v hH hr
  | 8, hx, hy => cases hx; cases hy; exact (gF3.weaken eF).2 w v hH hr
end Go.Lift

set_option linter.unusedSimpArgs false
set_option linter.unusedVariables false
namespace Go.Lift
open Go Go.Proofs
def tubT : Table := ⟨[⟨1, 2, 2⟩, ⟨1, 1, 2⟩, ⟨2, 1, 1⟩], [⟨[1], 0⟩, ⟨[1, 2], 0⟩, ⟨[1], 1⟩, ⟨[2], 1⟩], 0⟩
def tubH (k : Nat) : House := ⟨tubT, [2], 1, 2, [⟨3, 4, 0, 1⟩, ⟨4, 0, 0, 1⟩, ⟨0, 1, 2, 2⟩], [], ([⟨0, false⟩, ⟨1, true⟩] : List Sign).take k⟩
def tubC (a b : Int) : Course := ⟨[0, 0, 1, 2], [a, b, 2]⟩
theorem tub_check2 : checkHouse (tubH 2) = 0 := by decide +kernel
theorem tub_play : playE (tubH 0) (tubC 1 0) = 0 ∧ truesUpto (lastOf (tubH 0) (tubC 1 0) []) 10 = [3, 4] := by decide +kernel
theorem tub_ask0 : askErrH (tubH 0) true = 0 := by decide +kernel
theorem tub_carry : carryOf (tubH 0) = [3, 3, 2, 1, 1] := by decide +kernel
theorem tub_whose : whoseS (tubH 0) = [0, 1] := by decide +kernel
theorem tub_hour : hourOK (tubH 0) 1 = true := by decide +kernel
theorem tub_boil : boilOf' (tubH 0) 1 = [0, 3, 4] := by decide +kernel
theorem tub_order : orderE (tubH 0) 1 = 0 ∧ orderOf (tubH 0) 1 = [0, 0] := by decide +kernel
theorem tub_ask1 : askErrH (tubH 1) true = 0 := by decide +kernel
theorem tub_boil1 : boilOf' (tubH 1) 1 = [] := by decide +kernel
theorem tub_first : (List.range (tubH 2).signs.length).find? (badAt (tubH 2)) = some 1 := by decide +kernel
theorem tub_leave : leaveOf (tubH 2) = [0] := by decide +kernel
end Go.Lift

set_option linter.unusedSimpArgs false
set_option linter.unusedVariables false
namespace Go.Lift
open Go Go.Proofs
def thinT (t : Table) : Bool := decide (t.women.length ≤ 30) && decide (t.pieces.length ≤ 30) && t.pieces.all fun p => decide (p.marks.length ≤ 30)
theorem thinT_c (t : Table) : Pure Tryz.prog 113 [eT t] (.bool (thinT t)) := by
  intro H
  refine fn_of hmix fc113 (by simp) ?_
  rw [ienv1]
  simp only [go_sem, reduceIte, reduceCtorEq, Nat.reduceEqDiff, Nat.reduceBEq, Nat.reduceAdd, Nat.reduceMul, Nat.reduceLeDiff, ac113, eT]
  refine v_box _ rfl fun b1 hb1 => ?_
  have e1 := (Ext.refl H).new hb1 (.box [.slice (t.women.map eW), .slice (t.pieces.map eP), i6 t.wrong])
  by_cases c1 : 30 < (t.women.length : Int)
  · simp only [go_sem, reduceIte, reduceCtorEq, Nat.reduceEqDiff, Nat.reduceBEq, Nat.reduceAdd, Nat.reduceMul, Nat.reduceLeDiff, c1]
    refine fin_ret 2 (by simp [upd_at]) ⟨_, H, Settle.refl e1, ?_, rfl⟩
    simp [upd_at, thinT, show ¬ t.women.length ≤ 30 by omega]
  by_cases c2 : 30 < (t.pieces.length : Int)
  · simp only [go_sem, reduceIte, reduceCtorEq, Nat.reduceEqDiff, Nat.reduceBEq, Nat.reduceAdd, Nat.reduceMul, Nat.reduceLeDiff, c1, c2]
    refine fin_ret 2 (by simp [upd_at]) ⟨_, H, Settle.refl e1, ?_, rfl⟩
    simp [upd_at, thinT, show ¬ t.pieces.length ≤ 30 by omega]
  simp only [go_sem, reduceIte, reduceCtorEq, Nat.reduceEqDiff, Nat.reduceBEq, Nat.reduceAdd, Nat.reduceMul, Nat.reduceLeDiff, c1, c2]
  refine x_for t.pieces.length (fun j env H1 => Ext H H1 ∧ H1 b1 = some (.box [.slice (t.women.map eW), .slice (t.pieces.map eP), i6 t.wrong]) ∧ env 1 = .ptr b1 0 ∧ env 3 = i6 j ∧ env 29 = .any ∧ (t.pieces.take j).all (fun p => decide (p.marks.length ≤ 30)) = true)
    ⟨e1, updH_same _ _ _, by simp [upd_at], by simp [upd_at], by simp [upd_at], by simp⟩ ?_
  rintro j env H1 hj ⟨hE, hB, g1, g3, hN, hq⟩
  by_cases hlt : (j : Int) < (t.pieces.length : Int)
  · have hlt' : j < t.pieces.length := by omega
    by_cases c3 : 30 < (t.pieces[j].marks.length : Int)
    · simp only [go_sem, reduceIte, reduceCtorEq, Nat.reduceEqDiff, Nat.reduceBEq, Nat.reduceAdd, Nat.reduceMul, Nat.reduceLeDiff, g1, g3, hN, hlt, hB, take_f', List.getElem?_cons_zero, map_get (f := eP) hlt', eP, c3]
      refine fin_ret 2 (by simp [upd_at, hN]) ⟨_, H, Settle.refl hE, ?_, rfl⟩
      have : t.pieces.all (fun p => decide (p.marks.length ≤ 30)) = false := List.all_eq_false.2 ⟨_, List.getElem_mem hlt', by simp; omega⟩
      simp only [upd_at, if_true, thinT, this, Bool.and_false]
    · simp only [go_sem, reduceIte, reduceCtorEq, Nat.reduceEqDiff, Nat.reduceBEq, Nat.reduceAdd, Nat.reduceMul, Nat.reduceLeDiff, g1, g3, hN, hlt, hB, take_f', List.getElem?_cons_zero, map_get (f := eP) hlt', eP, c3, wsucc (show j < 4611686018427387904 by omega), hlt']
      refine ⟨hE, ?_⟩
      rw [take_snoc hlt', List.all_append, hq]; simp; omega
  · simp only [go_sem, reduceIte, reduceCtorEq, Nat.reduceEqDiff, Nat.reduceBEq, Nat.reduceAdd, Nat.reduceMul, Nat.reduceLeDiff, g1, g3, hN, hlt, hB, take_f', List.getElem?_cons_zero]
    have : j = t.pieces.length := by omega
    subst this
    rw [List.take_length] at hq
    refine fin_ret 2 (by simp [upd_at, hN]) ⟨_, H, Settle.refl hE, ?_, rfl⟩
    simp only [upd_at, if_true, thinT, hq, Bool.and_true, AV.bool.injEq]
    rw [decide_eq_true (show t.women.length ≤ 30 by omega), decide_eq_true (show t.pieces.length ≤ 30 by omega)]; rfl
def shortH (h : House) : Bool := thinT h.table && decide (h.sick.length ≤ 30) && decide (h.touches.length ≤ 30) && decide (h.boiled.length ≤ 30) && decide (h.signs.length ≤ 30)
theorem dle (n : Nat) : decide ((n : Int) ≤ 30) = decide (n ≤ 30) := by
  rw [decide_eq_decide]; omega
theorem short_c (h : House) : Pure Tryz.prog 64 [eH h] (.bool (shortH h)) := by
  intro H
  refine fn_of hmix fc64 (by simp) ?_
  rw [ienv1]
  simp only [go_sem, reduceIte, reduceCtorEq, Nat.reduceEqDiff, Nat.reduceBEq, Nat.reduceAdd, Nat.reduceMul, Nat.reduceLeDiff, ac64, eH]
  refine v_box _ rfl fun b1 hb1 => ?_
  have e1 := (Ext.refl H).new hb1 (.box [.slice (h.table.women.map eW), .slice (h.table.pieces.map eP), i6 h.table.wrong, .slice (eI h.sick), i6 h.others, i6 h.last, .slice (h.touches.map eTo), .slice (h.boiled.map eB), .slice (h.signs.map eS)])
  simp only [go_sem, reduceIte, reduceCtorEq, Nat.reduceEqDiff, Nat.reduceBEq, Nat.reduceAdd, Nat.reduceMul, Nat.reduceLeDiff]
  refine (thinT_c h.table).go ?_
  cases c1 : thinT h.table
  · simp only [go_sem, reduceIte, reduceCtorEq, Nat.reduceEqDiff, Nat.reduceBEq, Nat.reduceAdd, Nat.reduceMul, Nat.reduceLeDiff]
    refine fin_ret 2 (by simp [upd_at]) ⟨_, H, Settle.refl e1, ?_, rfl⟩
    simp [upd_at, shortH, c1]
  simp only [go_sem, reduceIte, reduceCtorEq, Nat.reduceEqDiff, Nat.reduceBEq, Nat.reduceAdd, Nat.reduceMul, Nat.reduceLeDiff, dle]
  cases c2 : decide (h.sick.length ≤ 30)
  · simp only [go_sem, reduceIte, reduceCtorEq, Nat.reduceEqDiff, Nat.reduceBEq, Nat.reduceAdd, Nat.reduceMul, Nat.reduceLeDiff]
    refine fin_ret 2 (by simp [upd_at]) ⟨_, H, Settle.refl e1, ?_, rfl⟩
    simp only [upd_at, if_true, shortH, c1, c2, Bool.and_false, Bool.false_and]
  simp only [go_sem, reduceIte, reduceCtorEq, Nat.reduceEqDiff, Nat.reduceBEq, Nat.reduceAdd, Nat.reduceMul, Nat.reduceLeDiff, dle]
  cases c3 : decide (h.touches.length ≤ 30)
  · simp only [go_sem, reduceIte, reduceCtorEq, Nat.reduceEqDiff, Nat.reduceBEq, Nat.reduceAdd, Nat.reduceMul, Nat.reduceLeDiff]
    refine fin_ret 2 (by simp [upd_at]) ⟨_, H, Settle.refl e1, ?_, rfl⟩
    simp only [upd_at, if_true, shortH, c1, c3, Bool.and_false, Bool.false_and]
  simp only [go_sem, reduceIte, reduceCtorEq, Nat.reduceEqDiff, Nat.reduceBEq, Nat.reduceAdd, Nat.reduceMul, Nat.reduceLeDiff, dle]
  cases c4 : decide (h.boiled.length ≤ 30)
  · simp only [go_sem, reduceIte, reduceCtorEq, Nat.reduceEqDiff, Nat.reduceBEq, Nat.reduceAdd, Nat.reduceMul, Nat.reduceLeDiff]
    refine fin_ret 2 (by simp [upd_at]) ⟨_, H, Settle.refl e1, ?_, rfl⟩
    simp only [upd_at, if_true, shortH, c1, c4, Bool.and_false, Bool.false_and]
  simp only [go_sem, reduceIte, reduceCtorEq, Nat.reduceEqDiff, Nat.reduceBEq, Nat.reduceAdd, Nat.reduceMul, Nat.reduceLeDiff, dle]
  refine fin_ret 2 (by simp [upd_at]) ⟨_, H, Settle.refl e1, ?_, rfl⟩
  simp only [upd_at, if_true, shortH, c1, c2, c3, c4, Bool.true_and]
theorem short_sm {h : House} (hs : shortH h = true) : HSm h := by
  simp only [shortH, thinT, Bool.and_eq_true, decide_eq_true_eq, List.all_eq_true] at hs
  obtain ⟨⟨⟨⟨⟨⟨s1, s2⟩, s3⟩, s4⟩, s5⟩, s6⟩, s7⟩ := hs
  exact ⟨by omega, by omega, fun p hp => by have := s3 p hp; omega, by omega, by omega, by omega, by omega⟩
def thinH (h : House) : Bool := shortH h && (!decide (checkHouse h = 0) || decide (thingsW h ≤ 7))
theorem thinH_c (h : House) : Pure Tryz.prog 19 [eH h] (.bool (thinH h)) := by
  intro H
  refine fn_of hmix fc19 (by simp) ?_
  rw [ienv1]
  simp only [go_sem, reduceIte, reduceCtorEq, Nat.reduceEqDiff, Nat.reduceBEq, Nat.reduceAdd, Nat.reduceMul, Nat.reduceLeDiff, ac19, eH]
  refine v_box _ rfl fun b1 hb1 => ?_
  have e1 := (Ext.refl H).new hb1 (.box [.slice (h.table.women.map eW), .slice (h.table.pieces.map eP), i6 h.table.wrong, .slice (eI h.sick), i6 h.others, i6 h.last, .slice (h.touches.map eTo), .slice (h.boiled.map eB), .slice (h.signs.map eS)])
  simp only [go_sem, reduceIte, reduceCtorEq, Nat.reduceEqDiff, Nat.reduceBEq, Nat.reduceAdd, Nat.reduceMul, Nat.reduceLeDiff]
  refine (short_c h).go ?_
  cases c1 : shortH h
  · simp only [go_sem, reduceIte, reduceCtorEq, Nat.reduceEqDiff, Nat.reduceBEq, Nat.reduceAdd, Nat.reduceMul, Nat.reduceLeDiff]
    refine fin_ret 2 (by simp [upd_at]) ⟨_, H, Settle.refl e1, ?_, rfl⟩
    simp [upd_at, thinH, c1]
  have hs := short_sm c1
  simp only [go_sem, reduceIte, reduceCtorEq, Nat.reduceEqDiff, Nat.reduceBEq, Nat.reduceAdd, Nat.reduceMul, Nat.reduceLeDiff]
  refine (faultH_c h hs.tsm hs.sk).go ?_
  by_cases c2 : checkHouse h = 0
  rotate_left
  · simp only [go_sem, reduceIte, reduceCtorEq, Nat.reduceEqDiff, Nat.reduceBEq, Nat.reduceAdd, Nat.reduceMul, Nat.reduceLeDiff, c2]
    refine fin_ret 2 (by simp [upd_at]) ⟨_, H, Settle.refl e1, ?_, rfl⟩
    simp [upd_at, thinH, c1, c2]
  simp only [go_sem, reduceIte, reduceCtorEq, Nat.reduceEqDiff, Nat.reduceBEq, Nat.reduceAdd, Nat.reduceMul, Nat.reduceLeDiff, c2]
  refine (thingsR_c h).go ?_
  simp only [go_sem, reduceIte, reduceCtorEq, Nat.reduceEqDiff, Nat.reduceBEq, Nat.reduceAdd, Nat.reduceMul, Nat.reduceLeDiff]
  refine fin_ret 2 (by simp [upd_at]) ⟨_, H, Settle.refl e1, ?_, rfl⟩
  simp [upd_at, thinH, c1, c2]
theorem fault_c (h : House) (hs : HSm h) : Pure Tryz.prog 31 [eH h] (i6 (checkHouse h)) := by
  intro H
  refine fn_of hmix fc31 (by simp) ?_
  rw [ienv1]
  simp only [go_sem, reduceIte, reduceCtorEq, Nat.reduceEqDiff, Nat.reduceBEq, Nat.reduceAdd, Nat.reduceMul, Nat.reduceLeDiff, ac31, eH]
  refine v_box _ rfl fun b1 hb1 => ?_
  simp only [go_sem, reduceIte, reduceCtorEq, Nat.reduceEqDiff, Nat.reduceBEq, Nat.reduceAdd, Nat.reduceMul, Nat.reduceLeDiff]
  refine (faultH_c h hs.tsm hs.sk).go ?_
  simp only [go_sem, reduceIte, reduceCtorEq, Nat.reduceEqDiff, Nat.reduceBEq, Nat.reduceAdd, Nat.reduceMul, Nat.reduceLeDiff]
  refine fin_ret 2 (by simp [upd_at]) ⟨_, H, Settle.refl ((Ext.refl H).new hb1 _), ?_, rfl⟩
  simp [upd_at]
end Go.Lift

set_option linter.unusedSimpArgs false
set_option linter.unusedVariables false
namespace Go.Lift
open Go Go.Proofs
theorem agg130 : isAggB Tryz.prog 130 = some true := by kernel_rfl
theorem sz130 : szB Tryz.prog 130 = some 2 := by kernel_rfl
theorem between_c (a b : Int) : Pure Tryz.prog 125 [i6 a, i6 b] (.agg [i6 a, i6 b]) := by
  intro H
  refine fn_of hmix fc125 (by simp) ?_
  rw [ienv2]
  simp only [go_sem, reduceIte, reduceCtorEq, Nat.reduceEqDiff, Nat.reduceBEq, Nat.reduceAdd, Nat.reduceMul, Nat.reduceLeDiff, ac125]
  refine v_alloc fun b4 hb4 => ?_
  simp only [go_sem, reduceIte, reduceCtorEq, Nat.reduceEqDiff, Nat.reduceBEq, Nat.reduceAdd, Nat.reduceMul, Nat.reduceLeDiff, bc2, Option.map_some]
  rw [v_store]
  refine ⟨rfl, rfl, by simp [AV.cells, AV.isCell], _, updH_same _ _ _, by simp, ?_⟩
  rw [c_agg, show placeAt [.int .i64 0, .int .i64 0] 0 [i6 a, i6 b] = [i6 a, i6 b] from rfl]
  simp only [go_sem, reduceIte, reduceCtorEq, Nat.reduceEqDiff, Nat.reduceBEq, Nat.reduceAdd, Nat.reduceMul, Nat.reduceLeDiff]
  exact fin_cell1 4 2 b4 130 _ (by simp [upd_at]) agg130 sz130 (by simp [upd_at]) (updH_same _ _ _) rfl ⟨_, H, Settle.refl (((Ext.refl H).new hb4 _).upd hb4 _), rfl, rfl⟩
theorem bsI4 (H : AHeap) (a b c d : Int) : detV (.bslice 1) [.int .i64 a, .int .i64 b, .int .i64 c, .int .i64 d] H = some (.slice (eI [a, b, c, d])) := by simp [detV, AV.ok, AV.cells, eI]
theorem bsI5 (H : AHeap) (a b c d e : Int) : detV (.bslice 1) [.int .i64 a, .int .i64 b, .int .i64 c, .int .i64 d, .int .i64 e] H = some (.slice (eI [a, b, c, d, e])) := by simp [detV, AV.ok, AV.cells, eI]
theorem bsI3 (H : AHeap) (a b c : Int) : detV (.bslice 1) [.int .i64 a, .int .i64 b, .int .i64 c] H = some (.slice (eI [a, b, c])) := by simp [detV, AV.ok, AV.cells, eI]
theorem bsI2 (H : AHeap) (a b : Int) : detV (.bslice 1) [.int .i64 a, .int .i64 b] H = some (.slice (eI [a, b])) := by simp [detV, AV.ok, AV.cells, eI]
theorem bsI1 (H : AHeap) (a : Int) : detV (.bslice 1) [.int .i64 a] H = some (.slice (eI [a])) := by simp [detV, AV.ok, AV.cells, eI]
theorem passed_c (a b : Int) : Pure Tryz.prog 75 [i6 a, i6 b] (eC (tubC a b)) := by
  intro H
  refine fn_of hmix fc75 (by simp) ?_
  rw [ienv2]
  simp only [go_sem, reduceIte, reduceCtorEq, Nat.reduceEqDiff, Nat.reduceBEq, Nat.reduceAdd, Nat.reduceMul, Nat.reduceLeDiff, ac75]
  refine v_alloc fun b4 hb4 => ?_
  simp only [go_sem, reduceIte, reduceCtorEq, Nat.reduceEqDiff, Nat.reduceBEq, Nat.reduceAdd, Nat.reduceMul, Nat.reduceLeDiff, bsI4, bsI3, bc36, Option.map_some]
  rw [v_store]
  refine ⟨rfl, rfl, by simp [AV.cells, AV.isCell], _, updH_same _ _ _, by simp, ?_⟩
  rw [c_agg, show placeAt [.emp, .emp] 0 [.slice (eI [0, 0, 1, 2]), .slice (eI [a, b, 2])] = [.slice (eI [0, 0, 1, 2]), .slice (eI [a, b, 2])] from rfl]
  simp only [go_sem, reduceIte, reduceCtorEq, Nat.reduceEqDiff, Nat.reduceBEq, Nat.reduceAdd, Nat.reduceMul, Nat.reduceLeDiff]
  exact fin_cell1 4 2 b4 71 _ (by simp [upd_at]) agg71 sz71 (by simp [upd_at]) (updH_same _ _ _) rfl ⟨_, H, Settle.refl (((Ext.refl H).new hb4 _).upd hb4 _), rfl, rfl⟩
theorem bs3a (H : AHeap) (a b c d e f g h i : AV) : detV (.bslice 3) [.agg [a, b, c], .agg [d, e, f], .agg [g, h, i]] H = some (.slice [[a, b, c], [d, e, f], [g, h, i]]) := by simp [detV, AV.ok, AV.cells]
theorem bs2a (H : AHeap) (a b c d e f g h : AV) : detV (.bslice 2) [.agg [a, b], .agg [c, d], .agg [e, f], .agg [g, h]] H = some (.slice [[a, b], [c, d], [e, f], [g, h]]) := by simp [detV, AV.ok, AV.cells]
theorem bs2b (H : AHeap) (a b c d : AV) : detV (.bslice 2) [.agg [a, b], .agg [c, d]] H = some (.slice [[a, b], [c, d]]) := by simp [detV, AV.ok, AV.cells]
theorem bs4a (H : AHeap) (a b c d e f g h i j k l : AV) : detV (.bslice 4) [.agg [a, b, c, d], .agg [e, f, g, h], .agg [i, j, k, l]] H = some (.slice [[a, b, c, d], [e, f, g, h], [i, j, k, l]]) := by simp [detV, AV.ok, AV.cells]
theorem bcS0 (a : Int) : buildCells [.int .i64 0, .bool false] [(0, 1)] [.int .i64 a] = some [i6 a, .bool false] := by simp [buildCells, placeAt, AV.ok, AV.cells]
theorem bcP0 (es : List (List AV)) : buildCells [.emp, .int .i64 0] [(0, 1)] [.slice es] = some [.slice es, .int .i64 0] := by simp [buildCells, placeAt, AV.ok, AV.cells]
theorem bcT2 (a b : List (List AV)) : buildCells [.emp, .emp, .int .i64 0] [(0, 1), (1, 1)] [.slice a, .slice b] = some [.slice a, .slice b, .int .i64 0] := by simp [buildCells, placeAt, AV.ok, AV.cells]
theorem bcH2 (a b c : AV) (d f g : List (List AV)) (n m : Int) : buildCells [.emp, .emp, .int .i64 0, .emp, .int .i64 0, .int .i64 0, .emp, .emp, .emp] [(0, 3), (3, 1), (4, 1), (5, 1), (6, 1), (8, 1)] [.agg [a, b, c], .slice d, .int .i64 n, .int .i64 m, .slice f, .slice g] = some [a, b, c, .slice d, i6 n, i6 m, .slice f, .emp, .slice g] := by
  simp [buildCells, placeAt, AV.ok, AV.cells]
theorem tub_c (k : Nat) (hk : k ≤ 2) : Pure Tryz.prog 74 [i6 k] (eH (tubH k)) := by
  intro H
  refine fn_of hmix fc74 (by simp) ?_
  rw [ienv1]
  simp only [go_sem, reduceIte, reduceCtorEq, Nat.reduceEqDiff, Nat.reduceBEq, Nat.reduceAdd, Nat.reduceMul, Nat.reduceLeDiff, ac74]
  refine v_alloc fun b2 hb2 => ?_
  simp only [go_sem, reduceIte, reduceCtorEq, Nat.reduceEqDiff, Nat.reduceBEq, Nat.reduceAdd, Nat.reduceMul, Nat.reduceLeDiff, bcS0, bcS, bs2b, bc2, bcW, bs3a, bsI1, bsI2, bcP0, bcP, bs2a, bcT2, Option.map_some]
  refine v_alloc fun b4 hb4 => ?_
  have n24 : b2 ≠ b4 := fun h => by subst h; simp at hb4
  have e1 := (Ext.refl H).new hb2 (.box [.emp, .emp, .int .i64 0, .emp, .int .i64 0, .int .i64 0, .emp, .emp, .emp])
  have z4 : H b4 = none := e1.isNone hb4
  simp only [go_sem, reduceIte, reduceCtorEq, Nat.reduceEqDiff, Nat.reduceBEq, Nat.reduceAdd, Nat.reduceMul, Nat.reduceLeDiff]
  rw [v_store]
  refine ⟨rfl, rfl, by simp [AV.cells, AV.isCell], _, updH_same _ _ _, by simp, ?_⟩
  have e2 : ∀ o1 o2, Ext H (updH (updH (updH H b2 (.box [.emp, .emp, .int .i64 0, .emp, .int .i64 0, .int .i64 0, .emp, .emp, .emp])) b4 o1) b4 o2) := fun o1 o2 => (e1.new hb4 o1).upd z4 o2
  simp only [go_sem, reduceIte, reduceCtorEq, Nat.reduceEqDiff, Nat.reduceBEq, Nat.reduceAdd, Nat.reduceMul, Nat.reduceLeDiff, placeAt, List.append_nil, List.nil_append, List.drop_nil, bsI1]
  refine pgo_call (between_c 0 1) ?_
  simp only [go_sem, reduceIte, reduceCtorEq, Nat.reduceEqDiff, Nat.reduceBEq, Nat.reduceAdd, Nat.reduceMul, Nat.reduceLeDiff, bcTo, Option.map_some]
  refine pgo_call (between_c 0 1) ?_
  simp only [go_sem, reduceIte, reduceCtorEq, Nat.reduceEqDiff, Nat.reduceBEq, Nat.reduceAdd, Nat.reduceMul, Nat.reduceLeDiff, bcTo, Option.map_some]
  refine pgo_call (between_c 2 2) ?_
  simp only [go_sem, reduceIte, reduceCtorEq, Nat.reduceEqDiff, Nat.reduceBEq, Nat.reduceAdd, Nat.reduceMul, Nat.reduceLeDiff, bcTo, Option.map_some, bs4a, show (0 : Int) ≤ (k : Int) by omega, show (k : Int) ≤ ((2 : Nat) : Int) by omega, bcH2]
  rw [v_store]
  refine ⟨rfl, rfl, by simp [AV.cells, AV.isCell], _, by rw [updH_ne _ _ n24, updH_ne _ _ n24]; exact updH_same _ _ _, by simp, ?_⟩
  rw [c_agg]
  simp only [go_sem, reduceIte, reduceCtorEq, Nat.reduceEqDiff, Nat.reduceBEq, Nat.reduceAdd, Nat.reduceMul, Nat.reduceLeDiff]
  refine fin_cell1 2 9 b2 45 _ (by simp [upd_at]) agg45 sz45 (by simp [upd_at]) (updH_same _ _ _) rfl ⟨eH (tubH k), H, settle_agg ((e2 _ _).upd hb2 _) rfl fun i x y hx hy w v hH hr => ?_, rfl, rfl⟩
  match i, hx, hy with
  | 0, hx, hy => cases hx; cases hy; exact hr.mono (Evolve.drop ((e2 _ _).upd hb2 _))
  | 1, hx, hy => cases hx; cases hy; exact hr.mono (Evolve.drop ((e2 _ _).upd hb2 _))
  | 2, hx, hy => cases hx; cases hy; exact hr.mono (Evolve.drop ((e2 _ _).upd hb2 _))
  | 3, hx, hy => cases hx; cases hy; exact hr.mono (Evolve.drop ((e2 _ _).upd hb2 _))
  | 4, hx, hy => cases hx; cases hy; exact hr.mono (Evolve.drop ((e2 _ _).upd hb2 _))
  | 5, hx, hy => cases hx; cases hy; exact hr.mono (Evolve.drop ((e2 _ _).upd hb2 _))
  | 6, hx, hy => cases hx; cases hy; exact hr.mono (Evolve.drop ((e2 _ _).upd hb2 _))
  | 7, hx, hy => cases hx; cases hy; exact (Rep.weaken_emp hr).mono (Evolve.drop ((e2 _ _).upd hb2 _))
  | 8, hx, hy =>
    cases hx; cases hy
    have : List.map eS (List.take k [⟨0, false⟩, ⟨1, true⟩]) = List.take k [[i6 0, .bool false], [i6 1, .bool true]] := by rw [List.map_take]; rfl
    rw [show (tubH k).signs = List.take k [⟨0, false⟩, ⟨1, true⟩] from rfl, this]
    exact hr.mono (Evolve.drop ((e2 _ _).upd hb2 _))
theorem tub_sm (k : Nat) : HSm (tubH k) := by
  have hm : ∀ p ∈ (tubH k).table.pieces, p.marks.length ≤ 1073741824 := by
    intro p hp
    simp only [tubH, tubT, List.mem_cons, List.not_mem_nil, or_false] at hp
    rcases hp with rfl | rfl | rfl | rfl <;> simp
  refine ⟨by simp [tubH, tubT], by simp [tubH, tubT], hm, by simp [tubH], by simp [tubH], by simp [tubH], ?_⟩
  simp [tubH]; omega
theorem awake_c : Pure Tryz.prog 20 [] (.bool true) := by
  intro H
  refine fn_of hmix fc20 (by simp) ?_
  rw [ienv0]
  have u0 := tub_c 0 (by omega)
  have u1 := tub_c 1 (by omega)
  have u2 := tub_c 2 (by omega)
  have s0 := tub_sm 0
  have s1 := tub_sm 1
  have s2 := tub_sm 2
  have k1 := playS_c (tubH 0) s0.tsm s0.sk (tubC 1 0) (by unfold Sm; simp [tubC]) (by unfold Sm; simp [tubC])
  rw [tub_play.1, tub_play.2] at k1
  have k2 := carry_c (tubH 0) s0.tsm s0.sk
  rw [tub_ask0, tub_carry] at k2
  have k3 := whoseS_c (tubH 0) s0.tsm s0.sk
  rw [tub_ask0, tub_whose] at k3
  have k4 := boil_c (tubH 0) s0.tsm s0.sk 1
  rw [tub_hour, tub_ask0, tub_boil] at k4
  have k5 := order_c (tubH 0) s0.tsm s0.sk 1
  rw [tub_order.1, tub_order.2] at k5
  have k6 := boil_c (tubH 1) s1.tsm s1.sk 1
  rw [show hourOK (tubH 1) 1 = true from tub_hour, tub_ask1, tub_boil1] at k6
  have k7 := first_c (tubH 2) s2.tsm s2.sk
  rw [firstR, if_pos tub_check2, tub_first] at k7
  have k8 := leave_c (tubH 2) s2.tsm s2.sk
  rw [tub_check2, tub_leave] at k8
  simp only [go_sem, reduceIte, reduceCtorEq, Nat.reduceEqDiff, Nat.reduceBEq, Nat.reduceAdd, Nat.reduceMul, Nat.reduceLeDiff, ac20]
  refine u0.go ?_
  simp only [go_sem, reduceIte, reduceCtorEq, Nat.reduceEqDiff, Nat.reduceBEq, Nat.reduceAdd, Nat.reduceMul, Nat.reduceLeDiff]
  refine (passed_c 1 0).go ?_
  simp only [go_sem, reduceIte, reduceCtorEq, Nat.reduceEqDiff, Nat.reduceBEq, Nat.reduceAdd, Nat.reduceMul, Nat.reduceLeDiff]
  refine k1.go ?_
  simp only [go_sem, reduceIte, reduceCtorEq, Nat.reduceEqDiff, Nat.reduceBEq, Nat.reduceAdd, Nat.reduceMul, Nat.reduceLeDiff, listR, List.getElem?_cons_zero, List.getElem?_cons_succ]
  refine u0.go ?_
  simp only [go_sem, reduceIte, reduceCtorEq, Nat.reduceEqDiff, Nat.reduceBEq, Nat.reduceAdd, Nat.reduceMul, Nat.reduceLeDiff]
  refine k2.go ?_
  simp only [go_sem, reduceIte, reduceCtorEq, Nat.reduceEqDiff, Nat.reduceBEq, Nat.reduceAdd, Nat.reduceMul, Nat.reduceLeDiff, listR, List.getElem?_cons_zero, List.getElem?_cons_succ]
  refine u0.go ?_
  simp only [go_sem, reduceIte, reduceCtorEq, Nat.reduceEqDiff, Nat.reduceBEq, Nat.reduceAdd, Nat.reduceMul, Nat.reduceLeDiff]
  refine k3.go ?_
  simp only [go_sem, reduceIte, reduceCtorEq, Nat.reduceEqDiff, Nat.reduceBEq, Nat.reduceAdd, Nat.reduceMul, Nat.reduceLeDiff, listR, List.getElem?_cons_zero, List.getElem?_cons_succ]
  refine u0.go ?_
  simp only [go_sem, reduceIte, reduceCtorEq, Nat.reduceEqDiff, Nat.reduceBEq, Nat.reduceAdd, Nat.reduceMul, Nat.reduceLeDiff]
  refine k4.go ?_
  simp only [go_sem, reduceIte, reduceCtorEq, Nat.reduceEqDiff, Nat.reduceBEq, Nat.reduceAdd, Nat.reduceMul, Nat.reduceLeDiff, listR, List.getElem?_cons_zero, List.getElem?_cons_succ]
  refine u0.go ?_
  simp only [go_sem, reduceIte, reduceCtorEq, Nat.reduceEqDiff, Nat.reduceBEq, Nat.reduceAdd, Nat.reduceMul, Nat.reduceLeDiff]
  refine k5.go ?_
  simp only [go_sem, reduceIte, reduceCtorEq, Nat.reduceEqDiff, Nat.reduceBEq, Nat.reduceAdd, Nat.reduceMul, Nat.reduceLeDiff, listR, List.getElem?_cons_zero, List.getElem?_cons_succ]
  refine u1.go ?_
  simp only [go_sem, reduceIte, reduceCtorEq, Nat.reduceEqDiff, Nat.reduceBEq, Nat.reduceAdd, Nat.reduceMul, Nat.reduceLeDiff]
  refine k6.go ?_
  simp only [go_sem, reduceIte, reduceCtorEq, Nat.reduceEqDiff, Nat.reduceBEq, Nat.reduceAdd, Nat.reduceMul, Nat.reduceLeDiff, listR, List.getElem?_cons_zero, List.getElem?_cons_succ]
  refine u2.go ?_
  simp only [go_sem, reduceIte, reduceCtorEq, Nat.reduceEqDiff, Nat.reduceBEq, Nat.reduceAdd, Nat.reduceMul, Nat.reduceLeDiff]
  refine k7.go ?_
  simp only [go_sem, reduceIte, reduceCtorEq, Nat.reduceEqDiff, Nat.reduceBEq, Nat.reduceAdd, Nat.reduceMul, Nat.reduceLeDiff, listR, List.getElem?_cons_zero, List.getElem?_cons_succ]
  refine u2.go ?_
  simp only [go_sem, reduceIte, reduceCtorEq, Nat.reduceEqDiff, Nat.reduceBEq, Nat.reduceAdd, Nat.reduceMul, Nat.reduceLeDiff]
  refine k8.go ?_
  simp only [go_sem, reduceIte, reduceCtorEq, Nat.reduceEqDiff, Nat.reduceBEq, Nat.reduceAdd, Nat.reduceMul, Nat.reduceLeDiff, listR, List.getElem?_cons_zero, List.getElem?_cons_succ, bsI2]
  refine (same_c [3, 4] [3, 4] (by unfold Sm; simp)).go ?_
  simp only [go_sem, reduceIte, reduceCtorEq, Nat.reduceEqDiff, Nat.reduceBEq, Nat.reduceAdd, Nat.reduceMul, Nat.reduceLeDiff, bsI5]
  refine (same_c [3, 3, 2, 1, 1] [3, 3, 2, 1, 1] (by unfold Sm; simp)).go ?_
  simp only [go_sem, reduceIte, reduceCtorEq, Nat.reduceEqDiff, Nat.reduceBEq, Nat.reduceAdd, Nat.reduceMul, Nat.reduceLeDiff, bsI2]
  refine (same_c [0, 1] [0, 1] (by unfold Sm; simp)).go ?_
  simp only [go_sem, reduceIte, reduceCtorEq, Nat.reduceEqDiff, Nat.reduceBEq, Nat.reduceAdd, Nat.reduceMul, Nat.reduceLeDiff, bsI3]
  refine (same_c [0, 3, 4] [0, 3, 4] (by unfold Sm; simp)).go ?_
  simp only [go_sem, reduceIte, reduceCtorEq, Nat.reduceEqDiff, Nat.reduceBEq, Nat.reduceAdd, Nat.reduceMul, Nat.reduceLeDiff, bsI2]
  refine (same_c [0, 0] [0, 0] (by unfold Sm; simp)).go ?_
  simp only [go_sem, reduceIte, reduceCtorEq, Nat.reduceEqDiff, Nat.reduceBEq, Nat.reduceAdd, Nat.reduceMul, Nat.reduceLeDiff, bsI1, show ((0 : Nat) : Int) = 0 from rfl, show ((1 : Nat) : Int) = 1 from rfl]
  refine (same_c [0] [0] (by unfold Sm; simp)).go ?_
  simp only [go_sem, reduceIte, reduceCtorEq, Nat.reduceEqDiff, Nat.reduceBEq, Nat.reduceAdd, Nat.reduceMul, Nat.reduceLeDiff]
  refine fin_ret' 0 (by simp [upd_at]) ?_
  simp [upd_at]
end Go.Lift

set_option linter.unusedSimpArgs false
set_option linter.unusedVariables false
namespace Go.Lift
open Go Go.Proofs
inductive Sh where
  | int (k : IntKind)
  | bool
  | slice (ss : List Sh)
mutual
inductive Fits : Sh → AV → Prop
  | int (k : IntKind) (n : Int) (h : (Lit.int k n).wf = true) : Fits (.int k) (.int k n)
  | bool (b : Bool) : Fits .bool (.bool b)
  | slice (ss : List Sh) (es : List (List AV)) (h : ∀ e ∈ es, FitsL ss e) : Fits (.slice ss) (.slice es)
inductive FitsL : List Sh → List AV → Prop
  | nil : FitsL [] []
  | cons (s : Sh) (ss : List Sh) (x : AV) (xs : List AV) (h : Fits s x) (t : FitsL ss xs) : FitsL (s :: ss) (x :: xs)
end
theorem FitsL.len : ∀ {ss : List Sh} {xs : List AV}, FitsL ss xs → xs.length = ss.length
  | [], [], _ => rfl
  | _ :: _, _ :: _, .cons _ _ _ _ _ t => by simp [FitsL.len t]
theorem FitsL.app : ∀ {a b : List Sh} {xs ys : List AV}, FitsL a xs → FitsL b ys → FitsL (a ++ b) (xs ++ ys)
  | [], _, [], _, _, h => h
  | _ :: _, _, _ :: _, _, .cons s ss x xs h t, k => .cons s _ x _ h (FitsL.app t k)
def shapesFs (P : Program) (sh : TypeId → Option (List Sh)) : Nat → List Field → Option (List Sh)
  | _, [] => some []
  | off, f :: fs => match sh f.type, shapesFs P sh (off + P.cellsOf f.type) fs with
    | some a, some b => if f.offset = off ∧ a.length = P.cellsOf f.type then some (a ++ b) else none
    | _, _ => none
def shapes (P : Program) : Nat → TypeId → Option (List Sh)
  | 0, _ => none
  | n + 1, t => match P.underlying t with
    | some .bool => some [.bool]
    | some (.int k) => some [.int k]
    | some (.slice e) => (shapes P n e).bind fun ss => if P.cellsOf e = ss.length ∧ 0 < ss.length then some [.slice ss] else none
    | some (.struct fs) => (shapesFs P (shapes P n) 0 fs.toList).bind fun ss => if P.cellsOf t = ss.length then some ss else none
    | _ => none
abbrev H0 : AHeap := fun _ => none
def Dec (w : World) (ss : List Sh) (cs : List Value) : Prop := ∃ xs : List AV, FitsL ss xs ∧ xs.length = cs.length ∧ ∀ (i : Nat) (v : Value) (x : AV), cs[i]? = some v → xs[i]? = some x → Rep H0 w v x
theorem Dec.one {w : World} {s : Sh} {v : Value} {x : AV} (hf : Fits s x) (hr : Rep H0 w v x) : Dec w [s] [v] := by
  refine ⟨[x], .cons _ _ _ _ hf .nil, rfl, fun i u y hu hy => ?_⟩
  cases i with
  | zero => cases hu; cases hy; exact hr
  | succ i => simp at hu
theorem Dec.app {w : World} {a b : List Sh} {cs ds : List Value} (h : Dec w a cs) (k : Dec w b ds) : Dec w (a ++ b) (cs ++ ds) := by
  obtain ⟨xs, h1, h2, h3⟩ := h
  obtain ⟨ys, k1, k2, k3⟩ := k
  refine ⟨xs ++ ys, h1.app k1, by simp [h2, k2], fun i v x hv hx => ?_⟩
  by_cases hi : i < cs.length
  · rw [List.getElem?_append_left hi] at hv
    rw [List.getElem?_append_left (by omega)] at hx
    exact h3 i v x hv hx
  · rw [List.getElem?_append_right (by omega)] at hv
    rw [List.getElem?_append_right (by omega), h2] at hx
    exact k3 _ v x hv hx
theorem addOff {a : Addr} (ha : a.spot = none) (n : Nat) : a.add n = ⟨a.block, a.off + n, none⟩ := by
  obtain ⟨b, o, s⟩ := a
  simp only at ha
  subst ha
  unfold Addr.add
  split
  · rename_i h; subst h; rfl
  · rfl
theorem decode {H : Type} {enc : TypeId × Value → H} {P : Program} {w : World} {base : Nat} {held : Bool} : ∀ (n : Nat) (t : TypeId) (ss : List Sh) (fuel : Nat) (cs : List Value) (x : DataW H × List MemPlace), shapes P n t = some ss →
    DataW.trod enc P w base (fun _ => true) held fuel t cs = some x → Dec w ss cs := by
  intro n
  induction n with
  | zero => intro t ss fuel cs x h; cases h
  | succ n ih =>
    intro t ss fuel cs x hs h
    simp only [shapes] at hs
    split at hs
    · rename_i ht
      cases hs
      obtain ⟨b, rfl, _⟩ := DataW.trod_bool ht h
      exact Dec.one (.bool b) (.bool b)
    · rename_i k ht
      cases hs
      obtain ⟨m, rfl, _, hw⟩ := DataW.trod_int ht h
      exact Dec.one (.int k m hw) (.int k m)
    · rename_i e ht
      rw [Option.bind_eq_some_iff] at hs
      obtain ⟨se, hse, hs⟩ := hs
      split at hs
      · rename_i hc
        cases hs
        rcases Deep.open_slice ht h with ⟨rfl, _⟩ | ⟨a, len, cap, m, n', D, Pl, rfl, _, hlc, _, hm, _, hx⟩
        · exact Dec.one (.slice se [] (by simp)) (.nil none 0)
        rw [if_pos rfl] at hm
        have hm' := hm.symm
        subst hm'
        rcases Nat.eq_zero_or_pos len with rfl | hpos
        · exact Dec.one (.slice se [] (by simp)) (.nil (some a) _)
        obtain ⟨X, hX⟩ := Deep.choose_lt (α := List Value × List AV) (n := len) (p := fun i y => w.cells? base (a.add (i * P.cellsOf e)) (P.cellsOf e) = some y.1 ∧ FitsL se y.2 ∧ y.2.length = y.1.length ∧ ∀ (j : Nat) (v : Value) (x : AV), y.1[j]? = some v → y.2[j]? = some x → Rep H0 w v x) (fun i hi => by
          obtain ⟨cs', h1, h2⟩ := hx i (by omega)
          obtain ⟨xs, f1, f2, f3⟩ := ih e se n' cs' _ hse h2
          exact ⟨(cs', xs), h1, f1, f2, f3⟩)
        have hsz : ∀ i, i < len → (X i).2.length = P.cellsOf e := fun i hi => by rw [(hX i hi).2.1.len, hc.1]
        have hspot : a.spot = none := by
          have h0 := (World.cells?_some (hX 0 hpos).1)
          have h1 := h0.2.2 0 (by omega)
          have h2 : (X 0).1[0]? = some ((X 0).1[0]'(by rw [h0.2.1]; omega)) := by simp
          rw [h2] at h1
          have := World.cell?_spot h1
          rw [Nat.zero_mul] at this
          simpa [Addr.add] using this
        have hrep : Rep H0 w (.slice (some ⟨a.block, a.off, none⟩) ((List.range len).map fun i => (X i).2).length cap) (.slice ((List.range len).map fun i => (X i).2)) := by
          refine Rep.slice a.block a.off cap (P.cellsOf e) ((List.range len).map fun i => (X i).2) (fun i j => (X i).1.getD j undef) (by simp; omega) ?_ ?_ ?_
          · intro el hel
            rw [List.mem_map] at hel
            obtain ⟨i, hi, rfl⟩ := hel
            exact hsz i (List.mem_range.1 hi)
          · intro i j hi hj
            have hi' : i < len := by simpa using hi
            have h0 := World.cells?_some (hX i hi').1
            have h1 := h0.2.2 j hj
            rw [addOff hspot, addOff rfl] at h1
            refine ⟨.inl rfl, ?_⟩
            simp only at h1
            rw [h1, List.getD_eq_getElem?_getD, List.getElem?_eq_getElem (by rw [h0.2.1]; exact hj)]; rfl
          · intro i j el y hel hy
            have hi' : i < len := by
              rcases Nat.lt_or_ge i len with h | h
              · exact h
              · rw [List.getElem?_eq_none (by simp; omega)] at hel; cases hel
            rw [List.getElem?_map, List.getElem?_range hi'] at hel
            simp only [Option.map_some, Option.some.injEq] at hel
            subst hel
            have hj : j < (X i).2.length := by
              rcases Nat.lt_or_ge j (X i).2.length with h | h
              · exact h
              · rw [List.getElem?_eq_none h] at hy; cases hy
            have hj' : j < (X i).1.length := by rw [← (hX i hi').2.2.1]; exact hj
            exact (hX i hi').2.2.2 j _ y (by rw [List.getD_eq_getElem?_getD, List.getElem?_eq_getElem hj']; rfl) hy
        have ha : a = ⟨a.block, a.off, none⟩ := by cases a; simp only at hspot; rw [hspot]
        rw [← ha] at hrep
        have hl : ((List.range len).map fun i => (X i).2).length = len := by simp
        rw [hl] at hrep
        exact Dec.one (.slice se _ (fun el hel => by rw [List.mem_map] at hel; obtain ⟨i, hi, rfl⟩ := hel; exact (hX i (List.mem_range.1 hi)).2.1)) hrep
      · cases hs
    · rename_i fs ht
      rw [Option.bind_eq_some_iff] at hs
      obtain ⟨sf, hsf, hs⟩ := hs
      split at hs
      · rename_i hc
        cases hs
        obtain ⟨xs, n', rfl, rfl, hl, hlen, hf⟩ := DataW.trod_struct ht h
        have key : ∀ (l : List Field) (off : Nat) (sg : List Sh), (∀ f ∈ l, ∃ y, DataW.trod enc P w base (fun _ => true) held n' f.type ((cs.drop f.offset).take (P.cellsOf f.type)) = some y) → shapesFs P (shapes P n) off l = some sg → Dec w sg ((cs.drop off).take sg.length) := by
          intro l
          induction l with
          | nil => intro off sg _ hg; cases hg; exact ⟨[], .nil, by simp, fun i v x hv => by simp at hv⟩
          | cons f l ihl =>
            intro off sg hall hg
            simp only [shapesFs] at hg
            split at hg
            · rename_i sa sb ha hb
              split at hg
              · rename_i hcond
                cases hg
                obtain ⟨y, hy⟩ := hall f List.mem_cons_self
                have d1 := ih f.type sa n' _ y ha hy
                have d2 := ihl _ sb (fun g hg => hall g (List.mem_cons_of_mem _ hg)) hb
                rw [hcond.1, ← hcond.2] at d1
                rw [← hcond.2] at d2
                have := d1.app d2
                have e : (cs.drop off).take (sa ++ sb).length = (cs.drop off).take sa.length ++ (cs.drop (off + sa.length)).take sb.length := by
                  rw [List.length_append, List.take_add, List.drop_drop]
                rw [e]; exact this
              · cases hg
            · cases hg
        have hall : ∀ f ∈ fs.toList, ∃ y, DataW.trod enc P w base (fun _ => true) held n' f.type ((cs.drop f.offset).take (P.cellsOf f.type)) = some y := by
          intro f hfm
          obtain ⟨i, hi, rfl⟩ := List.getElem_of_mem hfm
          have hi' : i < fs.size := by simpa using hi
          have := hf i fs[i] (by simp [hi'])
          rw [List.getElem?_eq_getElem (by omega)] at this
          exact ⟨_, by simpa using this⟩
        have d := key fs.toList 0 ss hall hsf
        rw [List.drop_zero, List.take_of_length_le (by rw [hl, hc]; exact Nat.le_refl _)] at d
        exact d
      · cases hs
    · cases hs
end Go.Lift

set_option linter.unusedSimpArgs false
set_option linter.unusedVariables false
namespace Go.Lift
open Go Go.Proofs Go.Proofs.YthnfcdkiaihfcaaGreat
open Go.ChangeShapes Go.WideShapes Go.ChangeAt Go.RowKit
def isSt (P : Program) (t : TypeId) : Bool := match P.underlying t with
  | some (.struct _) => true
  | _ => false
def ArgOf (P : Program) (t : TypeId) (x : AV) : Prop := ∃ ss xs, shapes P 9 t = some ss ∧ FitsL ss xs ∧ ((isSt P t = true ∧ x = .agg xs) ∨ (isSt P t = false ∧ xs = [x]))
inductive ArgsOf (P : Program) : List TypeId → List AV → Prop
  | nil : ArgsOf P [] []
  | cons (t : TypeId) (ts : List TypeId) (x : AV) (xs : List AV) (h : ArgOf P t x) (r : ArgsOf P ts xs) : ArgsOf P (t :: ts) (x :: xs)
section
variable {H : Type} {enc : TypeId × Value → H} {P : Program} {w : World}
theorem arg_of {t : TypeId} {v : Value} {d : DataW H} {p : List MemPlace} {base : Nat} (hv : Value.okWide P w .any base t v) (h : DataW.Trod enc P w 0 (fun _ => true) true t v d p) (hs : (shapes P 9 t).isSome = true) : ∃ x, ArgOf P t x ∧ Rep H0 w v x := by
  obtain ⟨fuel, h⟩ := h
  obtain ⟨ss, hss⟩ := Option.isSome_iff_exists.1 hs
  obtain ⟨xs, h1, h2, h3⟩ := decode 9 t ss fuel _ _ hss h
  cases hst : isSt P t with
  | true =>
    have hst' := hst
    unfold isSt at hst'
    split at hst'
    · rename_i fs ht
      obtain ⟨cs, rfl, _⟩ := okWide_struct ht hv
      refine ⟨.agg xs, ⟨ss, xs, hss, h1, .inl ⟨hst, rfl⟩⟩, .agg cs xs (by simpa [Value.cells] using h2.symm) fun i x hx => ?_⟩
      have hi : i < cs.size := by
        rcases Nat.lt_or_ge i xs.length with hh | hh
        · rw [h2] at hh; simpa [Value.cells] using hh
        · rw [List.getElem?_eq_none hh] at hx; cases hx
      exact h3 i _ x (by simp [Value.cells, hi]) hx
    · cases hst'
  | false =>
    have one : v.cells.toList = [v] := by
      have hst' := hst
      unfold isSt at hst'
      simp only [shapes] at hss
      split at hss
      · rename_i ht; obtain ⟨b, rfl⟩ := okWide_bool ht hv; rfl
      · rename_i k ht; obtain ⟨n, rfl⟩ := okWide_int ht hv; rfl
      · rename_i e ht; obtain ⟨a, l, c, rfl⟩ := okWide_slice ht hv; rfl
      · rename_i fs ht; rw [ht] at hst'; cases hst'
      · cases hss
    rw [one] at h2 h3
    match xs, h2 with
    | [x], _ => exact ⟨x, ⟨ss, [x], hss, h1, .inr ⟨hst, rfl⟩⟩, h3 0 v x rfl rfl⟩
theorem args_of : ∀ {ts : List TypeId} {vs : List Value} {ds : List (DataW H)} {p : List MemPlace} {base : Nat}, DataW.TrodAll enc P w 0 (fun _ => true) true ts vs ds p →
    (∀ (j : Nat) t v, ts[j]? = some t → vs[j]? = some v → Value.okWide P w .any base t v) → (∀ t ∈ ts, (shapes P 9 t).isSome = true) →
    ∃ xs, ArgsOf P ts xs ∧ vs.length = xs.length ∧ ds.length = ts.length ∧ ∀ (i : Nat) v x, vs[i]? = some v → xs[i]? = some x → Rep H0 w v x
  | [], _, _, _, _, h, _, _ => by
    obtain ⟨rfl, rfl, rfl⟩ := trodAll_nil h
    exact ⟨[], .nil, rfl, rfl, fun i v x hv => by simp at hv⟩
  | t :: ts, _, _, _, _, h, hval, hs => by
    obtain ⟨v, vs1, d, ds1, a, b, rfl, rfl, rfl, h1, h2⟩ := trodAll_cons h
    obtain ⟨x, hx, hr⟩ := arg_of (hval 0 t v rfl rfl) h1 (hs t List.mem_cons_self)
    obtain ⟨xs, k1, k2, k3, k4⟩ := args_of h2 (fun j u y hu hy => hval (j + 1) u y (by simpa using hu) (by simpa using hy)) (fun u hu => hs u (List.mem_cons_of_mem _ hu))
    refine ⟨x :: xs, .cons _ _ _ _ hx k1, by simp [k2], by simp [k3], fun i y z hy hz => ?_⟩
    cases i with
    | zero => cases hy; cases hz; exact hr
    | succ i => exact k4 i y z (by simpa using hy) (by simpa using hz)
theorem trodAll_below (hl : laidOutB P = true) {W W' : World} (hb : Below W.heap.size W W') : ∀ {ts : List TypeId} {vs : List Value} {ds : List (DataW H)} {p : List MemPlace}, (∀ t ∈ ts, P.readableRec t = true ∧ t < P.types.size) →
    DataW.TrodAll enc P W 0 (fun _ => true) true ts vs ds p → (∀ x ∈ p, x.block < W.heap.size) → ∀ sp : Nat → Bool, (∀ x ∈ p, sp x.block = true) → DataW.TrodAll enc P W' 0 sp true ts vs ds p
  | [], _, _, _, _, h, _, sp, _ => by
    obtain ⟨rfl, rfl, rfl⟩ := trodAll_nil h
    rfl
  | t :: ts, _, _, _, ht, h, hlt, sp, hsp => by
    obtain ⟨v, vs1, d, ds1, a, b, rfl, rfl, rfl, h1, h2⟩ := trodAll_cons h
    refine ⟨a, b, ?_, trodAll_below hl hb (fun u hu => ht u (List.mem_cons_of_mem _ hu)) h2 (fun x hx => hlt x (by simp [hx])) sp (fun x hx => hsp x (by simp [hx])), rfl⟩
    exact WideElems.Trod_stays hl (ht t List.mem_cons_self).1 (ht t List.mem_cons_self).2 h1 (fun x hx => hb.same (hlt x (by simp [hx]))) (fun x hx => hsp x (by simp [hx]))
theorem post_of_below {f : Func} {s : ChangeSpec} {W W' : World} {args : Array Value} {ds gs : List (DataW H)} {before : List MemPlace} {tb : TypeId}
    (hl : laidOutB P = true) (hp : ∀ t ∈ f.params.toList, P.readableRec t = true ∧ t < P.types.size) (hv : s.vars = []) (hr : f.resultTypes = #[tb]) (htb : P.underlying tb = some .bool)
    (hs : (s.fn H ds).results = [.lit (.bool true)] ∧ (s.fn H ds).args = ds ∧ (s.fn H ds).vars = [])
    (hW : DataW.Whole enc P f.params.toList s.vars false W args.toList ds gs before) (hb : Below W.heap.size W W') :
    s.post enc P f false true false false W args (.bool true) W' := by
  have hWW := hW
  have hlt : ∀ x ∈ before, x.block < W.heap.size := fun x hx => by simpa using hW.lt x hx
  obtain ⟨p, q, hA, hV, rfl, hfz, _⟩ := hW
  rw [hv] at hV
  obtain ⟨rfl, rfl⟩ := trodVars_none hV
  rw [List.append_nil] at hfz hlt hWW
  have args' := trodAll_below hl hb hp hA hlt
  have e1 : (Value.bool true).resultList f.resultTypes.size = [.bool true] := by rw [hr]; rfl
  have res : ∀ b sp hd, DataW.TrodAll enc P W' b sp hd f.resultTypes.toList ((Value.bool true).resultList f.resultTypes.size) [.lit (.bool true)] [] := fun b sp hd => by
    rw [e1, hr]
    exact trodAll_mk1 (shut_bool htb true)
  refine ⟨ds, [], p, [], p, [], hWW, by rw [List.append_nil, hs.1]; exact res _ _ _, ?_, ?_, hb.frame _, fun h => by cases h⟩
  · rw [List.append_nil, hs.2.1]
    exact args' _ (fun x hx => by simpa using hlt x hx)
  · rw [List.append_nil, hs.2.2, hv]; rfl
end
theorem below_of {W W' : World} (h : Evolve H0 W H0 W') : Below W.heap.size W W' := ⟨h.os, h.tape, h.output, h.size, fun k hk => (h.block k hk rfl).2⟩
theorem calls_pure {P : Program} {k : FuncId} {xs : List AV} {W : World} {args : Array Value} (call : Pure P k xs (.bool true)) (h2 : args.toList.length = xs.length) (h4 : ∀ (i : Nat) v x, args.toList[i]? = some v → xs[i]? = some x → Rep H0 W v x) :
    Calls P k args W fun e W' => e = .returned (.bool true) ∧ Below W.heap.size W W' := by
  have hc := (call H0).2 W args (fun b o hb => by cases hb) ⟨by simpa using h2, fun i x hx => by
    have hi : i < args.size := by
      rcases Nat.lt_or_ge i xs.length with hh | hh
      · have : args.toList.length = args.size := by simp
        omega
      · rw [List.getElem?_eq_none hh] at hx; cases hx
    have := h4 i (args[i]) x (by simp [hi]) hx
    simpa [Array.getD, hi] using this⟩
  refine (hc.calls fun k => show (WF none).room k from room_wide k).mono fun e W' he => ?_
  obtain ⟨v, rfl, r, H', ⟨rfl, rfl⟩, _, hrep, hev⟩ := he
  cases hrep
  exact ⟨rfl, below_of hev⟩
theorem own_knob : ownKnob Tryz.prog.godebug = none := by kernel_rfl
theorem laid_out : laidOutB Tryz.prog = true := by kernel_rfl
theorem und4 : Tryz.prog.underlying 4 = some .bool := by kernel_rfl
def parsOK (P : Program) (fn : Func) : Bool := fn.params.toList.all fun t => P.readableRec t && decide (t < P.types.size) && (shapes P 9 t).isSome
set_option maxRecDepth 100000 in
theorem law_step {k : FuncId} {fn : Func} {s : ChangeSpec} {dom : List PathCond} {os : Os} (started : os.Started) {H : Type} {enc : TypeId × Value → H}
    (hf : Tryz.checked.prog.funcs[k]? = some fn) (hno : Tryz.checked.prog.inits.idxOf? k = none) (hr : fn.resultTypes = #[4]) (hp : parsOK Tryz.prog fn = true) (hv : s.vars = [])
    (hs : ∀ ds : List (DataW H), ds.length = fn.params.size → (s.fn H ds).results = [.lit (.bool true)] ∧ (s.fn H ds).args = ds ∧ (s.fn H ds).vars = [])
    (wit : ∃ (w : World) (tape : Tape) (i : Input), w.os = os ∧ (w.forCall tape i).Shaped Tryz.checked.prog ∧ i.vars = [] ∧ Input.okWide Tryz.checked.prog (w.forCall tape i) .any w.heap.size k i ∧
      s.pre6 enc Tryz.checked.prog fn dom false (w.forCall tape i).memory i.args ∧ ({} : Assume).holds Tryz.checked.prog (lone (Frame.enter Tryz.checked.prog k i.args .normal) [] (w.forCall tape i)))
    (call : ∀ xs, ArgsOf Tryz.prog fn.params.toList xs → Pure Tryz.prog k xs (.bool true)) :
    ReturnsInHanded {} Tryz.checked os k .any (s.pre6 enc Tryz.checked.prog fn dom false) (s.post enc Tryz.checked.prog fn false true false false) := by
  refine returnsInHanded_of_change (C := Tryz.checked) own_knob started hno hf wit ?_
  intro W base args ds gs before hval hW _ _
  simp only [parsOK, List.all_eq_true, Bool.and_eq_true, decide_eq_true_eq] at hp
  have hWW := hW
  obtain ⟨p, q, hA, hV, _⟩ := hW
  have hV' := hV
  rw [hv] at hV'
  obtain ⟨rfl, rfl⟩ := trodVars_none hV'
  have hA' : DataW.TrodAll enc Tryz.prog W 0 (fun _ => true) true fn.params.toList args.toList ds p := hA
  have hval' : ∀ (j : Nat) t v, fn.params.toList[j]? = some t → args.toList[j]? = some v → Value.okWide Tryz.prog W .any base t v := fun j t v ht hvv => hval j t v (by rw [← Array.getElem?_toList]; exact ht) (by rw [← Array.getElem?_toList]; exact hvv)
  obtain ⟨xs, h1, h2, h3, h4⟩ := args_of (P := Tryz.prog) hA' hval' (fun t ht => (hp t ht).2)
  refine (calls_pure (call xs h1) h2 h4).mono fun e W' ⟨he, hb⟩ => ?_
  subst he
  exact ⟨_, rfl, post_of_below laid_out (fun t ht => (hp t ht).1) hv hr und4 (hs ds (by rw [h3]; simp)) hWW hb⟩
end Go.Lift

set_option linter.unusedSimpArgs false
set_option linter.unusedVariables false
namespace Go.Lift
open Go Go.Proofs Go.Proofs.YthnfcdkiaihfcaaGreat
theorem lift_list {α : Type} {f : α → List AV} {ss : List Sh} (h : ∀ e, FitsL ss e → ∃ a, e = f a) : ∀ es : List (List AV), (∀ e ∈ es, FitsL ss e) → ∃ l : List α, es = l.map f
  | [], _ => ⟨[], rfl⟩
  | e :: es, k => by
    obtain ⟨a, rfl⟩ := h e (k e List.mem_cons_self)
    obtain ⟨l, rfl⟩ := lift_list h es (fun x hx => k x (List.mem_cons_of_mem _ hx))
    exact ⟨a :: l, rfl⟩
theorem fit_int {k : IntKind} {x : AV} (h : Fits (.int k) x) : ∃ n, x = .int k n ∧ (Lit.int k n).wf = true := by cases h with | int _ n hn => exact ⟨n, rfl, hn⟩
theorem fit_i6 {x : AV} (h : Fits (.int .i64) x) : ∃ n, x = i6 n := by cases h with | int _ n hn => exact ⟨n, rfl⟩
theorem fit_slice {α : Type} {f : α → List AV} {ss : List Sh} (h : ∀ e, FitsL ss e → ∃ a, e = f a) {x : AV} (hx : Fits (.slice ss) x) : ∃ l : List α, x = .slice (l.map f) := by
  cases hx with
  | slice _ es hes => obtain ⟨l, rfl⟩ := lift_list h es hes; exact ⟨l, rfl⟩
theorem fitL_int {k : IntKind} (e : List AV) (h : FitsL [.int k] e) : ∃ n : Int, e = [.int k n] ∧ (Lit.int k n).wf = true := by
  cases h with
  | cons _ _ x _ h t =>
    cases t
    obtain ⟨n, rfl, hn⟩ := fit_int h
    exact ⟨n, rfl, hn⟩
theorem fit_eI {x : AV} (hx : Fits (.slice [.int .i64]) x) : ∃ l : List Int, x = .slice (eI l) := fit_slice (f := fun n => [i6 n]) (fun e he => by obtain ⟨n, rfl, _⟩ := fitL_int e he; exact ⟨n, rfl⟩) hx
theorem fit_eW {x : AV} (hx : Fits (.slice [.int .i64, .int .i64, .int .i64]) x) : ∃ l : List Woman, x = .slice (l.map eW) := fit_slice (fun e he => by
  cases he with
  | cons _ _ x1 _ h1 t =>
    cases t with
    | cons _ _ x2 _ h2 t =>
      cases t with
      | cons _ _ x3 _ h3 t =>
        cases t
        obtain ⟨a, rfl⟩ := fit_i6 h1
        obtain ⟨b, rfl⟩ := fit_i6 h2
        obtain ⟨c, rfl⟩ := fit_i6 h3
        exact ⟨⟨a, b, c⟩, rfl⟩) hx
theorem fit_eP {x : AV} (hx : Fits (.slice [.slice [.int .i64], .int .i64]) x) : ∃ l : List Piece, x = .slice (l.map eP) := fit_slice (fun e he => by
  cases he with
  | cons _ _ x1 _ h1 t =>
    cases t with
    | cons _ _ x2 _ h2 t =>
      cases t
      obtain ⟨a, rfl⟩ := fit_eI h1
      obtain ⟨b, rfl⟩ := fit_i6 h2
      exact ⟨⟨a, b⟩, rfl⟩) hx
theorem fit_eB {x : AV} (hx : Fits (.slice [.int .i64, .int .i64]) x) : ∃ l : List Boiling, x = .slice (l.map eB) := fit_slice (fun e he => by
  cases he with
  | cons _ _ x1 _ h1 t =>
    cases t with
    | cons _ _ x2 _ h2 t =>
      cases t
      obtain ⟨a, rfl⟩ := fit_i6 h1
      obtain ⟨b, rfl⟩ := fit_i6 h2
      exact ⟨⟨a, b⟩, rfl⟩) hx
theorem fitL_eS (e : List AV) (he : FitsL [.int .i64, .bool] e) : ∃ s, e = eS s := by
  cases he with
  | cons _ _ x1 _ h1 t =>
    cases t with
    | cons _ _ x2 _ h2 t =>
      cases t
      obtain ⟨a, rfl⟩ := fit_i6 h1
      cases h2 with
      | bool b => exact ⟨⟨a, b⟩, rfl⟩
theorem fit_eS {x : AV} (hx : Fits (.slice [.int .i64, .bool]) x) : ∃ l : List Sign, x = .slice (l.map eS) := fit_slice fitL_eS hx
theorem fit_eTo {x : AV} (hx : Fits (.slice [.int .i64, .int .i64, .int .i64, .int .i64]) x) : ∃ l : List Touch, x = .slice (l.map eTo) := fit_slice (fun e he => by
  cases he with
  | cons _ _ x1 _ h1 t =>
    cases t with
    | cons _ _ x2 _ h2 t =>
      cases t with
      | cons _ _ x3 _ h3 t =>
        cases t with
        | cons _ _ x4 _ h4 t =>
          cases t
          obtain ⟨a, rfl⟩ := fit_i6 h1
          obtain ⟨b, rfl⟩ := fit_i6 h2
          obtain ⟨c, rfl⟩ := fit_i6 h3
          obtain ⟨d, rfl⟩ := fit_i6 h4
          exact ⟨⟨a, b, c, d⟩, rfl⟩) hx
def houseSh : List Sh := [.slice [.int .i64, .int .i64, .int .i64], .slice [.slice [.int .i64], .int .i64], .int .i64, .slice [.int .i64], .int .i64, .int .i64, .slice [.int .i64, .int .i64, .int .i64, .int .i64], .slice [.int .i64, .int .i64], .slice [.int .i64, .bool]]
theorem fit_house {xs : List AV} (h : FitsL houseSh xs) : ∃ h : House, AV.agg xs = eH h := by
  unfold houseSh at h
  cases h with
  | cons _ _ x1 _ h1 t =>
  cases t with
  | cons _ _ x2 _ h2 t =>
  cases t with
  | cons _ _ x3 _ h3 t =>
  cases t with
  | cons _ _ x4 _ h4 t =>
  cases t with
  | cons _ _ x5 _ h5 t =>
  cases t with
  | cons _ _ x6 _ h6 t =>
  cases t with
  | cons _ _ x7 _ h7 t =>
  cases t with
  | cons _ _ x8 _ h8 t =>
  cases t with
  | cons _ _ x9 _ h9 t =>
  cases t
  obtain ⟨a1, rfl⟩ := fit_eW h1
  obtain ⟨a2, rfl⟩ := fit_eP h2
  obtain ⟨a3, rfl⟩ := fit_i6 h3
  obtain ⟨a4, rfl⟩ := fit_eI h4
  obtain ⟨a5, rfl⟩ := fit_i6 h5
  obtain ⟨a6, rfl⟩ := fit_i6 h6
  obtain ⟨a7, rfl⟩ := fit_eTo h7
  obtain ⟨a8, rfl⟩ := fit_eB h8
  obtain ⟨a9, rfl⟩ := fit_eS h9
  exact ⟨⟨⟨a1, a2, a3⟩, a4, a5, a6, a7, a8, a9⟩, rfl⟩
theorem sh31 : shapes Tryz.prog 9 31 = some houseSh := by kernel_rfl
theorem st31 : isSt Tryz.prog 31 = true := by kernel_rfl
theorem arg_st {P : Program} {t : TypeId} {x : AV} {ss : List Sh} (h : ArgOf P t x) (hs : shapes P 9 t = some ss) (ht : isSt P t = true) : ∃ xs, FitsL ss xs ∧ x = .agg xs := by
  obtain ⟨ss', xs, h1, h2, h3⟩ := h
  rw [hs] at h1; cases h1
  rcases h3 with ⟨_, h3⟩ | ⟨h3, _⟩
  · exact ⟨xs, h2, h3⟩
  · rw [ht] at h3; cases h3
theorem arg31 {x : AV} (h : ArgOf Tryz.prog 31 x) : ∃ h : House, x = eH h := by
  obtain ⟨xs, h1, rfl⟩ := arg_st h sh31 st31
  exact fit_house h1
end Go.Lift

set_option linter.unusedSimpArgs false
set_option linter.unusedVariables false
namespace Go.Lift
open Go Go.Proofs
def firstN (h : House) (all : List Nat) : Int := match (List.range h.signs.length).find? fun n => !canN all (2 ^ (n + 1) - 1) with
  | some i => i
  | none => -1
theorem w_shl2 {i : Nat} (hi : i < 60) : IntKind.i64.wrap (2 * 2 ^ Nat.min i IntKind.i64.bits) = ((2 ^ (i + 1) : Nat) : Int) := by
  have h := w_shl (a := 2) (i := i) (by omega) (by
    have := Nat.pow_lt_pow_right (a := 2) (by omega) (show i + 1 < 62 by omega)
    rw [Nat.pow_succ] at this; omega)
  rw [Nat.pow_succ, Nat.mul_comm]
  exact h
theorem pred_pow {i : Nat} (hi : i < 62) : IntKind.i64.wrap (((2 ^ i : Nat) : Int) - 1) = ((2 ^ i - 1 : Nat) : Int) := by
  have h1 : 1 ≤ 2 ^ i := Nat.one_le_two_pow
  have h2 := two_lt hi
  generalize 2 ^ i = q at h1 h2
  rw [w64 (by omega) (by omega)]; omega
theorem firstR_c (h : House) (hsg : h.signs.length ≤ 5) (all : List Nat) (hl : Sm all.length) (ha : ∀ a ∈ all, a < 2 ^ 62) : Pure Tryz.prog 34 [eH h, .slice (eN all)] (i6 (firstN h all)) := by
  intro H
  refine fn_of hmix fc34 (by simp) ?_
  rw [ienv2]
  simp only [go_sem, reduceIte, reduceCtorEq, Nat.reduceEqDiff, Nat.reduceBEq, Nat.reduceAdd, Nat.reduceMul, Nat.reduceLeDiff, List.getElem?_cons_zero, List.getElem?_cons_succ, bne_self_eq_false, Int.reduceEq, ac34, eH]
  refine v_box _ rfl fun b2 hb2 => ?_
  simp only [go_sem, reduceIte, reduceCtorEq, Nat.reduceEqDiff, Nat.reduceBEq, Nat.reduceAdd, Nat.reduceMul, Nat.reduceLeDiff, List.getElem?_cons_zero, List.getElem?_cons_succ, bne_self_eq_false, Int.reduceEq]
  refine x_for h.signs.length (fun j env H1 => Ext H H1 ∧ H1 b2 = some (.box [.slice (h.table.women.map eW), .slice (h.table.pieces.map eP), i6 h.table.wrong, .slice (eI h.sick), i6 h.others, i6 h.last, .slice (h.touches.map eTo), .slice (h.boiled.map eB), .slice (h.signs.map eS)]) ∧ env 1 = .slice (eN all) ∧ env 2 = .ptr b2 0 ∧ env 5 = i6 j ∧ env 21 = .any ∧ (List.range j).find? (fun n => !canN all (2 ^ (n + 1) - 1)) = none)
    ⟨(Ext.refl H).new hb2 _, updH_same _ _ _, by simp [upd_at], by simp [upd_at], by simp [upd_at], by simp [upd_at], by simp⟩ ?_
  rintro j env H1 hj ⟨hE, hB, g1, g2, g5, hN, hq⟩
  by_cases hlt : (j : Int) < (h.signs.length : Int)
  · have hlt' : j < h.signs.length := by omega
    have hp := two_lt (show j + 1 < 62 by omega)
    simp only [↓aops_nil, ↓aops_go, ↓aops_go0, ↓aops_if, ↓k_cont, ↓k_cont0, g_tt, g_ff, g_tf, g_ft, g_u, ↓apre_nil, ↓apre_if, ↓apre_go, pgo_det, Tag.isCall, popt_some, gp_tt, gp_ff, gp_tf, gp_ft, gp_u, ↓k_draw, opt_some, List.map_cons, List.map_nil, ev, upd_at, ↓x_skip, ↓x_label, ↓x_ret, ↓x_exit, ↓x_seq, ↓x_block, ↓x_ops, ↓x_cond, x_sel_t, x_sel_f, ↓x_draw, ↓q_kseq_n, ↓q_kseq_r, ↓q_kseq_e, ↓q_block_n, ↓q_block_r, ↓q_block_e, ↓q_loop_n, ↓q_loop_r, ↓q_loop_e, ↓l_done, d_mov, d_pick, d_not, d_nilchk, d_nilchk', d_conv, d_add, d_sub, d_mul, d_quo, d_rem, d_shl, d_shr, d_and, d_or, d_andnot, d_eql, d_neq, d_lss, d_leq, d_gtr, d_geq, d_eqb, d_neqb, d_mkfunc, d_load, d_fieldaddr, d_fieldaddr', d_field_t, d_field_f, d_idxaddr, d_idxaddr_g, elemO_some, d_idxaddr_m, d_arraddr, d_arraddr', d_idx_f, d_sub_s, d_sub_g, d_arrsub, d_arrall, d_extract, d_len, d_len_g, d_len_e, d_len_m, d_min, d_build, d_bslice0, d_bs1, d_bs2, d_bsa, d_eqagg, v_mov, v_pick, v_not, v_nilchk, v_conv, v_bin, v_binb, v_eqagg, v_mkfunc, v_load, v_fieldaddr, v_field, v_idxaddr, v_arraddr, v_idx, v_sub, v_arrsub, v_arrall, v_extract, v_len, v_min, v_build, v_bslice, v_lookup, v_call, v_callv, Nat.reduceEqDiff, Nat.reduceBEq, reduceIte, ite_true, ite_false, Bool.false_eq_true, Bool.true_eq_false, if_true, if_false, decide_eq_true_eq, decide_eq_false_iff_not, decide_true, decide_false, Nat.zero_add, Nat.add_zero, Nat.reduceAdd, reduceCtorEq, eq_self, not_true_eq_false, not_false_eq_true, Bool.not_true, Bool.not_false, Nat.reduceMul, List.length_cons, List.length_nil, at_elem, take_f, take_tt, Int.toNat_natCast, Option.some.injEq, Option.bind_some, Int.natCast_nonneg, true_and, and_true, and_self, ↓q_for_n, ↓q_for_r, ↓q_for_e, eI_len, List.length_map, at_obj, obj_box, updH_same, Nat.reduceLeDiff, Nat.zero_le, Nat.le_refl, List.drop_zero, List.drop_succ_cons, List.take_succ_cons, List.take_zero, c_agg, c_int, c_bool, c_slice, c_emp, c_grow, ↓l_one0, ↓l_one1, ↓k_l0, ↓k_l1, stab_nil, stab_cons, stab_if, st_tt, st_ff, st_tf, st_ft, st_u, List.getElem?_cons_zero, List.getElem?_cons_succ, g1, g2, g5, hN, hlt, hB, take_f', u64w (show j < 2 ^ 62 by omega), w_shl2 (show j < 60 by omega), show ¬ ((j : Int) < 0) by omega, pred_pow (show j + 1 < 62 by omega)]
    refine (can_c all (2 ^ (j + 1) - 1) hl ha (by omega)).go ?_
    cases d : canN all (2 ^ (j + 1) - 1)
    · simp only [go_sem, reduceIte, reduceCtorEq, Nat.reduceEqDiff, Nat.reduceBEq, Nat.reduceAdd, Nat.reduceMul, Nat.reduceLeDiff, List.getElem?_cons_zero, List.getElem?_cons_succ, bne_self_eq_false, Int.reduceEq, g5, hN]
      refine fin_ret 4 (by simp [upd_at, hN]) ⟨_, H, Settle.refl hE, ?_, rfl⟩
      have : (List.range h.signs.length).find? (fun n => !canN all (2 ^ (n + 1) - 1)) = some j := by
        rw [List.find?_range_eq_some]
        rw [List.find?_range_eq_none] at hq
        exact ⟨by simp [d], List.mem_range.2 hlt', fun k hk => hq k hk⟩
      simp [upd_at, firstN, this]
    · simp only [go_sem, reduceIte, reduceCtorEq, Nat.reduceEqDiff, Nat.reduceBEq, Nat.reduceAdd, Nat.reduceMul, Nat.reduceLeDiff, List.getElem?_cons_zero, List.getElem?_cons_succ, bne_self_eq_false, Int.reduceEq, g1, g2, g5, hN, hB, wsucc (show j < 4611686018427387904 by omega), hlt']
      refine ⟨hE, ?_⟩
      simp [List.find?_append, hq, d]
  · have : j = h.signs.length := by omega
    subst this
    simp only [go_sem, reduceIte, reduceCtorEq, Nat.reduceEqDiff, Nat.reduceBEq, Nat.reduceAdd, Nat.reduceMul, Nat.reduceLeDiff, List.getElem?_cons_zero, List.getElem?_cons_succ, bne_self_eq_false, Int.reduceEq, g1, g2, g5, hN, hlt, hB, take_f']
    refine fin_ret 4 (by simp [upd_at, hN]) ⟨_, H, Settle.refl hE, ?_, rfl⟩
    simp [upd_at, firstN, hq]
/-- The best list among those by bits. -/
def bestAt (ok : Nat → Bool) (best : List Int) (n : Nat) : List Int := if shorterL (bitsL n) best = true ∧ ok n = true then bitsL n else best
def bestUpto (ok : Nat → Bool) (full j : Nat) : List Int := (List.range j).foldl (bestAt ok) (bitsL full)
def bestOf (ok : Nat → Bool) (full : Nat) : List Int := bestUpto ok full (full + 1)
theorem bestUpto_succ (ok : Nat → Bool) (full j : Nat) : bestUpto ok full (j + 1) = bestAt ok (bestUpto ok full j) j := by
  simp [bestUpto, List.range_succ]
theorem bitsL_len (n : Nat) : (bitsL n).length ≤ 62 := by
  simp only [bitsL, bitsUpto, List.length_map]
  exact Nat.le_trans (List.length_filter_le _ _) (by simp)
theorem bestUpto_len (ok : Nat → Bool) (full : Nat) : ∀ j, (bestUpto ok full j).length ≤ 62
  | 0 => bitsL_len _
  | j + 1 => by
    rw [bestUpto_succ, bestAt]
    split
    · exact bitsL_len _
    · exact bestUpto_len ok full j
def leavesN (h : House) (all : List Nat) (n : Nat) : Bool := canN all (andN (fullN h) n)
def leaveR (h : House) (all : List Nat) : List Int := bestOf (leavesN h all) (fullN h)
theorem leaveR_c (h : House) (hsg : h.signs.length ≤ 5) (all : List Nat) (hl : Sm all.length) (ha : ∀ a ∈ all, a < 2 ^ 62) : Pure Tryz.prog 33 [eH h, .slice (eN all)] (.slice (eI (leaveR h all))) := by
  intro H
  have h10 : 2 ^ h.signs.length ≤ 2 ^ 5 := Nat.pow_le_pow_right (by omega) hsg
  have hf : fullN h < 2 ^ 5 := by
    have : 1 ≤ 2 ^ h.signs.length := Nat.one_le_two_pow
    unfold fullN; omega
  refine fn_of hmix fc33 (by simp) ?_
  rw [ienv2]
  simp only [go_sem, reduceIte, reduceCtorEq, Nat.reduceEqDiff, Nat.reduceBEq, Nat.reduceAdd, Nat.reduceMul, Nat.reduceLeDiff, List.getElem?_cons_zero, List.getElem?_cons_succ, bne_self_eq_false, Int.reduceEq, ac33, eH]
  refine v_box _ rfl fun b2 hb2 => ?_
  simp only [go_sem, reduceIte, reduceCtorEq, Nat.reduceEqDiff, Nat.reduceBEq, Nat.reduceAdd, Nat.reduceMul, Nat.reduceLeDiff, List.getElem?_cons_zero, List.getElem?_cons_succ, bne_self_eq_false, Int.reduceEq]
  refine (fullH_c h (by omega)).go ?_
  simp only [go_sem, reduceIte, reduceCtorEq, Nat.reduceEqDiff, Nat.reduceBEq, Nat.reduceAdd, Nat.reduceMul, Nat.reduceLeDiff, List.getElem?_cons_zero, List.getElem?_cons_succ, bne_self_eq_false, Int.reduceEq]
  refine (bits_c (fullN h) (by omega)).go ?_
  simp only [go_sem, reduceIte, reduceCtorEq, Nat.reduceEqDiff, Nat.reduceBEq, Nat.reduceAdd, Nat.reduceMul, Nat.reduceLeDiff, List.getElem?_cons_zero, List.getElem?_cons_succ, bne_self_eq_false, Int.reduceEq]
  refine x_for (fullN h + 1) (fun j env H1 => Ext H H1 ∧ H1 b2 = some (.box [.slice (h.table.women.map eW), .slice (h.table.pieces.map eP), i6 h.table.wrong, .slice (eI h.sick), i6 h.others, i6 h.last, .slice (h.touches.map eTo), .slice (h.boiled.map eB), .slice (h.signs.map eS)]) ∧ env 1 = .slice (eN all) ∧ env 2 = .ptr b2 0 ∧ env 5 = .slice (eI (bestUpto (leavesN h all) (fullN h) j)) ∧ env 6 = i6 j ∧ env 32 = .any)
    ⟨(Ext.refl H).new hb2 _, updH_same _ _ _, by simp [upd_at], by simp [upd_at], by simp [upd_at, bestUpto], by simp [upd_at], by simp [upd_at]⟩ ?_
  rintro j env H1 hj ⟨hE, hB, g1, g2, g5, g6, hN⟩
  by_cases hlt : (j : Int) ≤ ((fullN h : Nat) : Int)
  · have hlt' : j < fullN h + 1 := by omega
    have hb62 := bitsL_len j
    have hbest := bestUpto_len (leavesN h all) (fullN h) j
    have hand := w_andN (a := fullN h) (b := j) (by omega) (by omega)
    have handlt : andN (fullN h) j < 2 ^ 62 := by
      unfold andN
      refine Nat.xor_lt_two_pow (by omega) (Nat.lt_of_le_of_lt Nat.and_le_left (by omega))
    simp only [go_sem, reduceIte, reduceCtorEq, Nat.reduceEqDiff, Nat.reduceBEq, Nat.reduceAdd, Nat.reduceMul, Nat.reduceLeDiff, List.getElem?_cons_zero, List.getElem?_cons_succ, bne_self_eq_false, Int.reduceEq, g1, g2, g5, g6, hN, hB]
    refine (fullH_c h (by omega)).go ?_
    simp only [go_sem, reduceIte, reduceCtorEq, Nat.reduceEqDiff, Nat.reduceBEq, Nat.reduceAdd, Nat.reduceMul, Nat.reduceLeDiff, List.getElem?_cons_zero, List.getElem?_cons_succ, bne_self_eq_false, Int.reduceEq, g1, g2, g5, g6, hN, hB, hlt]
    refine (bits_c j (by omega)).go ?_
    simp only [go_sem, reduceIte, reduceCtorEq, Nat.reduceEqDiff, Nat.reduceBEq, Nat.reduceAdd, Nat.reduceMul, Nat.reduceLeDiff, List.getElem?_cons_zero, List.getElem?_cons_succ, bne_self_eq_false, Int.reduceEq, g1, g2, g5, g6, hN, hB]
    refine (shorter_c _ _ (by unfold Sm; omega) (by unfold Sm; omega)).go ?_
    cases d : shorterL (bitsL j) (bestUpto (leavesN h all) (fullN h) j)
    · simp only [go_sem, reduceIte, reduceCtorEq, Nat.reduceEqDiff, Nat.reduceBEq, Nat.reduceAdd, Nat.reduceMul, Nat.reduceLeDiff, List.getElem?_cons_zero, List.getElem?_cons_succ, bne_self_eq_false, Int.reduceEq, g1, g2, g5, g6, hN, hB, wsucc (show j < 4611686018427387904 by omega), hlt']
      refine ⟨hE, ?_⟩
      rw [bestUpto_succ, bestAt, d]; simp
    · simp only [go_sem, reduceIte, reduceCtorEq, Nat.reduceEqDiff, Nat.reduceBEq, Nat.reduceAdd, Nat.reduceMul, Nat.reduceLeDiff, List.getElem?_cons_zero, List.getElem?_cons_succ, bne_self_eq_false, Int.reduceEq, g1, g2, g5, g6, hN, hB]
      refine (fullH_c h (by omega)).go ?_
      simp only [↓aops_nil, ↓aops_go, ↓aops_go0, ↓aops_if, ↓k_cont, ↓k_cont0, g_tt, g_ff, g_tf, g_ft, g_u, ↓apre_nil, ↓apre_if, ↓apre_go, pgo_det, Tag.isCall, popt_some, gp_tt, gp_ff, gp_tf, gp_ft, gp_u, ↓k_draw, opt_some, List.map_cons, List.map_nil, ev, upd_at, ↓x_skip, ↓x_label, ↓x_ret, ↓x_exit, ↓x_seq, ↓x_block, ↓x_ops, ↓x_cond, x_sel_t, x_sel_f, ↓x_draw, ↓q_kseq_n, ↓q_kseq_r, ↓q_kseq_e, ↓q_block_n, ↓q_block_r, ↓q_block_e, ↓q_loop_n, ↓q_loop_r, ↓q_loop_e, ↓l_done, d_mov, d_pick, d_not, d_nilchk, d_nilchk', d_conv, d_add, d_sub, d_mul, d_quo, d_rem, d_shl, d_shr, d_and, d_or, d_andnot, d_eql, d_neq, d_lss, d_leq, d_gtr, d_geq, d_eqb, d_neqb, d_mkfunc, d_load, d_fieldaddr, d_fieldaddr', d_field_t, d_field_f, d_idxaddr, d_idxaddr_g, elemO_some, d_idxaddr_m, d_arraddr, d_arraddr', d_idx_f, d_sub_s, d_sub_g, d_arrsub, d_arrall, d_extract, d_len, d_len_g, d_len_e, d_len_m, d_min, d_build, d_bslice0, d_bs1, d_bs2, d_bsa, d_eqagg, v_mov, v_pick, v_not, v_nilchk, v_conv, v_bin, v_binb, v_eqagg, v_mkfunc, v_load, v_fieldaddr, v_field, v_idxaddr, v_arraddr, v_idx, v_sub, v_arrsub, v_arrall, v_extract, v_len, v_min, v_build, v_bslice, v_lookup, v_call, v_callv, Nat.reduceEqDiff, Nat.reduceBEq, reduceIte, ite_true, ite_false, Bool.false_eq_true, Bool.true_eq_false, if_true, if_false, decide_eq_true_eq, decide_eq_false_iff_not, decide_true, decide_false, Nat.zero_add, Nat.add_zero, Nat.reduceAdd, reduceCtorEq, eq_self, not_true_eq_false, not_false_eq_true, Bool.not_true, Bool.not_false, Nat.reduceMul, List.length_cons, List.length_nil, at_elem, take_f, take_tt, Int.toNat_natCast, Option.some.injEq, Option.bind_some, Int.natCast_nonneg, true_and, and_true, and_self, ↓q_for_n, ↓q_for_r, ↓q_for_e, eI_len, List.length_map, at_obj, obj_box, updH_same, Nat.reduceLeDiff, Nat.zero_le, Nat.le_refl, List.drop_zero, List.drop_succ_cons, List.take_succ_cons, List.take_zero, c_agg, c_int, c_bool, c_slice, c_emp, c_grow, ↓l_one0, ↓l_one1, ↓k_l0, ↓k_l1, stab_nil, stab_cons, stab_if, st_tt, st_ff, st_tf, st_ft, st_u, List.getElem?_cons_zero, List.getElem?_cons_succ, g1, g2, g5, g6, hN, hB, hand]
      refine (can_c all _ hl ha handlt).go ?_
      cases d2 : canN all (andN (fullN h) j)
      · simp only [go_sem, reduceIte, reduceCtorEq, Nat.reduceEqDiff, Nat.reduceBEq, Nat.reduceAdd, Nat.reduceMul, Nat.reduceLeDiff, List.getElem?_cons_zero, List.getElem?_cons_succ, bne_self_eq_false, Int.reduceEq, g1, g2, g5, g6, hN, hB, wsucc (show j < 4611686018427387904 by omega), hlt']
        refine ⟨hE, ?_⟩
        rw [bestUpto_succ, bestAt, leavesN, d2]; simp
      · simp only [go_sem, reduceIte, reduceCtorEq, Nat.reduceEqDiff, Nat.reduceBEq, Nat.reduceAdd, Nat.reduceMul, Nat.reduceLeDiff, List.getElem?_cons_zero, List.getElem?_cons_succ, bne_self_eq_false, Int.reduceEq, g1, g2, g5, g6, hN, hB, wsucc (show j < 4611686018427387904 by omega), hlt']
        refine ⟨hE, ?_⟩
        rw [bestUpto_succ, bestAt, leavesN, d2, d]; simp
  · have : j = fullN h + 1 := by omega
    subst this
    simp only [go_sem, reduceIte, reduceCtorEq, Nat.reduceEqDiff, Nat.reduceBEq, Nat.reduceAdd, Nat.reduceMul, Nat.reduceLeDiff, List.getElem?_cons_zero, List.getElem?_cons_succ, bne_self_eq_false, Int.reduceEq, g1, g2, g5, g6, hN, hB]
    refine (fullH_c h (by omega)).go ?_
    simp only [go_sem, reduceIte, reduceCtorEq, Nat.reduceEqDiff, Nat.reduceBEq, Nat.reduceAdd, Nat.reduceMul, Nat.reduceLeDiff, List.getElem?_cons_zero, List.getElem?_cons_succ, bne_self_eq_false, Int.reduceEq, g1, g2, g5, g6, hN, hlt]
    refine fin_ret 4 (by simp [upd_at, hN]) ⟨_, H, Settle.refl hE, ?_, rfl⟩
    simp [upd_at, leaveR, bestOf]
end Go.Lift

set_option linter.unusedSimpArgs false
set_option linter.unusedVariables false
namespace Go.Lift
open Go Go.Proofs
theorem enumG_nodup {f : Nat → List Int} (hf : ∀ i, (f i).Nodup) : ∀ (k : Nat) (pre : List Int), (enumG f k pre).Nodup
  | 0, pre => by simp [enumG]
  | k + 1, pre => by
    rw [enumG, List.Nodup, List.pairwise_flatMap]
    refine ⟨fun w _ => enumG_nodup hf k _, ?_⟩
    refine List.Pairwise.imp ?_ (hf pre.length)
    intro a b hab x hx y hy hxy
    subst hxy
    obtain ⟨s1, h1, _⟩ := (mem_enumG f k _ _).1 hx
    obtain ⟨s2, h2, _⟩ := (mem_enumG f k _ _).1 hy
    rw [h1] at h2
    simp at h2
    exact hab h2.1
theorem nodup_filter {α : Type} {l : List α} (p : α → Bool) (h : l.Nodup) : (l.filter p).Nodup := List.Pairwise.filter p h
theorem nodup_ofNat {l : List Nat} (h : l.Nodup) : (l.map Int.ofNat).Nodup := by
  refine List.Pairwise.map Int.ofNat (fun a b hab => ?_) h
  intro hh
  exact hab (Int.ofNat.inj hh)
theorem womenUpto_nodup (ws : List Woman) (marks : List Int) (n : Nat) : (womenUpto ws marks n).Nodup := nodup_ofNat (nodup_filter _ List.nodup_range)
theorem whoIs_nodup (t : Table) (i m : Nat) : (whoIs t i m).Nodup := nodup_ofNat (nodup_filter _ List.nodup_range)
def ownersA (t : Table) : List (List Int) := (enumW (whoseT t) t.pieces.length []).filter (isTruthT t)
theorem ownersA_mem {t : Table} (hc : checkTable t = 0) (o : List Int) : o ∈ ownersA t ↔ isTruthT t o = true := by
  rw [ownersA, List.mem_filter]
  exact ⟨fun h => h.2, fun h => ⟨truth_whose hc h, h⟩⟩
theorem truthsR_mem {t : Table} (hc : checkTable t = 0) (o : List Int) : o ∈ truthsR t ↔ isTruthT t o = true := by
  rw [truthsR_eq hc, List.mem_filter, isTruthT_iff hc, isTruthR, Bool.and_eq_true, decide_eq_true_eq, mem_allO]
  constructor
  · rintro ⟨h1, h2, h3⟩; exact ⟨h1, h3⟩
  · rintro ⟨h1, h2⟩; exact ⟨h1, h1, h2⟩
theorem getD_nodup {L : List (List Int)} (h : ∀ l ∈ L, l.Nodup) (i : Nat) : (L.getD i []).Nodup := by
  rw [List.getD_eq_getElem?_getD]
  cases hi : L[i]? with
  | none => simp
  | some l => exact h l (List.mem_of_getElem? hi)
theorem owners_perm {t : Table} (hc : checkTable t = 0) : (truthsR t).Perm (ownersA t) := by
  refine (List.perm_ext_iff_of_nodup ?_ ?_).2 fun o => ?_
  · rw [truthsR_eq hc, allO, enumO_eq]
    exact nodup_filter _ (enumG_nodup (fun i => womenUpto_nodup _ _ _) _ _)
  · rw [ownersA, enumW_eq]
    refine nodup_filter _ (enumG_nodup (fun i => getD_nodup (fun l hl => ?_) i) _ _)
    simp only [whoseT, List.mem_map] at hl
    obtain ⟨j, _, rfl⟩ := hl
    exact whoIs_nodup _ _ _
  · rw [truthsR_mem hc, ownersA_mem hc]
theorem flat_cons {α β : Type} (f : β → α) (g : β → List α) : ∀ l : List β, (l.flatMap fun y => f y :: g y).Perm (l.map f ++ l.flatMap g)
  | [] => List.Perm.refl _
  | y :: l => by
    simp only [List.flatMap_cons, List.map_cons, List.cons_append]
    refine List.Perm.cons _ ?_
    have h1 := (flat_cons f g l).append_left (g y)
    refine h1.trans ?_
    rw [← List.append_assoc, ← List.append_assoc]
    exact List.perm_append_comm.append_right _
theorem flat_swap {α β γ : Type} (f : α → β → γ) (l2 : List β) : ∀ l1 : List α, (l1.flatMap fun x => l2.map fun y => f x y).Perm (l2.flatMap fun y => l1.map fun x => f x y)
  | [] => by simp
  | x :: l1 => by
    rw [List.flatMap_cons]
    have h := flat_swap f l2 l1
    refine (h.append_left _).trans ?_
    exact (flat_cons (fun y => f x y) (fun y => l1.map fun x => f x y) l2).symm
theorem flat_congr {α β : Type} {f g : α → List β} : ∀ {l : List α}, (∀ a ∈ l, (f a).Perm (g a)) → (l.flatMap f).Perm (l.flatMap g)
  | [], _ => List.Perm.refl _
  | a :: l, h => by
    rw [List.flatMap_cons, List.flatMap_cons]
    exact (h a List.mem_cons_self).append (flat_congr fun b hb => h b (List.mem_cons_of_mem _ hb))
def enS (f : Nat → List Int) : Nat → Nat → List (List Int)
  | 0, _ => [[]]
  | k + 1, j => (f j).flatMap fun w => (enS f k (j + 1)).map fun s => w :: s
theorem enumG_enS (f : Nat → List Int) : ∀ (k : Nat) (pre : List Int), enumG f k pre = (enS f k pre.length).map fun s => pre ++ s
  | 0, pre => by simp [enumG, enS]
  | k + 1, pre => by
    rw [enumG, enS, List.map_flatMap]
    congr 1
    funext w
    rw [enumG_enS f k, List.map_map, List.length_append, List.length_singleton]
    congr 1
    funext s
    simp
theorem hrs_perm (h : House) : ∀ (k j : Nat), (∀ i, j ≤ i → i < j + k → 1 ≤ hourN h i) → ((List.range (prodL (hourN h) j k)).map (hrsGo h k j)).Perm (enS (hoursAt h) k j)
  | 0, j, _ => by simp [prodL, enS, hrsGo]
  | k + 1, j, hp => by
    have ih := hrs_perm h k (j + 1) (fun i h1 h2 => hp i (by omega) (by omega))
    have hk := hp j (by omega) (by omega)
    rw [prodL, Nat.mul_comm, range_mul, List.map_flatMap, enS]
    have e1 : (fun q => ((List.range (hourN h j)).map fun r => q * hourN h j + r).map (hrsGo h (k + 1) j)) = fun q => (List.range (hourN h j)).map fun r : Nat => ((h.touches.getD j default).lo + (r : Int)) :: hrsGo h k (j + 1) q := by
      funext q
      rw [List.map_map]
      apply List.ext_getElem
      · simp
      · intro i h1 h2
        simp only [List.length_map, List.length_range] at h1 h2
        simp only [List.getElem_map, List.getElem_range, Function.comp, hrsGo]
        have e1 : (q * hourN h j + i) / hourN h j = q := by
          rw [Nat.mul_comm, Nat.mul_add_div hk, Nat.div_eq_of_lt h2, Nat.add_zero]
        have e2 : (q * hourN h j + i) % hourN h j = i := by
          rw [Nat.mul_comm, Nat.mul_add_mod, Nat.mod_eq_of_lt h2]
        rw [e1, e2]
    rw [e1]
    refine (flat_swap (fun (q r : Nat) => ((h.touches.getD j default).lo + (r : Int)) :: hrsGo h k (j + 1) q) (List.range (hourN h j)) (List.range (prodL (hourN h) (j + 1) k))).trans ?_
    rw [hoursAt, List.flatMap_map]
    refine flat_congr fun r _ => ?_
    have := ih.map fun s => ((h.touches.getD j default).lo + (r : Int)) :: s
    rw [List.map_map] at this
    exact this
theorem hours_perm (h : House) (hp : ∀ i, i < h.touches.length → 1 ≤ hourN h i) : ((List.range (prodL (hourN h) 0 h.touches.length)).map (hrsOf h)).Perm (enumH h h.touches.length []) := by
  have := hrs_perm h h.touches.length 0 (fun i _ h2 => hp i (by omega))
  rw [enumH_eq, enumG_enS]
  simp only [List.nil_append, List.length_nil, List.map_id']
  exact this
end Go.Lift

set_option linter.unusedSimpArgs false
set_option linter.unusedVariables false
namespace Go.Lift
open Go Go.Proofs
theorem prodL_pos {f : Nat → Nat} : ∀ (k a : Nat), (∀ i, a ≤ i → i < a + k → 1 ≤ f i) → 1 ≤ prodL f a k
  | 0, _, _ => Nat.le_refl _
  | k + 1, a, h => by
    rw [prodL]
    exact Nat.mul_pos (h a (by omega) (by omega)) (prodL_pos k (a + 1) fun i h1 h2 => h i (by omega) (by omega))
theorem timesR_eq {h : House} (hv : HV h) : timesR h h.touches.length = prodL (hourN h) 0 h.touches.length := by
  have h1 := manyH_eq hv
  have h2 := hv.many
  have h3 := prodL_pos (f := womN h.table) h.table.pieces.length 0 fun i _ hi => womN_pos hv.tab i (by omega)
  have h4 : prodL (womN h.table) 0 h.table.pieces.length * prodL (hourN h) 0 h.touches.length ≤ 2000 := by omega
  have h5 : prodL (hourN h) 0 h.touches.length ≤ prodL (womN h.table) 0 h.table.pieces.length * prodL (hourN h) 0 h.touches.length := Nat.le_mul_of_pos_left _ h3
  rw [timesR]; omega
theorem flat_filter {α β : Type} (p : α → Bool) (f : α → List β) : ∀ l : List α, l.flatMap (fun a => if p a = true then f a else []) = (l.filter p).flatMap f
  | [] => rfl
  | a :: l => by
    rw [List.flatMap_cons, List.filter_cons, flat_filter p f l]
    cases p a <;> simp
theorem courses_perm {h : House} (hv : HV h) : (coursesR h).Perm (allC h) := by
  have e1 : allC h = (ownersA h.table).flatMap fun o => (enumH h h.touches.length []).map fun hs => (⟨o, hs⟩ : Course) := by
    rw [allC, ownersA, ← flat_filter]; rfl
  rw [e1, coursesR]
  refine ((owners_perm hv.tab).flatMap_right _).trans (flat_congr fun o _ => ?_)
  rw [rowR, timesR_eq hv]
  have := (hours_perm h (hourN_pos hv)).map fun hs => (⟨o, hs⟩ : Course)
  rw [List.map_map] at this
  exact this
theorem perm_any {α : Type} {a b : List α} (h : a.Perm b) (p : α → Bool) : a.any p = b.any p := by
  rw [Bool.eq_iff_iff, List.any_eq_true, List.any_eq_true]
  exact ⟨fun ⟨x, hx, hp⟩ => ⟨x, h.mem_iff.1 hx, hp⟩, fun ⟨x, hx, hp⟩ => ⟨x, h.mem_iff.2 hx, hp⟩⟩
end Go.Lift

set_option linter.unusedSimpArgs false
set_option linter.unusedVariables false
namespace Go.Lift
open Go Go.Proofs
theorem thin_sm {h : House} (c1 : thinH h = true) : HSm h := by
  rw [thinH, Bool.and_eq_true] at c1; exact short_sm c1.1
end Go.Lift

set_option linter.unusedSimpArgs false
set_option linter.unusedVariables false
namespace Go.Lift
open Go Go.Proofs
theorem before_irr : ∀ a : List Int, beforeL a a = false
  | [] => rfl
  | a :: xs => by rw [beforeL, if_pos rfl, before_irr xs]
theorem before_trans : ∀ a b c : List Int, beforeL a b = true → beforeL b c = true → beforeL a c = true
  | [], b, [], _, h2 => by
    cases b with
    | nil => exact h2
    | cons b bs => simp [beforeL] at h2
  | [], _, c :: cs, _, _ => by simp [beforeL]
  | a :: xs, [], _, h1, _ => by simp [beforeL] at h1
  | a :: xs, b :: bs, [], _, h2 => by simp [beforeL] at h2
  | a :: xs, b :: bs, c :: cs, h1, h2 => by
    simp only [beforeL] at h1 h2 ⊢
    by_cases e1 : a = b
    · subst e1
      rw [if_pos rfl] at h1
      by_cases e2 : a = c
      · rw [if_pos e2] at h2 ⊢; exact before_trans xs bs cs h1 h2
      · rw [if_neg e2] at h2 ⊢; exact h2
    · rw [if_neg e1, decide_eq_true_eq] at h1
      by_cases e2 : b = c
      · subst e2; rw [if_neg e1]; exact decide_eq_true h1
      · rw [if_neg e2, decide_eq_true_eq] at h2
        rw [if_neg (by omega)]; exact decide_eq_true (by omega)
theorem before_total : ∀ a b : List Int, beforeL a b = true ∨ beforeL b a = true ∨ a = b
  | [], [] => .inr (.inr rfl)
  | [], _ :: _ => .inl (by simp [beforeL])
  | _ :: _, [] => .inr (.inl (by simp [beforeL]))
  | a :: xs, b :: bs => by
    simp only [beforeL]
    by_cases e : a = b
    · subst e
      simp only [if_true]
      rcases before_total xs bs with h | h | h
      · exact .inl h
      · exact .inr (.inl h)
      · exact .inr (.inr (by rw [h]))
    · rw [if_neg e, if_neg (fun h => e h.symm)]
      rcases Int.lt_or_gt_of_ne e with h | h
      · exact .inl (decide_eq_true h)
      · exact .inr (.inl (decide_eq_true h))
theorem before_pre : ∀ (p a b : List Int), beforeL (p ++ a) (p ++ b) = beforeL a b
  | [], _, _ => rfl
  | x :: p, a, b => by rw [List.cons_append, List.cons_append, beforeL, if_pos rfl, before_pre p]
theorem shorter_iff (a b : List Int) : shorterL a b = true ↔ a.length < b.length ∨ (a.length = b.length ∧ beforeL a b = true) := by
  simp [shorterL]
theorem shorter_irr (a : List Int) : shorterL a a = false := by
  rw [Bool.eq_false_iff, Ne, shorter_iff, before_irr]
  rintro (h | h)
  · omega
  · cases h.2
theorem shorter_trans {a b c : List Int} (h1 : shorterL a b = true) (h2 : shorterL b c = true) : shorterL a c = true := by
  rw [shorter_iff] at *
  rcases h1 with h1 | h1 <;> rcases h2 with h2 | h2
  · exact .inl (by omega)
  · exact .inl (by omega)
  · exact .inl (by omega)
  · exact .inr ⟨by omega, before_trans _ _ _ h1.2 h2.2⟩
theorem shorter_asym {a b : List Int} (h : shorterL a b = true) : shorterL b a = false := by
  rw [Bool.eq_false_iff]
  intro h2
  have := shorter_trans h h2
  rw [shorter_irr] at this; cases this
theorem shorter_total {a b : List Int} (h1 : shorterL a b = false) (h2 : shorterL b a = false) : a = b := by
  rw [Bool.eq_false_iff, Ne, shorter_iff] at h1 h2
  have hl : a.length = b.length := by omega
  rcases before_total a b with h | h | h
  · exact absurd (.inr ⟨hl, h⟩) h1
  · exact absurd (.inr ⟨hl.symm, h⟩) h2
  · exact h
/-- The least one that will do, of some lists. -/
structure IsMin (ok : List Int → Bool) (D : List Int → Prop) (x : List Int) : Prop where
  dom : D x
  good : ok x = true
  least : ∀ y, D y → ok y = true → shorterL y x = false
theorem IsMin.uniq {ok : List Int → Bool} {D : List Int → Prop} {x y : List Int} (h : IsMin ok D x) (k : IsMin ok D y) : x = y :=
  shorter_total (k.least x h.dom h.good) (h.least y k.dom k.good)
theorem IsMin.congr {ok ok' : List Int → Bool} {D D' : List Int → Prop} {x : List Int} (h : IsMin ok D x) (hd : ∀ y, D y ↔ D' y) (hok : ∀ y, D y → ok y = ok' y) : IsMin ok' D' x :=
  ⟨(hd x).1 h.dom, by rw [← hok x h.dom]; exact h.good, fun y hy ho => h.least y ((hd y).2 hy) (by rw [hok y ((hd y).2 hy)]; exact ho)⟩
theorem find_min {ok : List Int → Bool} {l : List (List Int)} (hs : l.Pairwise fun a b => shorterL a b = true) {x : List Int} (h : l.find? ok = some x) : IsMin ok (· ∈ l) x := by
  obtain ⟨h1, l1, bs, rfl, h2⟩ := List.find?_eq_some_iff_append.1 h
  refine ⟨by simp, h1, fun y hy ho => ?_⟩
  rw [List.pairwise_append] at hs
  rcases List.mem_append.1 hy with hy | hy
  · have := h2 y hy; rw [ho] at this; cases this
  · rcases List.mem_cons.1 hy with rfl | hy
    · exact shorter_irr _
    · exact shorter_asym ((List.pairwise_cons.1 hs.2.1).1 y hy)
theorem tryAll_find {ok : List Int → Bool} : ∀ {l : List (List Int)} {x : List Int} (old : List Int), l.find? ok = some x → tryAll ok old l = x
  | [], x, _, h => by cases h
  | y :: l, x, old, h => by
    rw [tryAll]
    rw [List.find?_cons] at h
    cases hy : ok y
    · rw [hy] at h; simp only [Bool.false_eq_true, if_false]; exact tryAll_find y h
    · rw [hy] at h; cases h; rfl
theorem any_find {α : Type} {ok : α → Bool} {l : List α} (h : l.any ok = true) : ∃ x, l.find? ok = some x := by
  cases hf : l.find? ok with
  | some x => exact ⟨x, rfl⟩
  | none =>
    rw [List.any_eq_true] at h
    obtain ⟨x, hx, ho⟩ := h
    exact absurd ho (List.find?_eq_none.1 hf x hx)
def Inc (n : Nat) (x : List Int) : Prop := x.Pairwise (· < ·) ∧ ∀ a ∈ x, ∃ i : Nat, a = (i : Int) ∧ i < n
def IncF (n : Nat) : Nat → List Int → Prop
  | _, [] => True
  | f, a :: l => ∃ i : Nat, a = (i : Int) ∧ f ≤ i ∧ i < n ∧ IncF n (i + 1) l
theorem IncF.room {n : Nat} : ∀ {l : List Int} {f : Nat}, IncF n f l → l ≠ [] → f + l.length ≤ n
  | [], _, _, h => absurd rfl h
  | a :: l, f, h, _ => by
    obtain ⟨i, rfl, h1, h2, h3⟩ := h
    cases l with
    | nil => simp; omega
    | cons b l => have := h3.room (by simp); simp only [List.length_cons] at this ⊢; omega
theorem incF_iff {n : Nat} : ∀ {l : List Int} {f : Nat}, IncF n f l ↔ l.Pairwise (· < ·) ∧ ∀ a ∈ l, ∃ i : Nat, a = (i : Int) ∧ f ≤ i ∧ i < n
  | [], f => by simp [IncF]
  | a :: l, f => by
    rw [List.pairwise_cons]
    constructor
    · rintro ⟨i, rfl, h1, h2, h3⟩
      obtain ⟨k1, k2⟩ := (incF_iff (l := l) (f := i + 1)).1 h3
      refine ⟨⟨fun b hb => ?_, k1⟩, fun b hb => ?_⟩
      · obtain ⟨j, rfl, h4, h5⟩ := k2 b hb; omega
      · rcases List.mem_cons.1 hb with rfl | hb
        · exact ⟨i, rfl, h1, h2⟩
        · obtain ⟨j, rfl, h4, h5⟩ := k2 b hb; exact ⟨j, rfl, by omega, h5⟩
    · rintro ⟨⟨h1, h2⟩, h3⟩
      obtain ⟨i, rfl, h4, h5⟩ := h3 a List.mem_cons_self
      refine ⟨i, rfl, h4, h5, incF_iff.2 ⟨h2, fun b hb => ?_⟩⟩
      obtain ⟨j, rfl, h6, h7⟩ := h3 b (List.mem_cons_of_mem _ hb)
      have := h1 _ hb
      exact ⟨j, rfl, by omega, h7⟩
theorem inc_incF {n : Nat} {l : List Int} : Inc n l ↔ IncF n 0 l := by
  rw [incF_iff, Inc]; simp
theorem mem_combos (n : Nat) : ∀ (k f : Nat) (pre x : List Int), x ∈ combos n k pre f ↔ ∃ s, x = pre ++ s ∧ s.length = k ∧ IncF n f s
  | 0, f, pre, x => by
    simp only [combos, List.mem_singleton]
    constructor
    · rintro rfl; exact ⟨[], by simp, rfl, trivial⟩
    · rintro ⟨s, rfl, h, _⟩; rw [List.length_eq_zero_iff.1 h]; simp
  | k + 1, f, pre, x => by
    simp only [combos, List.mem_flatMap, List.mem_range]
    constructor
    · rintro ⟨j, hj, hx⟩
      obtain ⟨s, rfl, h1, h2⟩ := (mem_combos n k _ _ _).1 hx
      exact ⟨((f + j : Nat) : Int) :: s, by simp, by simp [h1], f + j, rfl, by omega, by omega, h2⟩
    · rintro ⟨s, rfl, h1, h2⟩
      cases s with
      | nil => simp at h1
      | cons a s =>
        obtain ⟨i, rfl, h3, h4, h5⟩ := h2
        simp only [List.length_cons] at h1
        have hroom : i + k < n := by
          rcases Nat.eq_zero_or_pos s.length with h | h
          · omega
          · have := h5.room (List.length_pos_iff.1 h); omega
        refine ⟨i - f, by omega, (mem_combos n k _ _ _).2 ⟨s, ?_, by omega, ?_⟩⟩
        · rw [show f + (i - f) = i by omega]; simp
        · rw [show f + (i - f) = i by omega]; exact h5
theorem combos_sorted (n : Nat) : ∀ (k f : Nat) (pre : List Int), (combos n k pre f).Pairwise fun a b => beforeL a b = true
  | 0, _, _ => by simp [combos]
  | k + 1, f, pre => by
    rw [combos, List.pairwise_flatMap]
    refine ⟨fun j _ => combos_sorted n k _ _, ?_⟩
    refine List.Pairwise.imp ?_ List.pairwise_lt_range
    intro a b hab x hx y hy
    obtain ⟨s1, rfl, _⟩ := (mem_combos n k _ _ _).1 hx
    obtain ⟨s2, rfl, _⟩ := (mem_combos n k _ _ _).1 hy
    rw [List.append_assoc, List.append_assoc, before_pre]
    simp only [List.singleton_append, beforeL]
    rw [if_neg (by omega)]; exact decide_eq_true (by omega)
def combosAll (n : Nat) : List (List Int) := (List.range (n + 1)).flatMap fun k => combos n k [] 0
theorem by_length {f : Nat → List (List Int)} {m : Nat} (h1 : ∀ k, (f k).Pairwise fun a b => beforeL a b = true) (h2 : ∀ k, ∀ x ∈ f k, x.length = k) : ((List.range m).flatMap f).Pairwise fun a b => shorterL a b = true := by
  rw [List.pairwise_flatMap]
  refine ⟨fun k _ => ?_, ?_⟩
  · refine List.Pairwise.imp_of_mem ?_ (h1 k)
    intro a b ha hb hab
    rw [shorter_iff]
    exact .inr ⟨by rw [h2 k a ha, h2 k b hb], hab⟩
  · refine List.Pairwise.imp ?_ List.pairwise_lt_range
    intro a b hab x hx y hy
    rw [shorter_iff]
    exact .inl (by rw [h2 a x hx, h2 b y hy]; exact hab)
theorem combosAll_sorted (n : Nat) : (combosAll n).Pairwise fun a b => shorterL a b = true :=
  by_length (fun k => combos_sorted n k 0 []) fun k x hx => by
    obtain ⟨s, rfl, h, _⟩ := (mem_combos n k 0 [] x).1 hx
    simpa using h
theorem mem_combosAll {n : Nat} {x : List Int} : x ∈ combosAll n ↔ Inc n x := by
  simp only [combosAll, List.mem_flatMap, List.mem_range, mem_combos, inc_incF, List.nil_append]
  constructor
  · rintro ⟨k, _, s, rfl, _, h⟩; exact h
  · intro h
    refine ⟨x.length, ?_, x, rfl, rfl, h⟩
    rcases Nat.eq_zero_or_pos x.length with h0 | h0
    · omega
    · have := h.room (List.length_pos_iff.1 h0); omega
theorem tryAll_min {ok : List Int → Bool} {n : Nat} {x : List Int} (hx : Inc n x) (ho : ok x = true) : IsMin ok (Inc n) (tryAll ok [] (combosAll n)) := by
  obtain ⟨y, hy⟩ := any_find (ok := ok) (l := combosAll n) (List.any_eq_true.2 ⟨x, mem_combosAll.2 hx, ho⟩)
  rw [tryAll_find [] hy]
  exact (find_min (combosAll_sorted n) hy).congr (fun y => mem_combosAll) (fun _ _ => rfl)
theorem bitsUpto_sorted (m p : Nat) : (bitsUpto m p).Pairwise (· < ·) := by
  rw [bitsUpto]
  refine List.Pairwise.map Int.ofNat (fun a b hab => ?_) (List.Pairwise.filter _ List.pairwise_lt_range)
  exact Int.ofNat_lt.2 hab
theorem bits_inc {n m : Nat} (hn : n ≤ 62) (hm : m < 2 ^ n) : Inc n (bitsL m) := by
  rw [bitsL_of hn hm]
  refine ⟨bitsUpto_sorted m n, fun a ha => ?_⟩
  simp only [bitsUpto, List.mem_map, List.mem_filter, List.mem_range] at ha
  obtain ⟨i, h, rfl⟩ := ha
  exact ⟨i, rfl, h.1⟩
theorem nodup_lt {l : List Int} (h : l.Pairwise (· < ·)) : l.Nodup := List.Pairwise.imp (fun {a b} hab => by omega) h
theorem inc_eq {l k : List Int} (h1 : l.Pairwise (· < ·)) (h2 : k.Pairwise (· < ·)) (h : ∀ a, a ∈ l ↔ a ∈ k) : l = k :=
  List.Perm.eq_of_pairwise (le := (· < ·)) (fun a b _ _ hab hba => by omega) h1 h2 ((List.perm_ext_iff_of_nodup (nodup_lt h1) (nodup_lt h2)).2 h)
theorem inc_bits {n : Nat} (hn : n ≤ 62) {x : List Int} (h : Inc n x) : ∃ m, m < 2 ^ n ∧ x = bitsL m := by
  have hl : ((List.range n).map fun i : Nat => decide ((i : Int) ∈ x)).length = n := by simp
  refine ⟨natOf ((List.range n).map fun i : Nat => decide ((i : Int) ∈ x)), by have := natOf_lt ((List.range n).map fun i : Nat => decide ((i : Int) ∈ x)); rw [hl] at this; exact this, ?_⟩
  rw [bitsL_natOf (by omega), hl]
  refine inc_eq h.1 ?_ fun a => ?_
  · rw [truesUpto]
    refine List.Pairwise.map Int.ofNat (fun a b hab => ?_) (List.Pairwise.filter _ List.pairwise_lt_range)
    exact Int.ofNat_lt.2 hab
  · simp only [truesUpto, List.mem_map, List.mem_filter, List.mem_range]
    constructor
    · intro ha
      obtain ⟨i, rfl, hi⟩ := h.2 a ha
      exact ⟨i, ⟨hi, by simp [hi, ha]⟩, rfl⟩
    · rintro ⟨i, ⟨hi, hb⟩, rfl⟩
      simpa [hi] using hb
theorem bestUpto_min (p : List Int → Bool) (full : Nat) (h0 : p (bitsL full) = true) : ∀ j, j ≤ full + 1 → (∃ m, m ≤ full ∧ bestUpto (fun m => p (bitsL m)) full j = bitsL m) ∧ p (bestUpto (fun m => p (bitsL m)) full j) = true ∧ ∀ m, m < j → p (bitsL m) = true → shorterL (bitsL m) (bestUpto (fun m => p (bitsL m)) full j) = false
  | 0, _ => ⟨⟨full, Nat.le_refl _, rfl⟩, h0, fun m hm => by omega⟩
  | j + 1, hj => by
    obtain ⟨h1, h2, h3⟩ := bestUpto_min p full h0 j (by omega)
    rw [bestUpto_succ, bestAt]
    split
    · rename_i hc
      refine ⟨⟨j, by omega, rfl⟩, hc.2, fun m hm hp => ?_⟩
      rcases Nat.lt_or_ge m j with h | h
      · rw [Bool.eq_false_iff]
        intro hs
        have := shorter_trans hs hc.1
        rw [h3 m h hp] at this; cases this
      · rw [show m = j by omega]; exact shorter_irr _
    · rename_i hc
      refine ⟨h1, h2, fun m hm hp => ?_⟩
      rcases Nat.lt_or_ge m j with h | h
      · exact h3 m h hp
      · have hmj : m = j := by omega
        subst hmj
        rw [Bool.eq_false_iff]
        exact fun hs => hc ⟨hs, hp⟩
theorem bestOf_min {p : List Int → Bool} {n : Nat} (hn : n ≤ 62) (h0 : p (bitsL (2 ^ n - 1)) = true) : IsMin p (Inc n) (bestOf (fun m => p (bitsL m)) (2 ^ n - 1)) := by
  have hp : 1 ≤ 2 ^ n := Nat.one_le_two_pow
  obtain ⟨⟨m, h1, h2⟩, h3, h4⟩ := bestUpto_min p (2 ^ n - 1) h0 (2 ^ n - 1 + 1) (Nat.le_refl _)
  refine ⟨?_, h3, fun y hy ho => ?_⟩
  · rw [bestOf, h2]; exact bits_inc hn (by omega)
  · obtain ⟨m', hm, rfl⟩ := inc_bits hn hy
    exact h4 m' (by omega) ho
theorem best_eq {p : List Int → Bool} {n : Nat} (hn : n ≤ 62) (h0 : p (bitsL (2 ^ n - 1)) = true) : tryAll p [] (combosAll n) = bestOf (fun m => p (bitsL m)) (2 ^ n - 1) :=
  (tryAll_min (bits_inc hn (by have : 1 ≤ 2 ^ n := Nat.one_le_two_pow; omega)) h0).uniq (bestOf_min hn h0)
end Go.Lift

set_option linter.unusedSimpArgs false
set_option linter.unusedVariables false
namespace Go.Lift
open Go Go.Proofs
/-- The house with other signs. -/
def reS (h : House) (ss : List Sign) : House := { h with signs := ss }
def sgn (bs : List Bool) (s : Sign) : Bool := bs.getD s.thing.toNat false == s.carries
theorem enumH_reS (h : House) (ss : List Sign) : ∀ (k : Nat) (pre : List Int), enumH (reS h ss) k pre = enumH h k pre
  | 0, _ => rfl
  | k + 1, pre => by
    simp only [enumH]
    congr 1
    funext n
    exact enumH_reS h ss k _
theorem allC_reS (h : House) (ss : List Sign) : allC (reS h ss) = allC h := by
  unfold allC
  congr 1
  funext o
  unfold coursesOf
  rw [enumH_reS]; rfl
theorem range_all {α : Type} (d : α) (l : List α) (p : α → Bool) : ((List.range l.length).all fun i => p (l.getD i d)) = l.all p := by
  rw [Bool.eq_iff_iff, List.all_eq_true, List.all_eq_true]
  constructor
  · intro h x hx
    obtain ⟨i, hi, rfl⟩ := List.getElem_of_mem hx
    have := h i (List.mem_range.2 hi)
    simpa [List.getD_eq_getElem?_getD, hi] using this
  · intro h i hi
    have hi' := List.mem_range.1 hi
    have : l.getD i d = l[i] := by simp [List.getD_eq_getElem?_getD, hi']
    rw [this]; exact h _ (List.getElem_mem _)
theorem isTrue_nil (h : House) (c : Course) : isTrue h [] c = h.signs.all (sgn (lastOf h c [])) := by
  rw [← range_all default, isTrue, rightOK]
  congr 1
  funext i
  unfold signRight sgn
  generalize (lastOf h c []).getD _ false = a
  generalize Sign.carries _ = b
  cases a <;> cases b <;> simp
theorem isTrue_out (h : House) (out : List Int) (c : Course) : isTrue h out c = true ↔ ∀ i, i < h.signs.length → (i : Int) ∉ out → sgn (lastOf h c []) (h.signs.getD i default) = true := by
  rw [isTrue, rightOK, List.all_eq_true]
  constructor
  · intro hall i hi hn
    have := hall i (List.mem_range.2 hi)
    simpa [signRight, hn, sgn] using this
  · intro hall i hi
    by_cases hm : (i : Int) ∈ out
    · simp [signRight, hm]
    · have := hall i (List.mem_range.1 hi) hm
      simpa [signRight, hm, sgn] using this
theorem possible_iff (h : House) (out : List Int) : possibleP h out = true ↔ ∃ c ∈ allC h, isTrue h out c = true := by
  rw [possibleP, List.any_eq_true]
theorem allC_ne {h : House} (hv : HV h) : ∃ c, c ∈ allC h := by
  have h1 : truthsT h.table ≠ [] := by
    intro h0
    have := hv.ask
    rw [askErr, if_pos hv.tab, if_pos h0] at this; cases this
  have h2 : truthsR h.table ≠ [] := fun h0 => h1 ((truths_nil hv.tab).1 h0)
  obtain ⟨o, l, ho⟩ := List.exists_cons_of_ne_nil h2
  have h3 : isTruthT h.table o = true := (truthsR_mem hv.tab o).1 (by rw [ho]; simp)
  refine ⟨⟨o, h.touches.map (·.lo)⟩, (mem_allC hv.tab _).2 ?_⟩
  rw [courseOK, h3, hoursOK]
  simp only [Bool.true_and, List.length_map, decide_true, List.all_eq_true, List.mem_range, decide_eq_true_eq]
  intro i hi
  have := hv.tim _ (List.getElem_mem hi)
  simp [List.getD_eq_getElem?_getD, hi]; omega
theorem mem_bitsL (m i : Nat) : (i : Int) ∈ bitsL m ↔ i < 62 ∧ m.testBit i = true := by
  simp only [bitsL, bitsUpto, List.mem_map, List.mem_filter, List.mem_range]
  constructor
  · rintro ⟨j, hj, e⟩
    have : j = i := by
      have : ((j : Nat) : Int) = (i : Int) := e
      omega
    subst this; exact hj
  · intro hi; exact ⟨i, hi, rfl⟩
theorem and_eq_iff (a w : Nat) : a &&& w = w ↔ ∀ i, w.testBit i = true → a.testBit i = true := by
  constructor
  · intro he i hi
    have : (a &&& w).testBit i = w.testBit i := by rw [he]
    rw [Nat.testBit_and, hi] at this; simpa using this
  · intro hall
    apply Nat.eq_of_testBit_eq
    intro i
    rw [Nat.testBit_and]
    cases hw : w.testBit i
    · simp
    · simp [hall i hw]
theorem signsL_bit (h : House) (c : Course) (i : Nat) : (natOf (signsL h c)).testBit i = (decide (i < h.signs.length) && sgn (lastOf h c []) (h.signs.getD i default)) := by
  rw [natOf_bit]
  by_cases hi : i < h.signs.length
  · have : (signsL h c).getD i false = signAt h (lastOf h c []) i := by simp [signsL, hi]
    rw [this, decide_eq_true hi, Bool.true_and]; rfl
  · have hl : (signsL h c).length = h.signs.length := by simp [signsL]
    rw [List.getD_eq_getElem?_getD, List.getElem?_eq_none (by omega), decide_eq_false hi]; rfl
theorem full_bit (h : House) (m i : Nat) : (andN (fullN h) m).testBit i = (decide (i < h.signs.length) && !m.testBit i) := by
  rw [andN_bit, fullN, Nat.testBit_two_pow_sub_one]
theorem isTrue_bits {h : House} (h5 : h.signs.length ≤ 5) (m : Nat) (c : Course) : isTrue h (bitsL m) c = decide (natOf (signsL h c) &&& andN (fullN h) m = andN (fullN h) m) := by
  rw [Bool.eq_iff_iff, decide_eq_true_eq, isTrue_out, and_eq_iff]
  constructor
  · intro hall i hi
    rw [full_bit, Bool.and_eq_true, decide_eq_true_eq, Bool.not_eq_true'] at hi
    rw [signsL_bit, decide_eq_true hi.1, Bool.true_and]
    refine hall i hi.1 fun hm => ?_
    have := ((mem_bitsL m i).1 hm).2
    rw [hi.2] at this; cases this
  · intro hall i hi hn
    have := hall i (by
      rw [full_bit, decide_eq_true hi, Bool.true_and, Bool.not_eq_true']
      rw [Bool.eq_false_iff]
      exact fun hb => hn ((mem_bitsL m i).2 ⟨by omega, hb⟩))
    rw [signsL_bit, Bool.and_eq_true] at this
    exact this.2
theorem any_allR {h : House} (hv : HV h) (p : Nat → Bool) : (allR h).any p = (allC h).any fun c => p (natOf (signsL h c)) := by
  rw [allR, List.any_map, perm_any (courses_perm hv)]; rfl
theorem possible_bits {h : House} (hv : HV h) (m : Nat) : possibleP h (bitsL m) = leavesN h (allR h) m := by
  rw [leavesN, canN, any_allR hv, possibleP]
  congr 1
  funext c
  exact isTrue_bits hv.ok.signs m c
theorem possible_full {h : House} (hv : HV h) : possibleP h (bitsL (2 ^ h.signs.length - 1)) = true := by
  obtain ⟨c, hc⟩ := allC_ne hv
  rw [possible_iff]
  refine ⟨c, hc, (isTrue_out _ _ _).2 fun i hi hn => absurd ((mem_bitsL _ _).2 ⟨?_, ?_⟩) hn⟩
  · have := hv.ok.signs; omega
  · rw [Nat.testBit_two_pow_sub_one]; exact decide_eq_true hi
theorem leave_eq {h : House} (hv : HV h) : leaveR h (allR h) = leaveOf h := by
  have := best_eq (p := possibleP h) (n := h.signs.length) (by have := hv.ok.signs; omega) (possible_full hv)
  rw [leaveOf]
  refine Eq.trans ?_ this.symm
  rw [leaveR, fullN]
  congr 1
  funext m
  exact (possible_bits hv m).symm
theorem find_congr {α : Type} {p q : α → Bool} : ∀ {l : List α}, (∀ x ∈ l, p x = q x) → l.find? p = l.find? q
  | [], _ => rfl
  | a :: l, h => by
    rw [List.find?_cons, List.find?_cons, h a List.mem_cons_self, find_congr fun x hx => h x (List.mem_cons_of_mem _ hx)]
theorem cut_reS (h : House) (k : Nat) : cut h k = reS h (h.signs.take k) := rfl
theorem possible_reS (h : House) (ss : List Sign) : possibleP (reS h ss) [] = (allC h).any fun c => ss.all (sgn (lastOf h c [])) := by
  rw [possibleP, allC_reS]
  congr 1
  funext c
  rw [isTrue_nil]; rfl
theorem bad_eq {h : House} (hv : HV h) {i : Nat} (hi : i < h.signs.length) : badAt h i = !canN (allR h) (2 ^ (i + 1) - 1) := by
  rw [badAt, cut_reS, possible_reS, canN, any_allR hv]
  congr 2
  funext c
  rw [Bool.eq_iff_iff, decide_eq_true_eq, and_eq_iff, ← range_all default, List.all_eq_true]
  have hl : (h.signs.take (i + 1)).length = i + 1 := by simp; omega
  constructor
  · intro hall k hk
    rw [Nat.testBit_two_pow_sub_one, decide_eq_true_eq] at hk
    have := hall k (by rw [hl]; exact List.mem_range.2 hk)
    have e : (h.signs.take (i + 1)).getD k default = h.signs.getD k default := by
      simp [List.getD_eq_getElem?_getD, List.getElem?_take, hk]
    rw [e] at this
    rw [signsL_bit, decide_eq_true (by omega), this]; rfl
  · intro hall k hk
    rw [hl] at hk
    have hk := List.mem_range.1 hk
    have := hall k (by rw [Nat.testBit_two_pow_sub_one]; exact decide_eq_true hk)
    have e : (h.signs.take (i + 1)).getD k default = h.signs.getD k default := by
      simp [List.getD_eq_getElem?_getD, List.getElem?_take, hk]
    rw [signsL_bit, Bool.and_eq_true] at this
    rw [e]; exact this.2
theorem first_eq {h : House} (hv : HV h) : firstN h (allR h) = match (List.range h.signs.length).find? (badAt h) with | some i => (i : Int) | none => -1 := by
  rw [firstN, find_congr (q := badAt h) fun i hi => (bad_eq hv (List.mem_range.1 hi)).symm]
  all_goals (cases (List.range h.signs.length).find? (badAt h) <;> rfl)
end Go.Lift

set_option linter.unusedSimpArgs false
set_option linter.unusedVariables false
namespace Go.Lift
open Go Go.Proofs
theorem allR_len (h : House) : (allR h).length ≤ 9000000 := by rw [allR, List.length_map]; exact coursesR_size h
theorem allR_lt {h : House} (h5 : h.signs.length ≤ 5) : ∀ a ∈ allR h, a < 2 ^ 62 := by
  intro a ha
  simp only [allR, List.mem_map] at ha
  obtain ⟨c, _, rfl⟩ := ha
  exact natOf_lt62 (by simp [signsL]; omega)
theorem leaveOf_len {h : House} (hv : HV h) : (leaveOf h).length ≤ 62 := by
  rw [← leave_eq hv]; exact bestUpto_len _ _ _
theorem leaves_law (h : House) : Pure Tryz.prog 4 [eH h] (.bool true) := by
  intro H
  refine fn_of hmix fc4 (by simp) ?_
  rw [ienv1]
  simp only [go_sem, reduceIte, reduceCtorEq, Nat.reduceEqDiff, Nat.reduceBEq, Nat.reduceAdd, Nat.reduceMul, Nat.reduceLeDiff, List.getElem?_cons_zero, List.getElem?_cons_succ, bne_self_eq_false, Int.reduceEq, ac4, eH]
  refine v_box _ rfl fun b1 hb1 => ?_
  have e1 := (Ext.refl H).new hb1 (.box [.slice (h.table.women.map eW), .slice (h.table.pieces.map eP), i6 h.table.wrong, .slice (eI h.sick), i6 h.others, i6 h.last, .slice (h.touches.map eTo), .slice (h.boiled.map eB), .slice (h.signs.map eS)])
  simp only [go_sem, reduceIte, reduceCtorEq, Nat.reduceEqDiff, Nat.reduceBEq, Nat.reduceAdd, Nat.reduceMul, Nat.reduceLeDiff, List.getElem?_cons_zero, List.getElem?_cons_succ, bne_self_eq_false, Int.reduceEq]
  refine (thinH_c h).go ?_
  cases c1 : thinH h
  · simp only [go_sem, reduceIte, reduceCtorEq, Nat.reduceEqDiff, Nat.reduceBEq, Nat.reduceAdd, Nat.reduceMul, Nat.reduceLeDiff, List.getElem?_cons_zero, List.getElem?_cons_succ, bne_self_eq_false, Int.reduceEq]
    refine awake_c.go ?_
    simp only [go_sem, reduceIte, reduceCtorEq, Nat.reduceEqDiff, Nat.reduceBEq, Nat.reduceAdd, Nat.reduceMul, Nat.reduceLeDiff, List.getElem?_cons_zero, List.getElem?_cons_succ, bne_self_eq_false, Int.reduceEq]
    exact fin_ret 2 (by simp [upd_at]) ⟨_, H, Settle.refl e1, by simp [upd_at], rfl⟩
  have hm := thin_sm c1
  simp only [go_sem, reduceIte, reduceCtorEq, Nat.reduceEqDiff, Nat.reduceBEq, Nat.reduceAdd, Nat.reduceMul, Nat.reduceLeDiff, List.getElem?_cons_zero, List.getElem?_cons_succ, bne_self_eq_false, Int.reduceEq]
  refine (house_c h hm).go ?_
  simp only [go_sem, reduceIte, reduceCtorEq, Nat.reduceEqDiff, Nat.reduceBEq, Nat.reduceAdd, Nat.reduceMul, Nat.reduceLeDiff, List.getElem?_cons_zero, List.getElem?_cons_succ, bne_self_eq_false, Int.reduceEq]
  refine (first_c h hm.tsm hm.sk).go ?_
  by_cases c2 : checkHouse h = 0
  rotate_left
  · simp only [go_sem, reduceIte, reduceCtorEq, Nat.reduceEqDiff, Nat.reduceBEq, Nat.reduceAdd, Nat.reduceMul, Nat.reduceLeDiff, List.getElem?_cons_zero, List.getElem?_cons_succ, bne_self_eq_false, Int.reduceEq, firstR, c2]
    refine (house_c h hm).go ?_
    simp only [go_sem, reduceIte, reduceCtorEq, Nat.reduceEqDiff, Nat.reduceBEq, Nat.reduceAdd, Nat.reduceMul, Nat.reduceLeDiff, List.getElem?_cons_zero, List.getElem?_cons_succ, bne_self_eq_false, Int.reduceEq]
    refine (leave_c h hm.tsm hm.sk).go ?_
    simp only [go_sem, reduceIte, reduceCtorEq, Nat.reduceEqDiff, Nat.reduceBEq, Nat.reduceAdd, Nat.reduceMul, Nat.reduceLeDiff, List.getElem?_cons_zero, List.getElem?_cons_succ, bne_self_eq_false, Int.reduceEq, listR, c2]
    refine (fault_c h hm).go ?_
    simp only [go_sem, reduceIte, reduceCtorEq, Nat.reduceEqDiff, Nat.reduceBEq, Nat.reduceAdd, Nat.reduceMul, Nat.reduceLeDiff, List.getElem?_cons_zero, List.getElem?_cons_succ, bne_self_eq_false, Int.reduceEq, c2]
    refine awake_c.go ?_
    simp only [go_sem, reduceIte, reduceCtorEq, Nat.reduceEqDiff, Nat.reduceBEq, Nat.reduceAdd, Nat.reduceMul, Nat.reduceLeDiff, List.getElem?_cons_zero, List.getElem?_cons_succ, bne_self_eq_false, Int.reduceEq]
    exact fin_ret 2 (by simp [upd_at]) ⟨_, H, Settle.refl e1, by simp [upd_at], rfl⟩
  have hv := hv_of hm.tsm hm.sk c2
  have hf := first_eq hv
  have ha := allR_len h
  have hsm : Sm (allR h).length := by unfold Sm; omega
  have hlt := allR_lt hv.ok.signs
  have hll := leaveOf_len hv
  cases c3 : (List.range h.signs.length).find? (badAt h) with
  | none =>
    rw [c3] at hf
    simp only [go_sem, reduceIte, reduceCtorEq, Nat.reduceEqDiff, Nat.reduceBEq, Nat.reduceAdd, Nat.reduceMul, Nat.reduceLeDiff, List.getElem?_cons_zero, List.getElem?_cons_succ, bne_self_eq_false, Int.reduceEq, firstR, c2, c3]
    refine (house_c h hm).go ?_
    simp only [go_sem, reduceIte, reduceCtorEq, Nat.reduceEqDiff, Nat.reduceBEq, Nat.reduceAdd, Nat.reduceMul, Nat.reduceLeDiff, List.getElem?_cons_zero, List.getElem?_cons_succ, bne_self_eq_false, Int.reduceEq]
    refine (leave_c h hm.tsm hm.sk).go ?_
    simp only [go_sem, reduceIte, reduceCtorEq, Nat.reduceEqDiff, Nat.reduceBEq, Nat.reduceAdd, Nat.reduceMul, Nat.reduceLeDiff, List.getElem?_cons_zero, List.getElem?_cons_succ, bne_self_eq_false, Int.reduceEq, listR, c2]
    refine (fault_c h hm).go ?_
    simp only [go_sem, reduceIte, reduceCtorEq, Nat.reduceEqDiff, Nat.reduceBEq, Nat.reduceAdd, Nat.reduceMul, Nat.reduceLeDiff, List.getElem?_cons_zero, List.getElem?_cons_succ, bne_self_eq_false, Int.reduceEq, c2]
    refine (allR_c h hv).go ?_
    simp only [go_sem, reduceIte, reduceCtorEq, Nat.reduceEqDiff, Nat.reduceBEq, Nat.reduceAdd, Nat.reduceMul, Nat.reduceLeDiff, List.getElem?_cons_zero, List.getElem?_cons_succ, bne_self_eq_false, Int.reduceEq]
    refine (leaveR_c h hv.ok.signs (allR h) hsm hlt).go ?_
    rw [leave_eq hv]
    simp only [go_sem, reduceIte, reduceCtorEq, Nat.reduceEqDiff, Nat.reduceBEq, Nat.reduceAdd, Nat.reduceMul, Nat.reduceLeDiff, List.getElem?_cons_zero, List.getElem?_cons_succ, bne_self_eq_false, Int.reduceEq]
    refine (same_c (leaveOf h) (leaveOf h) (by unfold Sm; omega)).go ?_
    simp only [go_sem, reduceIte, reduceCtorEq, Nat.reduceEqDiff, Nat.reduceBEq, Nat.reduceAdd, Nat.reduceMul, Nat.reduceLeDiff, List.getElem?_cons_zero, List.getElem?_cons_succ, bne_self_eq_false, Int.reduceEq]
    refine (firstR_c h hv.ok.signs (allR h) hsm hlt).go ?_
    rw [hf]
    simp only [go_sem, reduceIte, reduceCtorEq, Nat.reduceEqDiff, Nat.reduceBEq, Nat.reduceAdd, Nat.reduceMul, Nat.reduceLeDiff, List.getElem?_cons_zero, List.getElem?_cons_succ, bne_self_eq_false, Int.reduceEq, show ((-1 : Int) < 0) by omega]
    refine awake_c.go ?_
    simp only [go_sem, reduceIte, reduceCtorEq, Nat.reduceEqDiff, Nat.reduceBEq, Nat.reduceAdd, Nat.reduceMul, Nat.reduceLeDiff, List.getElem?_cons_zero, List.getElem?_cons_succ, bne_self_eq_false, Int.reduceEq]
    exact fin_ret 2 (by simp [upd_at]) ⟨_, H, Settle.refl e1, by simp [upd_at], rfl⟩
  | some i =>
    rw [c3] at hf
    simp only [go_sem, reduceIte, reduceCtorEq, Nat.reduceEqDiff, Nat.reduceBEq, Nat.reduceAdd, Nat.reduceMul, Nat.reduceLeDiff, List.getElem?_cons_zero, List.getElem?_cons_succ, bne_self_eq_false, Int.reduceEq, firstR, c2, c3]
    refine (house_c h hm).go ?_
    simp only [go_sem, reduceIte, reduceCtorEq, Nat.reduceEqDiff, Nat.reduceBEq, Nat.reduceAdd, Nat.reduceMul, Nat.reduceLeDiff, List.getElem?_cons_zero, List.getElem?_cons_succ, bne_self_eq_false, Int.reduceEq]
    refine (leave_c h hm.tsm hm.sk).go ?_
    simp only [go_sem, reduceIte, reduceCtorEq, Nat.reduceEqDiff, Nat.reduceBEq, Nat.reduceAdd, Nat.reduceMul, Nat.reduceLeDiff, List.getElem?_cons_zero, List.getElem?_cons_succ, bne_self_eq_false, Int.reduceEq, listR, c2]
    refine (fault_c h hm).go ?_
    simp only [go_sem, reduceIte, reduceCtorEq, Nat.reduceEqDiff, Nat.reduceBEq, Nat.reduceAdd, Nat.reduceMul, Nat.reduceLeDiff, List.getElem?_cons_zero, List.getElem?_cons_succ, bne_self_eq_false, Int.reduceEq, c2]
    refine (allR_c h hv).go ?_
    simp only [go_sem, reduceIte, reduceCtorEq, Nat.reduceEqDiff, Nat.reduceBEq, Nat.reduceAdd, Nat.reduceMul, Nat.reduceLeDiff, List.getElem?_cons_zero, List.getElem?_cons_succ, bne_self_eq_false, Int.reduceEq]
    refine (leaveR_c h hv.ok.signs (allR h) hsm hlt).go ?_
    rw [leave_eq hv]
    simp only [go_sem, reduceIte, reduceCtorEq, Nat.reduceEqDiff, Nat.reduceBEq, Nat.reduceAdd, Nat.reduceMul, Nat.reduceLeDiff, List.getElem?_cons_zero, List.getElem?_cons_succ, bne_self_eq_false, Int.reduceEq]
    refine (same_c (leaveOf h) (leaveOf h) (by unfold Sm; omega)).go ?_
    simp only [go_sem, reduceIte, reduceCtorEq, Nat.reduceEqDiff, Nat.reduceBEq, Nat.reduceAdd, Nat.reduceMul, Nat.reduceLeDiff, List.getElem?_cons_zero, List.getElem?_cons_succ, bne_self_eq_false, Int.reduceEq]
    refine (firstR_c h hv.ok.signs (allR h) hsm hlt).go ?_
    rw [hf]
    simp only [go_sem, reduceIte, reduceCtorEq, Nat.reduceEqDiff, Nat.reduceBEq, Nat.reduceAdd, Nat.reduceMul, Nat.reduceLeDiff, List.getElem?_cons_zero, List.getElem?_cons_succ, bne_self_eq_false, Int.reduceEq, show ¬ ((i : Int) < 0) by omega]
    refine awake_c.go ?_
    simp only [go_sem, reduceIte, reduceCtorEq, Nat.reduceEqDiff, Nat.reduceBEq, Nat.reduceAdd, Nat.reduceMul, Nat.reduceLeDiff, List.getElem?_cons_zero, List.getElem?_cons_succ, bne_self_eq_false, Int.reduceEq]
    exact fin_ret 2 (by simp [upd_at]) ⟨_, H, Settle.refl e1, by simp [upd_at], rfl⟩
end Go.Lift

