/- Part 22 of the proof: the tools and contracts. Conditions: none. -/
import Derived.Test.YthnfcdkiaihfcaaGreatP21
set_option linter.unusedSimpArgs false
set_option linter.unusedVariables false
namespace Go.Lift
open Go Go.Proofs
theorem take_len {l : List AV} {n : Nat} (h : l.length = n) : l.take n = l := List.take_of_length_le (by omega)
/-- a function value that tests an element, in each heap that holds on to this one -/
def Tests (P : Program) (g : FuncId) (fs cs : List AV) (H : AHeap) (x : AV) (b : Bool) : Prop := ∀ H1, Ext H H1 → ACalls P g (fs ++ [x] ++ cs) H1 fun r H' => r = .bool b ∧ H' = H1
theorem Tests.ext {P : Program} {g : FuncId} {fs cs : List AV} {H H' : AHeap} {x : AV} {b : Bool} (t : Tests P g fs cs H x b) (e : Ext H H') : Tests P g fs cs H' x b := fun H1 e1 => t H1 (e.trans e1)

theorem idxf_woman {α : Type} (e : α → List AV) (he : ∀ x, (e x).length = 3) (l : List α) (p : α → Bool) (g : FuncId) (fs cs : List AV) (hl : Sm l.length) (H : AHeap) (hp : ∀ x ∈ l, Tests Tryz.prog g fs cs H (.agg (e x)) (p x)) :
    ACalls Tryz.prog 182 [.slice (l.map e), .func (.func g) fs cs] H fun r H' => H' = H ∧ ∃ k : Int, r = i6 k ∧ (0 ≤ k ↔ ∃ x ∈ l, p x = true) := by
  unfold Sm at hl
  refine fn_of hmix fc182 (by simp) ?_
  rw [ienv2]
  simp only [go_sem, reduceIte, reduceCtorEq, Nat.reduceEqDiff, Nat.reduceBEq, Nat.reduceAdd, Nat.reduceMul, Nat.reduceLeDiff, ac182]
  refine x_for l.length (fun j env H' => H' = H ∧ env 8 = i6 j ∧ env 7 = i6 l.length ∧ env 0 = .slice (l.map e) ∧ env 1 = .func (.func g) fs cs ∧ env 19 = .any ∧ ∀ x ∈ l.take j, p x = false) (by simp [upd_at]) ?_
  rintro j env H' hj ⟨rfl, h5, h7, h0, h1, hN, hq⟩
  by_cases hlt : (j : Int) < (l.length : Int)
  · have hlt' : j < l.length := by omega
    simp only [go_sem, reduceIte, reduceCtorEq, Nat.reduceEqDiff, Nat.reduceBEq, Nat.reduceAdd, Nat.reduceMul, Nat.reduceLeDiff, h5, h0, h1, h7, hlt, map_get (f := e) hlt', he, take_len (he _)]
    refine (hp l[j] (List.getElem_mem _) _ (Ext.refl _)).mono ?_
    rintro _ H' ⟨rfl, rfl⟩
    simp only [go_sem, reduceIte, reduceCtorEq, Nat.reduceEqDiff, Nat.reduceBEq, Nat.reduceAdd, Nat.reduceMul, Nat.reduceLeDiff]
    cases hpj : p l[j]
    · simp only [go_sem, reduceIte, reduceCtorEq, Nat.reduceEqDiff, Nat.reduceBEq, Nat.reduceAdd, Nat.reduceMul, Nat.reduceLeDiff, h5, h0, h1, h7, hN, hlt', wsucc (show j < 4611686018427387904 by omega)]
      intro x hx
      rcases (mem_take_succ hlt').1 hx with h | h
      · exact hq x h
      · rw [h]; exact hpj
    · simp only [go_sem, reduceIte, reduceCtorEq, Nat.reduceEqDiff, Nat.reduceBEq, Nat.reduceAdd, Nat.reduceMul, Nat.reduceLeDiff, h5, h0, h1, h7, hN]
      refine fin_ret' 4 (by simp [upd_at, hN]) ?_
      simp only [upd_at, if_true, true_and]
      exact ⟨j, rfl, by simp; exact ⟨l[j], List.getElem_mem _, hpj⟩⟩
  · simp only [go_sem, reduceIte, reduceCtorEq, Nat.reduceEqDiff, Nat.reduceBEq, Nat.reduceAdd, Nat.reduceMul, Nat.reduceLeDiff, h5, h0, h1, h7, hlt]
    refine fin_ret' 4 (by simp [upd_at, hN]) ?_
    have : j = l.length := by omega
    subst this
    simp only [List.take_length] at hq
    simp only [upd_at, if_true, true_and]
    refine ⟨-1, rfl, by simp; exact fun x hx => hq x hx⟩
theorem conf_woman {α : Type} (e : α → List AV) (he : ∀ x, (e x).length = 3) (l : List α) (p : α → Bool) (g : FuncId) (fs cs : List AV) (hl : Sm l.length) (H : AHeap) (hp : ∀ x ∈ l, Tests Tryz.prog g fs cs H (.agg (e x)) (p x)) :
    ACalls Tryz.prog 178 [.slice (l.map e), .func (.func g) fs cs] H fun r H' => r = .bool (l.any p) ∧ H' = H := by
  refine fn_of hmix fc178 (by simp) ?_
  rw [ienv2]
  simp only [go_sem, reduceIte, reduceCtorEq, Nat.reduceEqDiff, Nat.reduceBEq, Nat.reduceAdd, Nat.reduceMul, Nat.reduceLeDiff, ac178]
  refine (idxf_woman e he l p g fs cs hl H hp).mono ?_
  rintro _ H' ⟨rfl, k, rfl, hk⟩
  simp only [go_sem, reduceIte, reduceCtorEq, Nat.reduceEqDiff, Nat.reduceBEq, Nat.reduceAdd, Nat.reduceMul, Nat.reduceLeDiff]
  refine fin_ret' 4 (by simp [upd_at]) ?_
  simp only [upd_at, if_true, and_true, AV.bool.injEq]
  rw [Bool.eq_iff_iff, decide_eq_true_eq, hk, List.any_eq_true]
theorem allc_woman {α : Type} (e : α → List AV) (he : ∀ x, (e x).length = 3) (x : α) (p : α → Bool) (g : FuncId) (fs cs : List AV) (H : AHeap) (b : Nat) (hb : H b = some (.box [.func (.func g) fs cs])) (hp : Tests Tryz.prog g fs cs H (.agg (e x)) (p x)) :
    Tests Tryz.prog 179 [] [.ptr b 0] H (.agg (e x)) (!p x) := by
  intro H1 e1
  refine fn_of hmix fc179 (by simp) ?_
  simp only [List.nil_append, List.cons_append]
  rw [ienv2]
  simp only [go_sem, reduceIte, reduceCtorEq, Nat.reduceEqDiff, Nat.reduceBEq, Nat.reduceAdd, Nat.reduceMul, Nat.reduceLeDiff, ac179]
  refine v_box _ rfl fun b2 hb2 => ?_
  have hne : b ≠ b2 := fun h => by subst h; rw [e1 _ _ hb] at hb2; cases hb2
  simp only [go_sem, reduceIte, reduceCtorEq, Nat.reduceEqDiff, Nat.reduceBEq, Nat.reduceAdd, Nat.reduceMul, Nat.reduceLeDiff, updH_ne _ _ hne, e1 _ _ hb, he, take_len (he _)]
  refine (hp _ (e1.trans ((Ext.refl _).new hb2 _))).mono ?_
  rintro _ H' ⟨rfl, rfl⟩
  simp only [go_sem, reduceIte, reduceCtorEq, Nat.reduceEqDiff, Nat.reduceBEq, Nat.reduceAdd, Nat.reduceMul, Nat.reduceLeDiff]
  refine fin_ret 3 (by simp [upd_at]) ⟨_, H1, Settle.refl ((Ext.refl H1).new hb2 _), ?_⟩
  simp [upd_at]
theorem all_woman {α : Type} (e : α → List AV) (he : ∀ x, (e x).length = 3) (l : List α) (p : α → Bool) (g : FuncId) (fs cs : List AV) (hl : Sm l.length) (H : AHeap) (hp : ∀ x ∈ l, Tests Tryz.prog g fs cs H (.agg (e x)) (p x)) :
    ACalls Tryz.prog 160 [.slice (l.map e), .func (.func g) fs cs] H fun r H' => r = .bool (l.all p) ∧ H' = H := by
  refine fn_of hmix fc160 (by simp) ?_
  rw [ienv2]
  simp only [go_sem, reduceIte, reduceCtorEq, Nat.reduceEqDiff, Nat.reduceBEq, Nat.reduceAdd, Nat.reduceMul, Nat.reduceLeDiff, ac160]
  refine v_box _ rfl fun b hb => ?_
  simp only [go_sem, reduceIte, reduceCtorEq, Nat.reduceEqDiff, Nat.reduceBEq, Nat.reduceAdd, Nat.reduceMul, Nat.reduceLeDiff, AV.cells]
  refine (conf_woman e he l (fun x => !p x) 179 [] [.ptr b 0] hl _ (fun x hx => allc_woman e he x p g fs cs _ b (updH_same _ _ _) ((hp x hx).ext ((Ext.refl _).new hb _)))).mono ?_
  rintro _ H' ⟨rfl, rfl⟩
  simp only [go_sem, reduceIte, reduceCtorEq, Nat.reduceEqDiff, Nat.reduceBEq, Nat.reduceAdd, Nat.reduceMul, Nat.reduceLeDiff]
  refine fin_ret 4 (by simp [upd_at]) ⟨_, H, Settle.refl ((Ext.refl H).new hb _), ?_⟩
  simp only [upd_at, if_true, and_true, AV.bool.injEq]
  rw [List.all_eq_not_any_not]

theorem idxf_piece {α : Type} (e : α → List AV) (he : ∀ x, (e x).length = 2) (l : List α) (p : α → Bool) (g : FuncId) (fs cs : List AV) (hl : Sm l.length) (H : AHeap) (hp : ∀ x ∈ l, Tests Tryz.prog g fs cs H (.agg (e x)) (p x)) :
    ACalls Tryz.prog 183 [.slice (l.map e), .func (.func g) fs cs] H fun r H' => H' = H ∧ ∃ k : Int, r = i6 k ∧ (0 ≤ k ↔ ∃ x ∈ l, p x = true) := by
  unfold Sm at hl
  refine fn_of hmix fc183 (by simp) ?_
  rw [ienv2]
  simp only [go_sem, reduceIte, reduceCtorEq, Nat.reduceEqDiff, Nat.reduceBEq, Nat.reduceAdd, Nat.reduceMul, Nat.reduceLeDiff, ac183]
  refine x_for l.length (fun j env H' => H' = H ∧ env 8 = i6 j ∧ env 7 = i6 l.length ∧ env 0 = .slice (l.map e) ∧ env 1 = .func (.func g) fs cs ∧ env 19 = .any ∧ ∀ x ∈ l.take j, p x = false) (by simp [upd_at]) ?_
  rintro j env H' hj ⟨rfl, h5, h7, h0, h1, hN, hq⟩
  by_cases hlt : (j : Int) < (l.length : Int)
  · have hlt' : j < l.length := by omega
    simp only [go_sem, reduceIte, reduceCtorEq, Nat.reduceEqDiff, Nat.reduceBEq, Nat.reduceAdd, Nat.reduceMul, Nat.reduceLeDiff, h5, h0, h1, h7, hlt, map_get (f := e) hlt', he, take_len (he _)]
    refine (hp l[j] (List.getElem_mem _) _ (Ext.refl _)).mono ?_
    rintro _ H' ⟨rfl, rfl⟩
    simp only [go_sem, reduceIte, reduceCtorEq, Nat.reduceEqDiff, Nat.reduceBEq, Nat.reduceAdd, Nat.reduceMul, Nat.reduceLeDiff]
    cases hpj : p l[j]
    · simp only [go_sem, reduceIte, reduceCtorEq, Nat.reduceEqDiff, Nat.reduceBEq, Nat.reduceAdd, Nat.reduceMul, Nat.reduceLeDiff, h5, h0, h1, h7, hN, hlt', wsucc (show j < 4611686018427387904 by omega)]
      intro x hx
      rcases (mem_take_succ hlt').1 hx with h | h
      · exact hq x h
      · rw [h]; exact hpj
    · simp only [go_sem, reduceIte, reduceCtorEq, Nat.reduceEqDiff, Nat.reduceBEq, Nat.reduceAdd, Nat.reduceMul, Nat.reduceLeDiff, h5, h0, h1, h7, hN]
      refine fin_ret' 4 (by simp [upd_at, hN]) ?_
      simp only [upd_at, if_true, true_and]
      exact ⟨j, rfl, by simp; exact ⟨l[j], List.getElem_mem _, hpj⟩⟩
  · simp only [go_sem, reduceIte, reduceCtorEq, Nat.reduceEqDiff, Nat.reduceBEq, Nat.reduceAdd, Nat.reduceMul, Nat.reduceLeDiff, h5, h0, h1, h7, hlt]
    refine fin_ret' 4 (by simp [upd_at, hN]) ?_
    have : j = l.length := by omega
    subst this
    simp only [List.take_length] at hq
    simp only [upd_at, if_true, true_and]
    refine ⟨-1, rfl, by simp; exact fun x hx => hq x hx⟩
theorem conf_piece {α : Type} (e : α → List AV) (he : ∀ x, (e x).length = 2) (l : List α) (p : α → Bool) (g : FuncId) (fs cs : List AV) (hl : Sm l.length) (H : AHeap) (hp : ∀ x ∈ l, Tests Tryz.prog g fs cs H (.agg (e x)) (p x)) :
    ACalls Tryz.prog 180 [.slice (l.map e), .func (.func g) fs cs] H fun r H' => r = .bool (l.any p) ∧ H' = H := by
  refine fn_of hmix fc180 (by simp) ?_
  rw [ienv2]
  simp only [go_sem, reduceIte, reduceCtorEq, Nat.reduceEqDiff, Nat.reduceBEq, Nat.reduceAdd, Nat.reduceMul, Nat.reduceLeDiff, ac180]
  refine (idxf_piece e he l p g fs cs hl H hp).mono ?_
  rintro _ H' ⟨rfl, k, rfl, hk⟩
  simp only [go_sem, reduceIte, reduceCtorEq, Nat.reduceEqDiff, Nat.reduceBEq, Nat.reduceAdd, Nat.reduceMul, Nat.reduceLeDiff]
  refine fin_ret' 4 (by simp [upd_at]) ?_
  simp only [upd_at, if_true, and_true, AV.bool.injEq]
  rw [Bool.eq_iff_iff, decide_eq_true_eq, hk, List.any_eq_true]
theorem allc_piece {α : Type} (e : α → List AV) (he : ∀ x, (e x).length = 2) (x : α) (p : α → Bool) (g : FuncId) (fs cs : List AV) (H : AHeap) (b : Nat) (hb : H b = some (.box [.func (.func g) fs cs])) (hp : Tests Tryz.prog g fs cs H (.agg (e x)) (p x)) :
    Tests Tryz.prog 181 [] [.ptr b 0] H (.agg (e x)) (!p x) := by
  intro H1 e1
  refine fn_of hmix fc181 (by simp) ?_
  simp only [List.nil_append, List.cons_append]
  rw [ienv2]
  simp only [go_sem, reduceIte, reduceCtorEq, Nat.reduceEqDiff, Nat.reduceBEq, Nat.reduceAdd, Nat.reduceMul, Nat.reduceLeDiff, ac181]
  refine v_box _ rfl fun b2 hb2 => ?_
  have hne : b ≠ b2 := fun h => by subst h; rw [e1 _ _ hb] at hb2; cases hb2
  simp only [go_sem, reduceIte, reduceCtorEq, Nat.reduceEqDiff, Nat.reduceBEq, Nat.reduceAdd, Nat.reduceMul, Nat.reduceLeDiff, updH_ne _ _ hne, e1 _ _ hb, he, take_len (he _)]
  refine (hp _ (e1.trans ((Ext.refl _).new hb2 _))).mono ?_
  rintro _ H' ⟨rfl, rfl⟩
  simp only [go_sem, reduceIte, reduceCtorEq, Nat.reduceEqDiff, Nat.reduceBEq, Nat.reduceAdd, Nat.reduceMul, Nat.reduceLeDiff]
  refine fin_ret 3 (by simp [upd_at]) ⟨_, H1, Settle.refl ((Ext.refl H1).new hb2 _), ?_⟩
  simp [upd_at]
theorem all_piece {α : Type} (e : α → List AV) (he : ∀ x, (e x).length = 2) (l : List α) (p : α → Bool) (g : FuncId) (fs cs : List AV) (hl : Sm l.length) (H : AHeap) (hp : ∀ x ∈ l, Tests Tryz.prog g fs cs H (.agg (e x)) (p x)) :
    ACalls Tryz.prog 162 [.slice (l.map e), .func (.func g) fs cs] H fun r H' => r = .bool (l.all p) ∧ H' = H := by
  refine fn_of hmix fc162 (by simp) ?_
  rw [ienv2]
  simp only [go_sem, reduceIte, reduceCtorEq, Nat.reduceEqDiff, Nat.reduceBEq, Nat.reduceAdd, Nat.reduceMul, Nat.reduceLeDiff, ac162]
  refine v_box _ rfl fun b hb => ?_
  simp only [go_sem, reduceIte, reduceCtorEq, Nat.reduceEqDiff, Nat.reduceBEq, Nat.reduceAdd, Nat.reduceMul, Nat.reduceLeDiff, AV.cells]
  refine (conf_piece e he l (fun x => !p x) 181 [] [.ptr b 0] hl _ (fun x hx => allc_piece e he x p g fs cs _ b (updH_same _ _ _) ((hp x hx).ext ((Ext.refl _).new hb _)))).mono ?_
  rintro _ H' ⟨rfl, rfl⟩
  simp only [go_sem, reduceIte, reduceCtorEq, Nat.reduceEqDiff, Nat.reduceBEq, Nat.reduceAdd, Nat.reduceMul, Nat.reduceLeDiff]
  refine fin_ret 4 (by simp [upd_at]) ⟨_, H, Settle.refl ((Ext.refl H).new hb _), ?_⟩
  simp only [upd_at, if_true, and_true, AV.bool.injEq]
  rw [List.all_eq_not_any_not]

theorem idxf_touch {α : Type} (e : α → List AV) (he : ∀ x, (e x).length = 4) (l : List α) (p : α → Bool) (g : FuncId) (fs cs : List AV) (hl : Sm l.length) (H : AHeap) (hp : ∀ x ∈ l, Tests Tryz.prog g fs cs H (.agg (e x)) (p x)) :
    ACalls Tryz.prog 172 [.slice (l.map e), .func (.func g) fs cs] H fun r H' => H' = H ∧ ∃ k : Int, r = i6 k ∧ (0 ≤ k ↔ ∃ x ∈ l, p x = true) := by
  unfold Sm at hl
  refine fn_of hmix fc172 (by simp) ?_
  rw [ienv2]
  simp only [go_sem, reduceIte, reduceCtorEq, Nat.reduceEqDiff, Nat.reduceBEq, Nat.reduceAdd, Nat.reduceMul, Nat.reduceLeDiff, ac172]
  refine x_for l.length (fun j env H' => H' = H ∧ env 8 = i6 j ∧ env 7 = i6 l.length ∧ env 0 = .slice (l.map e) ∧ env 1 = .func (.func g) fs cs ∧ env 19 = .any ∧ ∀ x ∈ l.take j, p x = false) (by simp [upd_at]) ?_
  rintro j env H' hj ⟨rfl, h5, h7, h0, h1, hN, hq⟩
  by_cases hlt : (j : Int) < (l.length : Int)
  · have hlt' : j < l.length := by omega
    simp only [go_sem, reduceIte, reduceCtorEq, Nat.reduceEqDiff, Nat.reduceBEq, Nat.reduceAdd, Nat.reduceMul, Nat.reduceLeDiff, h5, h0, h1, h7, hlt, map_get (f := e) hlt', he, take_len (he _)]
    refine (hp l[j] (List.getElem_mem _) _ (Ext.refl _)).mono ?_
    rintro _ H' ⟨rfl, rfl⟩
    simp only [go_sem, reduceIte, reduceCtorEq, Nat.reduceEqDiff, Nat.reduceBEq, Nat.reduceAdd, Nat.reduceMul, Nat.reduceLeDiff]
    cases hpj : p l[j]
    · simp only [go_sem, reduceIte, reduceCtorEq, Nat.reduceEqDiff, Nat.reduceBEq, Nat.reduceAdd, Nat.reduceMul, Nat.reduceLeDiff, h5, h0, h1, h7, hN, hlt', wsucc (show j < 4611686018427387904 by omega)]
      intro x hx
      rcases (mem_take_succ hlt').1 hx with h | h
      · exact hq x h
      · rw [h]; exact hpj
    · simp only [go_sem, reduceIte, reduceCtorEq, Nat.reduceEqDiff, Nat.reduceBEq, Nat.reduceAdd, Nat.reduceMul, Nat.reduceLeDiff, h5, h0, h1, h7, hN]
      refine fin_ret' 4 (by simp [upd_at, hN]) ?_
      simp only [upd_at, if_true, true_and]
      exact ⟨j, rfl, by simp; exact ⟨l[j], List.getElem_mem _, hpj⟩⟩
  · simp only [go_sem, reduceIte, reduceCtorEq, Nat.reduceEqDiff, Nat.reduceBEq, Nat.reduceAdd, Nat.reduceMul, Nat.reduceLeDiff, h5, h0, h1, h7, hlt]
    refine fin_ret' 4 (by simp [upd_at, hN]) ?_
    have : j = l.length := by omega
    subst this
    simp only [List.take_length] at hq
    simp only [upd_at, if_true, true_and]
    refine ⟨-1, rfl, by simp; exact fun x hx => hq x hx⟩
theorem conf_touch {α : Type} (e : α → List AV) (he : ∀ x, (e x).length = 4) (l : List α) (p : α → Bool) (g : FuncId) (fs cs : List AV) (hl : Sm l.length) (H : AHeap) (hp : ∀ x ∈ l, Tests Tryz.prog g fs cs H (.agg (e x)) (p x)) :
    ACalls Tryz.prog 142 [.slice (l.map e), .func (.func g) fs cs] H fun r H' => r = .bool (l.any p) ∧ H' = H := by
  refine fn_of hmix fc142 (by simp) ?_
  rw [ienv2]
  simp only [go_sem, reduceIte, reduceCtorEq, Nat.reduceEqDiff, Nat.reduceBEq, Nat.reduceAdd, Nat.reduceMul, Nat.reduceLeDiff, ac142]
  refine (idxf_touch e he l p g fs cs hl H hp).mono ?_
  rintro _ H' ⟨rfl, k, rfl, hk⟩
  simp only [go_sem, reduceIte, reduceCtorEq, Nat.reduceEqDiff, Nat.reduceBEq, Nat.reduceAdd, Nat.reduceMul, Nat.reduceLeDiff]
  refine fin_ret' 4 (by simp [upd_at]) ?_
  simp only [upd_at, if_true, and_true, AV.bool.injEq]
  rw [Bool.eq_iff_iff, decide_eq_true_eq, hk, List.any_eq_true]
theorem allc_touch {α : Type} (e : α → List AV) (he : ∀ x, (e x).length = 4) (x : α) (p : α → Bool) (g : FuncId) (fs cs : List AV) (H : AHeap) (b : Nat) (hb : H b = some (.box [.func (.func g) fs cs])) (hp : Tests Tryz.prog g fs cs H (.agg (e x)) (p x)) :
    Tests Tryz.prog 143 [] [.ptr b 0] H (.agg (e x)) (!p x) := by
  intro H1 e1
  refine fn_of hmix fc143 (by simp) ?_
  simp only [List.nil_append, List.cons_append]
  rw [ienv2]
  simp only [go_sem, reduceIte, reduceCtorEq, Nat.reduceEqDiff, Nat.reduceBEq, Nat.reduceAdd, Nat.reduceMul, Nat.reduceLeDiff, ac143]
  refine v_box _ rfl fun b2 hb2 => ?_
  have hne : b ≠ b2 := fun h => by subst h; rw [e1 _ _ hb] at hb2; cases hb2
  simp only [go_sem, reduceIte, reduceCtorEq, Nat.reduceEqDiff, Nat.reduceBEq, Nat.reduceAdd, Nat.reduceMul, Nat.reduceLeDiff, updH_ne _ _ hne, e1 _ _ hb, he, take_len (he _)]
  refine (hp _ (e1.trans ((Ext.refl _).new hb2 _))).mono ?_
  rintro _ H' ⟨rfl, rfl⟩
  simp only [go_sem, reduceIte, reduceCtorEq, Nat.reduceEqDiff, Nat.reduceBEq, Nat.reduceAdd, Nat.reduceMul, Nat.reduceLeDiff]
  refine fin_ret 3 (by simp [upd_at]) ⟨_, H1, Settle.refl ((Ext.refl H1).new hb2 _), ?_⟩
  simp [upd_at]
theorem all_touch {α : Type} (e : α → List AV) (he : ∀ x, (e x).length = 4) (l : List α) (p : α → Bool) (g : FuncId) (fs cs : List AV) (hl : Sm l.length) (H : AHeap) (hp : ∀ x ∈ l, Tests Tryz.prog g fs cs H (.agg (e x)) (p x)) :
    ACalls Tryz.prog 118 [.slice (l.map e), .func (.func g) fs cs] H fun r H' => r = .bool (l.all p) ∧ H' = H := by
  refine fn_of hmix fc118 (by simp) ?_
  rw [ienv2]
  simp only [go_sem, reduceIte, reduceCtorEq, Nat.reduceEqDiff, Nat.reduceBEq, Nat.reduceAdd, Nat.reduceMul, Nat.reduceLeDiff, ac118]
  refine v_box _ rfl fun b hb => ?_
  simp only [go_sem, reduceIte, reduceCtorEq, Nat.reduceEqDiff, Nat.reduceBEq, Nat.reduceAdd, Nat.reduceMul, Nat.reduceLeDiff, AV.cells]
  refine (conf_touch e he l (fun x => !p x) 143 [] [.ptr b 0] hl _ (fun x hx => allc_touch e he x p g fs cs _ b (updH_same _ _ _) ((hp x hx).ext ((Ext.refl _).new hb _)))).mono ?_
  rintro _ H' ⟨rfl, rfl⟩
  simp only [go_sem, reduceIte, reduceCtorEq, Nat.reduceEqDiff, Nat.reduceBEq, Nat.reduceAdd, Nat.reduceMul, Nat.reduceLeDiff]
  refine fin_ret 4 (by simp [upd_at]) ⟨_, H, Settle.refl ((Ext.refl H).new hb _), ?_⟩
  simp only [upd_at, if_true, and_true, AV.bool.injEq]
  rw [List.all_eq_not_any_not]

theorem idxf_boiling {α : Type} (e : α → List AV) (he : ∀ x, (e x).length = 2) (l : List α) (p : α → Bool) (g : FuncId) (fs cs : List AV) (hl : Sm l.length) (H : AHeap) (hp : ∀ x ∈ l, Tests Tryz.prog g fs cs H (.agg (e x)) (p x)) :
    ACalls Tryz.prog 173 [.slice (l.map e), .func (.func g) fs cs] H fun r H' => H' = H ∧ ∃ k : Int, r = i6 k ∧ (0 ≤ k ↔ ∃ x ∈ l, p x = true) := by
  unfold Sm at hl
  refine fn_of hmix fc173 (by simp) ?_
  rw [ienv2]
  simp only [go_sem, reduceIte, reduceCtorEq, Nat.reduceEqDiff, Nat.reduceBEq, Nat.reduceAdd, Nat.reduceMul, Nat.reduceLeDiff, ac173]
  refine x_for l.length (fun j env H' => H' = H ∧ env 8 = i6 j ∧ env 7 = i6 l.length ∧ env 0 = .slice (l.map e) ∧ env 1 = .func (.func g) fs cs ∧ env 19 = .any ∧ ∀ x ∈ l.take j, p x = false) (by simp [upd_at]) ?_
  rintro j env H' hj ⟨rfl, h5, h7, h0, h1, hN, hq⟩
  by_cases hlt : (j : Int) < (l.length : Int)
  · have hlt' : j < l.length := by omega
    simp only [go_sem, reduceIte, reduceCtorEq, Nat.reduceEqDiff, Nat.reduceBEq, Nat.reduceAdd, Nat.reduceMul, Nat.reduceLeDiff, h5, h0, h1, h7, hlt, map_get (f := e) hlt', he, take_len (he _)]
    refine (hp l[j] (List.getElem_mem _) _ (Ext.refl _)).mono ?_
    rintro _ H' ⟨rfl, rfl⟩
    simp only [go_sem, reduceIte, reduceCtorEq, Nat.reduceEqDiff, Nat.reduceBEq, Nat.reduceAdd, Nat.reduceMul, Nat.reduceLeDiff]
    cases hpj : p l[j]
    · simp only [go_sem, reduceIte, reduceCtorEq, Nat.reduceEqDiff, Nat.reduceBEq, Nat.reduceAdd, Nat.reduceMul, Nat.reduceLeDiff, h5, h0, h1, h7, hN, hlt', wsucc (show j < 4611686018427387904 by omega)]
      intro x hx
      rcases (mem_take_succ hlt').1 hx with h | h
      · exact hq x h
      · rw [h]; exact hpj
    · simp only [go_sem, reduceIte, reduceCtorEq, Nat.reduceEqDiff, Nat.reduceBEq, Nat.reduceAdd, Nat.reduceMul, Nat.reduceLeDiff, h5, h0, h1, h7, hN]
      refine fin_ret' 4 (by simp [upd_at, hN]) ?_
      simp only [upd_at, if_true, true_and]
      exact ⟨j, rfl, by simp; exact ⟨l[j], List.getElem_mem _, hpj⟩⟩
  · simp only [go_sem, reduceIte, reduceCtorEq, Nat.reduceEqDiff, Nat.reduceBEq, Nat.reduceAdd, Nat.reduceMul, Nat.reduceLeDiff, h5, h0, h1, h7, hlt]
    refine fin_ret' 4 (by simp [upd_at, hN]) ?_
    have : j = l.length := by omega
    subst this
    simp only [List.take_length] at hq
    simp only [upd_at, if_true, true_and]
    refine ⟨-1, rfl, by simp; exact fun x hx => hq x hx⟩
theorem conf_boiling {α : Type} (e : α → List AV) (he : ∀ x, (e x).length = 2) (l : List α) (p : α → Bool) (g : FuncId) (fs cs : List AV) (hl : Sm l.length) (H : AHeap) (hp : ∀ x ∈ l, Tests Tryz.prog g fs cs H (.agg (e x)) (p x)) :
    ACalls Tryz.prog 144 [.slice (l.map e), .func (.func g) fs cs] H fun r H' => r = .bool (l.any p) ∧ H' = H := by
  refine fn_of hmix fc144 (by simp) ?_
  rw [ienv2]
  simp only [go_sem, reduceIte, reduceCtorEq, Nat.reduceEqDiff, Nat.reduceBEq, Nat.reduceAdd, Nat.reduceMul, Nat.reduceLeDiff, ac144]
  refine (idxf_boiling e he l p g fs cs hl H hp).mono ?_
  rintro _ H' ⟨rfl, k, rfl, hk⟩
  simp only [go_sem, reduceIte, reduceCtorEq, Nat.reduceEqDiff, Nat.reduceBEq, Nat.reduceAdd, Nat.reduceMul, Nat.reduceLeDiff]
  refine fin_ret' 4 (by simp [upd_at]) ?_
  simp only [upd_at, if_true, and_true, AV.bool.injEq]
  rw [Bool.eq_iff_iff, decide_eq_true_eq, hk, List.any_eq_true]
theorem allc_boiling {α : Type} (e : α → List AV) (he : ∀ x, (e x).length = 2) (x : α) (p : α → Bool) (g : FuncId) (fs cs : List AV) (H : AHeap) (b : Nat) (hb : H b = some (.box [.func (.func g) fs cs])) (hp : Tests Tryz.prog g fs cs H (.agg (e x)) (p x)) :
    Tests Tryz.prog 145 [] [.ptr b 0] H (.agg (e x)) (!p x) := by
  intro H1 e1
  refine fn_of hmix fc145 (by simp) ?_
  simp only [List.nil_append, List.cons_append]
  rw [ienv2]
  simp only [go_sem, reduceIte, reduceCtorEq, Nat.reduceEqDiff, Nat.reduceBEq, Nat.reduceAdd, Nat.reduceMul, Nat.reduceLeDiff, ac145]
  refine v_box _ rfl fun b2 hb2 => ?_
  have hne : b ≠ b2 := fun h => by subst h; rw [e1 _ _ hb] at hb2; cases hb2
  simp only [go_sem, reduceIte, reduceCtorEq, Nat.reduceEqDiff, Nat.reduceBEq, Nat.reduceAdd, Nat.reduceMul, Nat.reduceLeDiff, updH_ne _ _ hne, e1 _ _ hb, he, take_len (he _)]
  refine (hp _ (e1.trans ((Ext.refl _).new hb2 _))).mono ?_
  rintro _ H' ⟨rfl, rfl⟩
  simp only [go_sem, reduceIte, reduceCtorEq, Nat.reduceEqDiff, Nat.reduceBEq, Nat.reduceAdd, Nat.reduceMul, Nat.reduceLeDiff]
  refine fin_ret 3 (by simp [upd_at]) ⟨_, H1, Settle.refl ((Ext.refl H1).new hb2 _), ?_⟩
  simp [upd_at]
theorem all_boiling {α : Type} (e : α → List AV) (he : ∀ x, (e x).length = 2) (l : List α) (p : α → Bool) (g : FuncId) (fs cs : List AV) (hl : Sm l.length) (H : AHeap) (hp : ∀ x ∈ l, Tests Tryz.prog g fs cs H (.agg (e x)) (p x)) :
    ACalls Tryz.prog 119 [.slice (l.map e), .func (.func g) fs cs] H fun r H' => r = .bool (l.all p) ∧ H' = H := by
  refine fn_of hmix fc119 (by simp) ?_
  rw [ienv2]
  simp only [go_sem, reduceIte, reduceCtorEq, Nat.reduceEqDiff, Nat.reduceBEq, Nat.reduceAdd, Nat.reduceMul, Nat.reduceLeDiff, ac119]
  refine v_box _ rfl fun b hb => ?_
  simp only [go_sem, reduceIte, reduceCtorEq, Nat.reduceEqDiff, Nat.reduceBEq, Nat.reduceAdd, Nat.reduceMul, Nat.reduceLeDiff, AV.cells]
  refine (conf_boiling e he l (fun x => !p x) 145 [] [.ptr b 0] hl _ (fun x hx => allc_boiling e he x p g fs cs _ b (updH_same _ _ _) ((hp x hx).ext ((Ext.refl _).new hb _)))).mono ?_
  rintro _ H' ⟨rfl, rfl⟩
  simp only [go_sem, reduceIte, reduceCtorEq, Nat.reduceEqDiff, Nat.reduceBEq, Nat.reduceAdd, Nat.reduceMul, Nat.reduceLeDiff]
  refine fin_ret 4 (by simp [upd_at]) ⟨_, H, Settle.refl ((Ext.refl H).new hb _), ?_⟩
  simp only [upd_at, if_true, and_true, AV.bool.injEq]
  rw [List.all_eq_not_any_not]

theorem idxf_sign {α : Type} (e : α → List AV) (he : ∀ x, (e x).length = 2) (l : List α) (p : α → Bool) (g : FuncId) (fs cs : List AV) (hl : Sm l.length) (H : AHeap) (hp : ∀ x ∈ l, Tests Tryz.prog g fs cs H (.agg (e x)) (p x)) :
    ACalls Tryz.prog 174 [.slice (l.map e), .func (.func g) fs cs] H fun r H' => H' = H ∧ ∃ k : Int, r = i6 k ∧ (0 ≤ k ↔ ∃ x ∈ l, p x = true) := by
  unfold Sm at hl
  refine fn_of hmix fc174 (by simp) ?_
  rw [ienv2]
  simp only [go_sem, reduceIte, reduceCtorEq, Nat.reduceEqDiff, Nat.reduceBEq, Nat.reduceAdd, Nat.reduceMul, Nat.reduceLeDiff, ac174]
  refine x_for l.length (fun j env H' => H' = H ∧ env 8 = i6 j ∧ env 7 = i6 l.length ∧ env 0 = .slice (l.map e) ∧ env 1 = .func (.func g) fs cs ∧ env 19 = .any ∧ ∀ x ∈ l.take j, p x = false) (by simp [upd_at]) ?_
  rintro j env H' hj ⟨rfl, h5, h7, h0, h1, hN, hq⟩
  by_cases hlt : (j : Int) < (l.length : Int)
  · have hlt' : j < l.length := by omega
    simp only [go_sem, reduceIte, reduceCtorEq, Nat.reduceEqDiff, Nat.reduceBEq, Nat.reduceAdd, Nat.reduceMul, Nat.reduceLeDiff, h5, h0, h1, h7, hlt, map_get (f := e) hlt', he, take_len (he _)]
    refine (hp l[j] (List.getElem_mem _) _ (Ext.refl _)).mono ?_
    rintro _ H' ⟨rfl, rfl⟩
    simp only [go_sem, reduceIte, reduceCtorEq, Nat.reduceEqDiff, Nat.reduceBEq, Nat.reduceAdd, Nat.reduceMul, Nat.reduceLeDiff]
    cases hpj : p l[j]
    · simp only [go_sem, reduceIte, reduceCtorEq, Nat.reduceEqDiff, Nat.reduceBEq, Nat.reduceAdd, Nat.reduceMul, Nat.reduceLeDiff, h5, h0, h1, h7, hN, hlt', wsucc (show j < 4611686018427387904 by omega)]
      intro x hx
      rcases (mem_take_succ hlt').1 hx with h | h
      · exact hq x h
      · rw [h]; exact hpj
    · simp only [go_sem, reduceIte, reduceCtorEq, Nat.reduceEqDiff, Nat.reduceBEq, Nat.reduceAdd, Nat.reduceMul, Nat.reduceLeDiff, h5, h0, h1, h7, hN]
      refine fin_ret' 4 (by simp [upd_at, hN]) ?_
      simp only [upd_at, if_true, true_and]
      exact ⟨j, rfl, by simp; exact ⟨l[j], List.getElem_mem _, hpj⟩⟩
  · simp only [go_sem, reduceIte, reduceCtorEq, Nat.reduceEqDiff, Nat.reduceBEq, Nat.reduceAdd, Nat.reduceMul, Nat.reduceLeDiff, h5, h0, h1, h7, hlt]
    refine fin_ret' 4 (by simp [upd_at, hN]) ?_
    have : j = l.length := by omega
    subst this
    simp only [List.take_length] at hq
    simp only [upd_at, if_true, true_and]
    refine ⟨-1, rfl, by simp; exact fun x hx => hq x hx⟩
theorem conf_sign {α : Type} (e : α → List AV) (he : ∀ x, (e x).length = 2) (l : List α) (p : α → Bool) (g : FuncId) (fs cs : List AV) (hl : Sm l.length) (H : AHeap) (hp : ∀ x ∈ l, Tests Tryz.prog g fs cs H (.agg (e x)) (p x)) :
    ACalls Tryz.prog 146 [.slice (l.map e), .func (.func g) fs cs] H fun r H' => r = .bool (l.any p) ∧ H' = H := by
  refine fn_of hmix fc146 (by simp) ?_
  rw [ienv2]
  simp only [go_sem, reduceIte, reduceCtorEq, Nat.reduceEqDiff, Nat.reduceBEq, Nat.reduceAdd, Nat.reduceMul, Nat.reduceLeDiff, ac146]
  refine (idxf_sign e he l p g fs cs hl H hp).mono ?_
  rintro _ H' ⟨rfl, k, rfl, hk⟩
  simp only [go_sem, reduceIte, reduceCtorEq, Nat.reduceEqDiff, Nat.reduceBEq, Nat.reduceAdd, Nat.reduceMul, Nat.reduceLeDiff]
  refine fin_ret' 4 (by simp [upd_at]) ?_
  simp only [upd_at, if_true, and_true, AV.bool.injEq]
  rw [Bool.eq_iff_iff, decide_eq_true_eq, hk, List.any_eq_true]
theorem allc_sign {α : Type} (e : α → List AV) (he : ∀ x, (e x).length = 2) (x : α) (p : α → Bool) (g : FuncId) (fs cs : List AV) (H : AHeap) (b : Nat) (hb : H b = some (.box [.func (.func g) fs cs])) (hp : Tests Tryz.prog g fs cs H (.agg (e x)) (p x)) :
    Tests Tryz.prog 147 [] [.ptr b 0] H (.agg (e x)) (!p x) := by
  intro H1 e1
  refine fn_of hmix fc147 (by simp) ?_
  simp only [List.nil_append, List.cons_append]
  rw [ienv2]
  simp only [go_sem, reduceIte, reduceCtorEq, Nat.reduceEqDiff, Nat.reduceBEq, Nat.reduceAdd, Nat.reduceMul, Nat.reduceLeDiff, ac147]
  refine v_box _ rfl fun b2 hb2 => ?_
  have hne : b ≠ b2 := fun h => by subst h; rw [e1 _ _ hb] at hb2; cases hb2
  simp only [go_sem, reduceIte, reduceCtorEq, Nat.reduceEqDiff, Nat.reduceBEq, Nat.reduceAdd, Nat.reduceMul, Nat.reduceLeDiff, updH_ne _ _ hne, e1 _ _ hb, he, take_len (he _)]
  refine (hp _ (e1.trans ((Ext.refl _).new hb2 _))).mono ?_
  rintro _ H' ⟨rfl, rfl⟩
  simp only [go_sem, reduceIte, reduceCtorEq, Nat.reduceEqDiff, Nat.reduceBEq, Nat.reduceAdd, Nat.reduceMul, Nat.reduceLeDiff]
  refine fin_ret 3 (by simp [upd_at]) ⟨_, H1, Settle.refl ((Ext.refl H1).new hb2 _), ?_⟩
  simp [upd_at]
theorem all_sign {α : Type} (e : α → List AV) (he : ∀ x, (e x).length = 2) (l : List α) (p : α → Bool) (g : FuncId) (fs cs : List AV) (hl : Sm l.length) (H : AHeap) (hp : ∀ x ∈ l, Tests Tryz.prog g fs cs H (.agg (e x)) (p x)) :
    ACalls Tryz.prog 120 [.slice (l.map e), .func (.func g) fs cs] H fun r H' => r = .bool (l.all p) ∧ H' = H := by
  refine fn_of hmix fc120 (by simp) ?_
  rw [ienv2]
  simp only [go_sem, reduceIte, reduceCtorEq, Nat.reduceEqDiff, Nat.reduceBEq, Nat.reduceAdd, Nat.reduceMul, Nat.reduceLeDiff, ac120]
  refine v_box _ rfl fun b hb => ?_
  simp only [go_sem, reduceIte, reduceCtorEq, Nat.reduceEqDiff, Nat.reduceBEq, Nat.reduceAdd, Nat.reduceMul, Nat.reduceLeDiff, AV.cells]
  refine (conf_sign e he l (fun x => !p x) 147 [] [.ptr b 0] hl _ (fun x hx => allc_sign e he x p g fs cs _ b (updH_same _ _ _) ((hp x hx).ext ((Ext.refl _).new hb _)))).mono ?_
  rintro _ H' ⟨rfl, rfl⟩
  simp only [go_sem, reduceIte, reduceCtorEq, Nat.reduceEqDiff, Nat.reduceBEq, Nat.reduceAdd, Nat.reduceMul, Nat.reduceLeDiff]
  refine fin_ret 4 (by simp [upd_at]) ⟨_, H, Settle.refl ((Ext.refl H).new hb _), ?_⟩
  simp only [upd_at, if_true, and_true, AV.bool.injEq]
  rw [List.all_eq_not_any_not]

theorem idxf_known {α : Type} (e : α → List AV) (he : ∀ x, (e x).length = 23) (l : List α) (p : α → Bool) (g : FuncId) (fs cs : List AV) (hl : Sm l.length) (H : AHeap) (hp : ∀ x ∈ l, Tests Tryz.prog g fs cs H (.agg (e x)) (p x)) :
    ACalls Tryz.prog 176 [.slice (l.map e), .func (.func g) fs cs] H fun r H' => H' = H ∧ ∃ k : Int, r = i6 k ∧ (0 ≤ k ↔ ∃ x ∈ l, p x = true) := by
  unfold Sm at hl
  refine fn_of hmix fc176 (by simp) ?_
  rw [ienv2]
  simp only [go_sem, reduceIte, reduceCtorEq, Nat.reduceEqDiff, Nat.reduceBEq, Nat.reduceAdd, Nat.reduceMul, Nat.reduceLeDiff, ac176]
  refine x_for l.length (fun j env H' => H' = H ∧ env 8 = i6 j ∧ env 7 = i6 l.length ∧ env 0 = .slice (l.map e) ∧ env 1 = .func (.func g) fs cs ∧ env 19 = .any ∧ ∀ x ∈ l.take j, p x = false) (by simp [upd_at]) ?_
  rintro j env H' hj ⟨rfl, h5, h7, h0, h1, hN, hq⟩
  by_cases hlt : (j : Int) < (l.length : Int)
  · have hlt' : j < l.length := by omega
    simp only [go_sem, reduceIte, reduceCtorEq, Nat.reduceEqDiff, Nat.reduceBEq, Nat.reduceAdd, Nat.reduceMul, Nat.reduceLeDiff, h5, h0, h1, h7, hlt, map_get (f := e) hlt', he, take_len (he _)]
    refine (hp l[j] (List.getElem_mem _) _ (Ext.refl _)).mono ?_
    rintro _ H' ⟨rfl, rfl⟩
    simp only [go_sem, reduceIte, reduceCtorEq, Nat.reduceEqDiff, Nat.reduceBEq, Nat.reduceAdd, Nat.reduceMul, Nat.reduceLeDiff]
    cases hpj : p l[j]
    · simp only [go_sem, reduceIte, reduceCtorEq, Nat.reduceEqDiff, Nat.reduceBEq, Nat.reduceAdd, Nat.reduceMul, Nat.reduceLeDiff, h5, h0, h1, h7, hN, hlt', wsucc (show j < 4611686018427387904 by omega)]
      intro x hx
      rcases (mem_take_succ hlt').1 hx with h | h
      · exact hq x h
      · rw [h]; exact hpj
    · simp only [go_sem, reduceIte, reduceCtorEq, Nat.reduceEqDiff, Nat.reduceBEq, Nat.reduceAdd, Nat.reduceMul, Nat.reduceLeDiff, h5, h0, h1, h7, hN]
      refine fin_ret' 4 (by simp [upd_at, hN]) ?_
      simp only [upd_at, if_true, true_and]
      exact ⟨j, rfl, by simp; exact ⟨l[j], List.getElem_mem _, hpj⟩⟩
  · simp only [go_sem, reduceIte, reduceCtorEq, Nat.reduceEqDiff, Nat.reduceBEq, Nat.reduceAdd, Nat.reduceMul, Nat.reduceLeDiff, h5, h0, h1, h7, hlt]
    refine fin_ret' 4 (by simp [upd_at, hN]) ?_
    have : j = l.length := by omega
    subst this
    simp only [List.take_length] at hq
    simp only [upd_at, if_true, true_and]
    refine ⟨-1, rfl, by simp; exact fun x hx => hq x hx⟩
theorem conf_known {α : Type} (e : α → List AV) (he : ∀ x, (e x).length = 23) (l : List α) (p : α → Bool) (g : FuncId) (fs cs : List AV) (hl : Sm l.length) (H : AHeap) (hp : ∀ x ∈ l, Tests Tryz.prog g fs cs H (.agg (e x)) (p x)) :
    ACalls Tryz.prog 156 [.slice (l.map e), .func (.func g) fs cs] H fun r H' => r = .bool (l.any p) ∧ H' = H := by
  refine fn_of hmix fc156 (by simp) ?_
  rw [ienv2]
  simp only [go_sem, reduceIte, reduceCtorEq, Nat.reduceEqDiff, Nat.reduceBEq, Nat.reduceAdd, Nat.reduceMul, Nat.reduceLeDiff, ac156]
  refine (idxf_known e he l p g fs cs hl H hp).mono ?_
  rintro _ H' ⟨rfl, k, rfl, hk⟩
  simp only [go_sem, reduceIte, reduceCtorEq, Nat.reduceEqDiff, Nat.reduceBEq, Nat.reduceAdd, Nat.reduceMul, Nat.reduceLeDiff]
  refine fin_ret' 4 (by simp [upd_at]) ?_
  simp only [upd_at, if_true, and_true, AV.bool.injEq]
  rw [Bool.eq_iff_iff, decide_eq_true_eq, hk, List.any_eq_true]
theorem allc_known {α : Type} (e : α → List AV) (he : ∀ x, (e x).length = 23) (x : α) (p : α → Bool) (g : FuncId) (fs cs : List AV) (H : AHeap) (b : Nat) (hb : H b = some (.box [.func (.func g) fs cs])) (hp : Tests Tryz.prog g fs cs H (.agg (e x)) (p x)) :
    Tests Tryz.prog 157 [] [.ptr b 0] H (.agg (e x)) (!p x) := by
  intro H1 e1
  refine fn_of hmix fc157 (by simp) ?_
  simp only [List.nil_append, List.cons_append]
  rw [ienv2]
  simp only [go_sem, reduceIte, reduceCtorEq, Nat.reduceEqDiff, Nat.reduceBEq, Nat.reduceAdd, Nat.reduceMul, Nat.reduceLeDiff, ac157]
  refine v_box _ rfl fun b2 hb2 => ?_
  have hne : b ≠ b2 := fun h => by subst h; rw [e1 _ _ hb] at hb2; cases hb2
  simp only [go_sem, reduceIte, reduceCtorEq, Nat.reduceEqDiff, Nat.reduceBEq, Nat.reduceAdd, Nat.reduceMul, Nat.reduceLeDiff, updH_ne _ _ hne, e1 _ _ hb, he, take_len (he _)]
  refine (hp _ (e1.trans ((Ext.refl _).new hb2 _))).mono ?_
  rintro _ H' ⟨rfl, rfl⟩
  simp only [go_sem, reduceIte, reduceCtorEq, Nat.reduceEqDiff, Nat.reduceBEq, Nat.reduceAdd, Nat.reduceMul, Nat.reduceLeDiff]
  refine fin_ret 3 (by simp [upd_at]) ⟨_, H1, Settle.refl ((Ext.refl H1).new hb2 _), ?_⟩
  simp [upd_at]
theorem all_known {α : Type} (e : α → List AV) (he : ∀ x, (e x).length = 23) (l : List α) (p : α → Bool) (g : FuncId) (fs cs : List AV) (hl : Sm l.length) (H : AHeap) (hp : ∀ x ∈ l, Tests Tryz.prog g fs cs H (.agg (e x)) (p x)) :
    ACalls Tryz.prog 133 [.slice (l.map e), .func (.func g) fs cs] H fun r H' => r = .bool (l.all p) ∧ H' = H := by
  refine fn_of hmix fc133 (by simp) ?_
  rw [ienv2]
  simp only [go_sem, reduceIte, reduceCtorEq, Nat.reduceEqDiff, Nat.reduceBEq, Nat.reduceAdd, Nat.reduceMul, Nat.reduceLeDiff, ac133]
  refine v_box _ rfl fun b hb => ?_
  simp only [go_sem, reduceIte, reduceCtorEq, Nat.reduceEqDiff, Nat.reduceBEq, Nat.reduceAdd, Nat.reduceMul, Nat.reduceLeDiff, AV.cells]
  refine (conf_known e he l (fun x => !p x) 157 [] [.ptr b 0] hl _ (fun x hx => allc_known e he x p g fs cs _ b (updH_same _ _ _) ((hp x hx).ext ((Ext.refl _).new hb _)))).mono ?_
  rintro _ H' ⟨rfl, rfl⟩
  simp only [go_sem, reduceIte, reduceCtorEq, Nat.reduceEqDiff, Nat.reduceBEq, Nat.reduceAdd, Nat.reduceMul, Nat.reduceLeDiff]
  refine fin_ret 4 (by simp [upd_at]) ⟨_, H, Settle.refl ((Ext.refl H).new hb _), ?_⟩
  simp only [upd_at, if_true, and_true, AV.bool.injEq]
  rw [List.all_eq_not_any_not]
end Go.Lift

set_option linter.unusedSimpArgs false
set_option linter.unusedVariables false
namespace Go.Lift
open Go Go.Proofs

/-- The women, of the first so many, whose mark is one of some. -/
def womenUpto (ws : List Woman) (marks : List Int) (j : Nat) : List Int := ((List.range j).filter fun w => decide ((ws.getD w default).mark ∈ marks)).map Int.ofNat
def womenOf (ws : List Woman) (marks : List Int) : List Int := womenUpto ws marks ws.length
theorem womenUpto_succ (ws : List Woman) (marks : List Int) (j : Nat) : womenUpto ws marks (j + 1) = womenUpto ws marks j ++ (if (ws.getD j default).mark ∈ marks then [(j : Int)] else []) := by
  simp only [womenUpto, List.range_succ, List.filter_append, List.map_append]
  congr 1
  by_cases h : (ws.getD j default).mark ∈ marks
  · rw [if_pos h]; simp only [List.filter_cons, h, decide_true, if_true, List.filter_nil, List.map_cons, List.map_nil]; rfl
  · rw [if_neg h]; simp only [List.filter_cons, h, decide_false, if_false, Bool.false_eq_true, List.filter_nil, List.map_nil]
theorem womenUpto_len (ws : List Woman) (marks : List Int) (j : Nat) : (womenUpto ws marks j).length ≤ j := by
  simp only [womenUpto, List.length_map]
  exact Nat.le_trans (List.length_filter_le _ _) (by simp)
theorem one_good (n : Int) : goodEls 1 [[i6 n]] := by intro e he; simp at he; subst he; rfl
theorem one_cell (n : Int) : cellEls [[i6 n]] := by intro e he x hx; simp at he; subst he; simp at hx; subst hx; rfl

theorem of_c (t : Table) (p : Piece) (h1 : Sm t.women.length) (h2 : Sm p.marks.length) : Pure Tryz.prog 164 [eT t, .agg (eP p)] (.slice (eI (womenOf t.women p.marks))) := by
  intro H
  unfold Sm at h1
  refine fn_of hmix fc164 (by simp) ?_
  rw [ienv2]
  simp only [go_sem, reduceIte, reduceCtorEq, Nat.reduceEqDiff, Nat.reduceBEq, Nat.reduceAdd, Nat.reduceMul, Nat.reduceLeDiff, ac164, eT]
  refine v_box _ rfl fun b1 hb1 => ?_
  simp only [go_sem, reduceIte, reduceCtorEq, Nat.reduceEqDiff, Nat.reduceBEq, Nat.reduceAdd, Nat.reduceMul, Nat.reduceLeDiff, eP]
  refine v_box _ rfl fun b2 hb2 => ?_
  have hne : b1 ≠ b2 := fun h => by subst h; simp at hb2
  simp only [go_sem, reduceIte, reduceCtorEq, Nat.reduceEqDiff, Nat.reduceBEq, Nat.reduceAdd, Nat.reduceMul, Nat.reduceLeDiff, updH_ne _ _ hne]
  have e0 : Ext H (updH (updH H b1 (.box [.slice (t.women.map eW), .slice (t.pieces.map eP), i6 t.wrong])) b2 (.box [.slice (eI p.marks), i6 p.bundle])) := ((Ext.refl H).new hb1 _).new hb2 _
  refine x_for t.women.length (fun j env H' => Ext H H' ∧ Grown 1 H H' (env 4) (eI (womenUpto t.women p.marks j)) ∧ H' b2 = some (.box [.slice (eI p.marks), i6 p.bundle]) ∧ env 3 = .ptr b2 0 ∧ env 8 = .slice (t.women.map eW) ∧ env 9 = i6 t.women.length ∧ env 10 = i6 j ∧ env 26 = .any)
    ⟨e0, .inl ⟨by simp [upd_at], rfl⟩, updH_same _ _ _, by simp [upd_at], by simp [upd_at], by simp [upd_at], by simp [upd_at], by simp [upd_at]⟩ ?_
  rintro j env H' hj ⟨hE, hG, hB, h3, h8, h9, h10, hN⟩
  by_cases hlt : (j : Int) < (t.women.length : Int)
  · have hlt' : j < t.women.length := by omega
    have hlen := womenUpto_len t.women p.marks j
    have hget : t.women.getD j default = t.women[j] := by simp [hlt']
    simp only [go_sem, reduceIte, reduceCtorEq, Nat.reduceEqDiff, Nat.reduceBEq, Nat.reduceAdd, Nat.reduceMul, Nat.reduceLeDiff, h3, h8, h9, h10, hN, hlt, map_get (f := eW) hlt', eW]
    refine v_alloc fun b3 hb3 => ?_
    have hne3 : b2 ≠ b3 := fun h => by subst h; rw [hB] at hb3; cases hb3
    simp only [go_sem, reduceIte, reduceCtorEq, Nat.reduceEqDiff, Nat.reduceBEq, Nat.reduceAdd, Nat.reduceMul, Nat.reduceLeDiff, h3, h8, h9, h10, hN]
    rw [v_store]
    refine ⟨rfl, rfl, by simp [AV.cells, AV.isCell], _, updH_same _ _ _, by simp, ?_⟩
    simp only [go_sem, reduceIte, reduceCtorEq, Nat.reduceEqDiff, Nat.reduceBEq, Nat.reduceAdd, Nat.reduceMul, Nat.reduceLeDiff, h3, h8, h9, h10, hN, updH_ne _ _ hne3, hB, placeAt, List.append_nil, List.nil_append, List.drop_nil]
    refine (contains_c p.marks t.women[j].mark h2).go ?_
    simp only [go_sem, reduceIte, reduceCtorEq, Nat.reduceEqDiff, Nat.reduceBEq, Nat.reduceAdd, Nat.reduceMul, Nat.reduceLeDiff]
    have hE2 : Ext H (updH (updH H' b3 (.box [i6 0, i6 0, i6 0])) b3 (.box [i6 t.women[j].mark, i6 t.women[j].lo, i6 t.women[j].hi])) := (hE.new hb3 _).upd (hE.isNone hb3) _
    have hG2 := (hG.new hb3 (.box [i6 0, i6 0, i6 0])).store (updH_same _ _ _) (.box [i6 t.women[j].mark, i6 t.women[j].lo, i6 t.women[j].hi])
    by_cases hm : t.women[j].mark ∈ p.marks
    · simp only [go_sem, reduceIte, reduceCtorEq, Nat.reduceEqDiff, Nat.reduceBEq, Nat.reduceAdd, Nat.reduceMul, Nat.reduceLeDiff, hm, h10, h3, h8, h9, hN]
      refine v_append hG2 hE2 rfl (eI_good _) (one_good _) (one_cell _) (by simp; omega) (by simp; omega) ?_
      intro v' H2 hg' he' hk'
      simp only [go_sem, reduceIte, reduceCtorEq, Nat.reduceEqDiff, Nat.reduceBEq, Nat.reduceAdd, Nat.reduceMul, Nat.reduceLeDiff, h10, h3, h8, h9, hN, wsucc (show j < 4611686018427387904 by omega), hlt']
      refine ⟨he', ?_, hk'.box hG2 (by rw [updH_ne _ _ hne3, updH_ne _ _ hne3]; exact hB)⟩
      rw [womenUpto_succ, hget, if_pos hm, eI_app]; exact hg'
    · simp only [go_sem, reduceIte, reduceCtorEq, Nat.reduceEqDiff, Nat.reduceBEq, Nat.reduceAdd, Nat.reduceMul, Nat.reduceLeDiff, hm, h10, h3, h8, h9, hN, wsucc (show j < 4611686018427387904 by omega), hlt']
      refine ⟨hE2, ?_, by rw [updH_ne _ _ hne3, updH_ne _ _ hne3]; exact hB⟩
      rw [womenUpto_succ, hget, if_neg hm, List.append_nil]; exact hG2
  · simp only [go_sem, reduceIte, reduceCtorEq, Nat.reduceEqDiff, Nat.reduceBEq, Nat.reduceAdd, Nat.reduceMul, Nat.reduceLeDiff, h3, h8, h9, h10, hN, hlt]
    have : j = t.women.length := by omega
    subst this
    refine fin_ret 4 (by simp [upd_at, hN]) ⟨_, H, ?_, rfl, rfl⟩
    simp only [upd_at, if_true]
    exact hG.weaken hE
theorem wpred {j : Nat} (h : j < 4611686018427387904) (h0 : 0 < j) : IntKind.i64.wrap ((j : Int) - 1) = ((j - 1 : Nat) : Int) := by
  rw [w64 (by omega) (by omega)]; omega
theorem min2_c (a b : Int) : Pure Tryz.prog 169 [.slice [[i6 a], [i6 b]]] (i6 (if b < a then b else a)) := by
  intro H
  refine fn_of hmix fc169 (by simp) ?_
  rw [ienv1]
  simp only [go_sem, reduceIte, reduceCtorEq, Nat.reduceEqDiff, Nat.reduceBEq, Nat.reduceAdd, Nat.reduceMul, Nat.reduceLeDiff, ac169]
  have hc : decide (IntKind.i64.wrap 0 < (0 : Int)) = false := by decide
  simp only [show ¬ ((0 + 1 + 1 : Nat) : Int) < 1 by decide, go_sem, reduceIte, reduceCtorEq, Nat.reduceEqDiff, Nat.reduceBEq, Nat.reduceAdd, Nat.reduceMul, Nat.reduceLeDiff, Int.le_refl, show ((0 : Int).toNat) = 0 from rfl, List.getElem?_cons_zero]
  refine x_for 1 (fun j env H' => H' = H ∧ env 4 = i6 (j + 1) ∧ env 0 = .slice [[i6 a], [i6 b]] ∧ env 25 = .any ∧ env 3 = i6 (if j = 0 then a else if b < a then b else a)) (by simp [upd_at]) ?_
  rintro j env H' hj ⟨rfl, h4, h0, hN, h3⟩
  have hj' : j = 0 ∨ j = 1 := by omega
  rcases hj' with rfl | rfl
  · simp only [go_sem, reduceIte, reduceCtorEq, Nat.reduceEqDiff, Nat.reduceBEq, Nat.reduceAdd, Nat.reduceMul, Nat.reduceLeDiff, h4, h0, hN, h3, show (((0 : Nat) : Int) + 1 < ((0 + 1 + 1 : Nat) : Int)) by decide, show (0 : Int) ≤ ((0 : Nat) : Int) + 1 by decide, show ((((0 : Nat) : Int) + 1).toNat) = 1 from rfl, List.getElem?_cons_succ, List.getElem?_cons_zero, show (0 : Nat) < 1 by decide]
    rw [w64 (by decide) (by decide)]; rfl
  · simp only [go_sem, reduceIte, reduceCtorEq, Nat.reduceEqDiff, Nat.reduceBEq, Nat.reduceAdd, Nat.reduceMul, Nat.reduceLeDiff, h4, h0, hN, h3, show ¬ (((1 : Nat) : Int) + 1 < ((0 + 1 + 1 : Nat) : Int)) by decide]
    refine fin_ret' 2 (by simp [upd_at, hN]) ?_
    simp [upd_at]
theorem minimum_c (a b : Int) : Pure Tryz.prog 163 [.slice [[i6 a], [i6 b]]] (i6 (if b < a then b else a)) := by
  intro H
  refine fn_of hmix fc163 (by simp) ?_
  rw [ienv1]
  simp only [go_sem, reduceIte, reduceCtorEq, Nat.reduceEqDiff, Nat.reduceBEq, Nat.reduceAdd, Nat.reduceMul, Nat.reduceLeDiff, ac163]
  refine (min2_c a b).go ?_
  simp only [go_sem, reduceIte, reduceCtorEq, Nat.reduceEqDiff, Nat.reduceBEq, Nat.reduceAdd, Nat.reduceMul, Nat.reduceLeDiff]
  refine fin_ret' 2 (by simp [upd_at]) ?_
  simp [upd_at]

/-- Is a mark one, and greater than the one before? -/
def markAt (l : List Int) (i : Nat) : Bool := decide (0 ≤ l.getD i 0 ∧ l.getD i 0 ≤ 9) && (decide (i = 0) || !decide (l.getD i 0 ≤ l.getD (i - 1) 0))
def marksOK (l : List Int) : Bool := (List.range l.length).all (markAt l)
def pieceOK (t : Table) (p : Piece) : Bool := marksOK p.marks && decide (0 ≤ p.bundle ∧ p.bundle ≤ t.women.length - 1) && decide (0 < (womenOf t.women p.marks).length)
theorem piece_c (t : Table) (p : Piece) (h1 : Sm t.women.length) (h2 : Sm p.marks.length) : Pure Tryz.prog 158 [eT t, .agg (eP p)] (.bool (pieceOK t p)) := by
  intro H
  have h1' := h1
  unfold Sm at h1 h2
  refine fn_of hmix fc158 (by simp) ?_
  rw [ienv2]
  simp only [go_sem, reduceIte, reduceCtorEq, Nat.reduceEqDiff, Nat.reduceBEq, Nat.reduceAdd, Nat.reduceMul, Nat.reduceLeDiff, ac158, eT]
  refine v_box _ rfl fun b1 hb1 => ?_
  simp only [go_sem, reduceIte, reduceCtorEq, Nat.reduceEqDiff, Nat.reduceBEq, Nat.reduceAdd, Nat.reduceMul, Nat.reduceLeDiff, eP]
  refine v_box _ rfl fun b2 hb2 => ?_
  have hne : b1 ≠ b2 := fun h => by subst h; simp at hb2
  simp only [go_sem, reduceIte, reduceCtorEq, Nat.reduceEqDiff, Nat.reduceBEq, Nat.reduceAdd, Nat.reduceMul, Nat.reduceLeDiff, updH_ne _ _ hne]
  generalize hHH : updH (updH H b1 (.box [.slice (t.women.map eW), .slice (t.pieces.map eP), i6 t.wrong])) b2 (.box [.slice (eI p.marks), i6 p.bundle]) = HH
  have e0 : Ext H HH := by subst hHH; exact ((Ext.refl H).new hb1 _).new hb2 _
  have hB1 : HH b1 = some (.box [.slice (t.women.map eW), .slice (t.pieces.map eP), i6 t.wrong]) := by subst hHH; rw [updH_ne _ _ hne]; exact updH_same _ _ _
  have hB2 : HH b2 = some (.box [.slice (eI p.marks), i6 p.bundle]) := by subst hHH; exact updH_same _ _ _
  refine x_for p.marks.length (fun j env H' => H' = HH ∧ env 2 = .ptr b1 0 ∧ env 3 = .ptr b2 0 ∧ env 8 = .slice (eI p.marks) ∧ env 9 = i6 p.marks.length ∧ env 10 = i6 j ∧ env 47 = .any ∧ ∀ i, i < j → markAt p.marks i = true)
    (by simp [upd_at]) ?_
  rintro j env H' hj ⟨rfl, hv2, h3, h8, h9, h10, hN, hq⟩
  by_cases hlt : (j : Int) < (p.marks.length : Int)
  · have hlt' : j < p.marks.length := by omega
    have hget : p.marks.getD j 0 = p.marks[j] := by simp [hlt']
    simp only [go_sem, reduceIte, reduceCtorEq, Nat.reduceEqDiff, Nat.reduceBEq, Nat.reduceAdd, Nat.reduceMul, Nat.reduceLeDiff, hv2, h3, h8, h9, h10, hN, hlt, eI_get hlt']
    refine (mark_c p.marks[j]).go ?_
    have hnext : markAt p.marks j = true → ∀ i, i < j + 1 → markAt p.marks i = true := fun h i hi => by
      rcases Nat.lt_or_ge i j with h' | h'
      · exact hq i h'
      · have : i = j := by omega
        subst this; exact h
    have hbad : markAt p.marks j = false → pieceOK t p = false := fun h => by
      simp only [pieceOK, marksOK, Bool.and_eq_false_iff, List.all_eq_false]
      exact .inl (.inl ⟨j, by simp [hlt'], by simp [h]⟩)
    by_cases hm : 0 ≤ p.marks[j] ∧ p.marks[j] ≤ 9
    · by_cases hj0 : j = 0
      · subst hj0
        simp only [go_sem, reduceIte, reduceCtorEq, Nat.reduceEqDiff, Nat.reduceBEq, Nat.reduceAdd, Nat.reduceMul, Nat.reduceLeDiff, hv2, h3, h8, h9, h10, hN, hm, show ¬ ((0 : Int) < ((0 : Nat) : Int)) by decide, wsucc (show 0 < 4611686018427387904 by omega), hlt']
        exact hnext (by simp only [and_self, decide_true, decide_false, Bool.or_true, Bool.true_or, Bool.true_and, Bool.and_true, Bool.or_false, Bool.false_or, Bool.not_false, Bool.not_true, Bool.and_false, Bool.false_and, not_true_eq_false, not_false_eq_true, if_true, if_false, reduceIte, Bool.false_eq_true, eq_self, true_and, and_true, markAt, hget, hm])
      · have hjp : (0 : Int) < (j : Int) := by omega
        have hgp : (eI p.marks)[j - 1]? = some [i6 p.marks[j - 1]] := eI_get (by omega)
        have hget' : p.marks.getD (j - 1) 0 = p.marks[j - 1] := by simp [show j - 1 < p.marks.length by omega]
        by_cases hle : p.marks[j] ≤ p.marks[j - 1]
        · simp only [go_sem, reduceIte, reduceCtorEq, Nat.reduceEqDiff, Nat.reduceBEq, Nat.reduceAdd, Nat.reduceMul, Nat.reduceLeDiff, hv2, h3, h8, h9, h10, hN, hm, hjp, hB2, wpred (show j < 4611686018427387904 by omega) (show 0 < j by omega), hgp, hle]
          refine fin_ret 4 (by simp [upd_at, hN]) ⟨_, H, Settle.refl e0, ?_⟩
          simp [upd_at]; exact hbad (by simp only [and_self, decide_true, decide_false, Bool.or_true, Bool.true_or, Bool.true_and, Bool.and_true, Bool.or_false, Bool.false_or, Bool.not_false, Bool.not_true, Bool.and_false, Bool.false_and, not_true_eq_false, not_false_eq_true, if_true, if_false, reduceIte, Bool.false_eq_true, eq_self, true_and, and_true, markAt, hget, hm, hj0, hget', hle])
        · simp only [go_sem, reduceIte, reduceCtorEq, Nat.reduceEqDiff, Nat.reduceBEq, Nat.reduceAdd, Nat.reduceMul, Nat.reduceLeDiff, hv2, h3, h8, h9, h10, hN, hm, hjp, hB2, wpred (show j < 4611686018427387904 by omega) (show 0 < j by omega), hgp, hle, wsucc (show j < 4611686018427387904 by omega), hlt']
          exact hnext (by simp only [and_self, decide_true, decide_false, Bool.or_true, Bool.true_or, Bool.true_and, Bool.and_true, Bool.or_false, Bool.false_or, Bool.not_false, Bool.not_true, Bool.and_false, Bool.false_and, not_true_eq_false, not_false_eq_true, if_true, if_false, reduceIte, Bool.false_eq_true, eq_self, true_and, and_true, markAt, hget, hm, hj0, hget', hle])
    · simp only [go_sem, reduceIte, reduceCtorEq, Nat.reduceEqDiff, Nat.reduceBEq, Nat.reduceAdd, Nat.reduceMul, Nat.reduceLeDiff, hv2, h3, h8, h9, h10, hN, hm]
      refine fin_ret 4 (by simp [upd_at, hN]) ⟨_, H, Settle.refl e0, ?_⟩
      simp [upd_at]; exact hbad (by simp only [and_self, decide_true, decide_false, Bool.or_true, Bool.true_or, Bool.true_and, Bool.and_true, Bool.or_false, Bool.false_or, Bool.not_false, Bool.not_true, Bool.and_false, Bool.false_and, not_true_eq_false, not_false_eq_true, if_true, if_false, reduceIte, Bool.false_eq_true, eq_self, true_and, and_true, markAt, hget, hm])
  · have : j = p.marks.length := by omega
    subst this
    have hmk : marksOK p.marks = true := by simp only [marksOK, List.all_eq_true, List.mem_range]; exact hq
    simp only [go_sem, reduceIte, reduceCtorEq, Nat.reduceEqDiff, Nat.reduceBEq, Nat.reduceAdd, Nat.reduceMul, Nat.reduceLeDiff, hv2, h3, h8, h9, h10, hN, hlt, hB1, hB2]
    refine (within3_c p.bundle 0 _).go ?_
    rw [w64 (by omega) (by omega)]
    by_cases hbd : 0 ≤ p.bundle ∧ p.bundle ≤ (t.women.length : Int) - 1
    · simp only [go_sem, reduceIte, reduceCtorEq, Nat.reduceEqDiff, Nat.reduceBEq, Nat.reduceAdd, Nat.reduceMul, Nat.reduceLeDiff, hv2, h3, h8, h9, h10, hN, hlt, hB1, hB2, hbd]
      refine (of_c t p h1' (by unfold Sm; omega)).go ?_
      simp only [go_sem, reduceIte, reduceCtorEq, Nat.reduceEqDiff, Nat.reduceBEq, Nat.reduceAdd, Nat.reduceMul, Nat.reduceLeDiff]
      refine fin_ret 4 (by simp [upd_at, hN]) ⟨_, H, Settle.refl e0, ?_⟩
      simp [upd_at, pieceOK, hmk, hbd]
    · simp only [go_sem, reduceIte, reduceCtorEq, Nat.reduceEqDiff, Nat.reduceBEq, Nat.reduceAdd, Nat.reduceMul, Nat.reduceLeDiff, hv2, h3, h8, h9, h10, hN, hlt, hB1, hB2, hbd]
      refine fin_ret 4 (by simp [upd_at, hN]) ⟨_, H, Settle.refl e0, ?_⟩
      simp only [upd_at, if_true, and_true, AV.bool.injEq, pieceOK, hmk, hbd, decide_false, Bool.and_false, Bool.false_and, eq_self]
end Go.Lift

set_option linter.unusedSimpArgs false
set_option linter.unusedVariables false
namespace Go.Lift
open Go Go.Proofs

structure TSm (t : Table) : Prop where
  women : Sm t.women.length
  pieces : Sm t.pieces.length
  marks : ∀ p ∈ t.pieces, Sm p.marks.length

/-- The numbers of women of the first so many pieces, multiplied; more than 2000 are 2001. -/
def manyUpto (t : Table) : Nat → Int
  | 0 => 1
  | j + 1 => if 2001 < manyUpto t j * ((womenOf t.women (t.pieces.getD j default).marks).length : Int) then 2001 else manyUpto t j * ((womenOf t.women (t.pieces.getD j default).marks).length : Int)
def checkTable (t : Table) : Int :=
  if 5 < (t.women.length : Int) ∨ 7 < (t.pieces.length : Int) then 3
  else if ¬ (0 ≤ t.wrong ∧ t.wrong ≤ 5) ∨ t.women.all womanOK = false ∨ t.pieces.all (pieceOK t) = false then 1
  else if 2000 < manyUpto t t.pieces.length then 3 else 0
theorem many_bound (t : Table) : ∀ j, 0 ≤ manyUpto t j ∧ manyUpto t j ≤ 2001
  | 0 => by simp [manyUpto]
  | j + 1 => by
    have h1 : 0 ≤ manyUpto t j * ((womenOf t.women (t.pieces.getD j default).marks).length : Int) := Int.mul_nonneg (many_bound t j).1 (by omega)
    simp only [manyUpto]
    split <;> omega

theorem checkTable_c (t : Table) (hs : TSm t) : Pure Tryz.prog 135 [eT t] (i6 (checkTable t)) := by
  intro H
  have h1 := hs.women
  have h2 := hs.pieces
  unfold Sm at h1 h2
  refine fn_of hmix fc135 (by simp) ?_
  rw [ienv1]
  simp only [go_sem, reduceIte, reduceCtorEq, Nat.reduceEqDiff, Nat.reduceBEq, Nat.reduceAdd, Nat.reduceMul, Nat.reduceLeDiff, ac135, eT]
  refine v_box _ rfl fun b1 hb1 => ?_
  simp only [go_sem, reduceIte, reduceCtorEq, Nat.reduceEqDiff, Nat.reduceBEq, Nat.reduceAdd, Nat.reduceMul, Nat.reduceLeDiff]
  generalize hHH : updH H b1 (.box [.slice (t.women.map eW), .slice (t.pieces.map eP), i6 t.wrong]) = HH
  have e0 : Ext H HH := by subst hHH; exact (Ext.refl H).new hb1 _
  have hB1 : HH b1 = some (.box [.slice (t.women.map eW), .slice (t.pieces.map eP), i6 t.wrong]) := by subst hHH; exact updH_same _ _ _
  by_cases c1 : 5 < (t.women.length : Int)
  · simp only [go_sem, reduceIte, reduceCtorEq, Nat.reduceEqDiff, Nat.reduceBEq, Nat.reduceAdd, Nat.reduceMul, Nat.reduceLeDiff, hB1, c1]
    refine fin_ret 2 (by simp [upd_at]) ⟨_, H, Settle.refl e0, ?_⟩
    simp [upd_at, checkTable, c1]
  by_cases c2 : 7 < (t.pieces.length : Int)
  · simp only [go_sem, reduceIte, reduceCtorEq, Nat.reduceEqDiff, Nat.reduceBEq, Nat.reduceAdd, Nat.reduceMul, Nat.reduceLeDiff, hB1, c1, c2]
    refine fin_ret 2 (by simp [upd_at]) ⟨_, H, Settle.refl e0, ?_⟩
    simp [upd_at, checkTable, c2]
  simp only [go_sem, reduceIte, reduceCtorEq, Nat.reduceEqDiff, Nat.reduceBEq, Nat.reduceAdd, Nat.reduceMul, Nat.reduceLeDiff, hB1, c1, c2]
  refine (within3_c t.wrong 0 5).go ?_
  by_cases c3 : 0 ≤ t.wrong ∧ t.wrong ≤ 5
  rotate_left
  · simp only [go_sem, reduceIte, reduceCtorEq, Nat.reduceEqDiff, Nat.reduceBEq, Nat.reduceAdd, Nat.reduceMul, Nat.reduceLeDiff, hB1, c3]
    refine fin_ret 2 (by simp [upd_at]) ⟨_, H, Settle.refl e0, ?_⟩
    simp [upd_at, checkTable, c1, c2, c3]
  simp only [go_sem, reduceIte, reduceCtorEq, Nat.reduceEqDiff, Nat.reduceBEq, Nat.reduceAdd, Nat.reduceMul, Nat.reduceLeDiff, hB1, c3]
  refine (all_woman eW (fun _ => rfl) t.women womanOK 161 [] [] hs.women HH (fun x _ H1 _ => woman_c x H1)).mono ?_
  rintro _ H' ⟨rfl, rfl⟩
  cases c4 : t.women.all womanOK
  · simp only [go_sem, reduceIte, reduceCtorEq, Nat.reduceEqDiff, Nat.reduceBEq, Nat.reduceAdd, Nat.reduceMul, Nat.reduceLeDiff, hB1, c3]
    refine fin_ret 2 (by simp [upd_at]) ⟨_, H, Settle.refl e0, ?_⟩
    simp [upd_at, checkTable, c1, c2, c4]
  simp only [go_sem, reduceIte, reduceCtorEq, Nat.reduceEqDiff, Nat.reduceBEq, Nat.reduceAdd, Nat.reduceMul, Nat.reduceLeDiff, hB1, c3]
  refine (all_piece eP (fun _ => rfl) t.pieces (pieceOK t) 158 [eT t] [] hs.pieces H' (fun x hx H1 _ => piece_c t x hs.women (hs.marks x hx) H1)).mono ?_
  rintro _ H'' ⟨rfl, rfl⟩
  cases c5 : t.pieces.all (pieceOK t)
  · simp only [go_sem, reduceIte, reduceCtorEq, Nat.reduceEqDiff, Nat.reduceBEq, Nat.reduceAdd, Nat.reduceMul, Nat.reduceLeDiff, hB1, c3]
    refine fin_ret 2 (by simp [upd_at]) ⟨_, H, Settle.refl e0, ?_⟩
    simp [upd_at, checkTable, c1, c2, c5]
  simp only [go_sem, reduceIte, reduceCtorEq, Nat.reduceEqDiff, Nat.reduceBEq, Nat.reduceAdd, Nat.reduceMul, Nat.reduceLeDiff, hB1, c3]
  refine x_for t.pieces.length (fun j env H1 => Ext H H1 ∧ H1 b1 = some (.box [.slice (t.women.map eW), .slice (t.pieces.map eP), i6 t.wrong]) ∧ env 1 = .ptr b1 0 ∧ env 4 = i6 (manyUpto t j) ∧ env 39 = .slice (t.pieces.map eP) ∧ env 40 = i6 t.pieces.length ∧ env 41 = i6 j ∧ env 56 = .any)
    ⟨e0, hB1, by simp [upd_at], by simp [upd_at, manyUpto], by simp [upd_at], by simp [upd_at], by simp [upd_at], by simp [upd_at]⟩ ?_
  rintro j env H1 hj ⟨hE, hB, g1, g4, g39, g40, g41, hN⟩
  by_cases hlt : (j : Int) < (t.pieces.length : Int)
  · have hlt' : j < t.pieces.length := by omega
    have hget : t.pieces.getD j default = t.pieces[j] := by simp [hlt']
    simp only [go_sem, reduceIte, reduceCtorEq, Nat.reduceEqDiff, Nat.reduceBEq, Nat.reduceAdd, Nat.reduceMul, Nat.reduceLeDiff, g1, g4, g39, g40, g41, hN, hlt, map_get (f := eP) hlt', eP]
    refine v_alloc fun b3 hb3 => ?_
    have hne3 : b1 ≠ b3 := fun h => by subst h; rw [hB] at hb3; cases hb3
    simp only [go_sem, reduceIte, reduceCtorEq, Nat.reduceEqDiff, Nat.reduceBEq, Nat.reduceAdd, Nat.reduceMul, Nat.reduceLeDiff, g1, g4, g39, g40, g41, hN]
    rw [v_store]
    refine ⟨rfl, rfl, by simp [AV.cells, AV.isCell], _, updH_same _ _ _, by simp, ?_⟩
    simp only [go_sem, reduceIte, reduceCtorEq, Nat.reduceEqDiff, Nat.reduceBEq, Nat.reduceAdd, Nat.reduceMul, Nat.reduceLeDiff, g1, g4, g39, g40, g41, hN, updH_ne _ _ hne3, hB, placeAt, List.append_nil, List.nil_append, List.drop_nil]
    refine (of_c t t.pieces[j] hs.women (hs.marks _ (List.getElem_mem _))).go ?_
    have hwl := womenUpto_len t.women t.pieces[j].marks t.women.length
    have hmb := many_bound t j
    have hmul : 0 ≤ manyUpto t j * ((womenOf t.women t.pieces[j].marks).length : Int) ∧ manyUpto t j * ((womenOf t.women t.pieces[j].marks).length : Int) ≤ 2001 * 2147483648 := by
      constructor
      · exact Int.mul_nonneg hmb.1 (by omega)
      · refine Int.mul_le_mul hmb.2 ?_ (by omega) (by omega)
        simp only [womenOf]; omega
    have hw := w64 (x := manyUpto t j * ((womenOf t.women t.pieces[j].marks).length : Int)) (by omega) (by omega)
    simp only [go_sem, reduceIte, reduceCtorEq, Nat.reduceEqDiff, Nat.reduceBEq, Nat.reduceAdd, Nat.reduceMul, Nat.reduceLeDiff, g1, g4, g39, g40, g41, hN, hw]
    refine (minimum_c _ _).go ?_
    simp only [go_sem, reduceIte, reduceCtorEq, Nat.reduceEqDiff, Nat.reduceBEq, Nat.reduceAdd, Nat.reduceMul, Nat.reduceLeDiff, g1, g4, g39, g40, g41, hN, wsucc (show j < 4611686018427387904 by omega), hlt', updH_ne _ _ hne3, hB, manyUpto, hget]
    exact (hE.new hb3 _).upd (hE.isNone hb3) _
  · simp only [go_sem, reduceIte, reduceCtorEq, Nat.reduceEqDiff, Nat.reduceBEq, Nat.reduceAdd, Nat.reduceMul, Nat.reduceLeDiff, g1, g4, g39, g40, g41, hN, hlt]
    have : j = t.pieces.length := by omega
    subst this
    by_cases c6 : 2000 < manyUpto t t.pieces.length
    · simp only [go_sem, reduceIte, reduceCtorEq, Nat.reduceEqDiff, Nat.reduceBEq, Nat.reduceAdd, Nat.reduceMul, Nat.reduceLeDiff, c6, hN]
      refine fin_ret 2 (by simp [upd_at, hN]) ⟨_, H, Settle.refl hE, ?_⟩
      simp [upd_at, checkTable, c1, c2, c3, c4, c5, c6]
    · simp only [go_sem, reduceIte, reduceCtorEq, Nat.reduceEqDiff, Nat.reduceBEq, Nat.reduceAdd, Nat.reduceMul, Nat.reduceLeDiff, c6, hN]
      refine fin_ret 2 (by simp [upd_at, hN]) ⟨_, H, Settle.refl hE, ?_⟩
      simp [upd_at, checkTable, c1, c2, c3, c4, c5, c6]
end Go.Lift

set_option linter.unusedSimpArgs false
set_option linter.unusedVariables false
namespace Go.Lift
open Go Go.Proofs

/-- A private row of cells, handed on: it is fixed. -/
theorem settle_mslice {H1 H2 : AHeap} {b n cap : Nat} {cs : List AV} (hb : H1 b = some (.box cs)) (e : Ext H2 H1) (hn : H2 b = none) (hl : cs.length = n) (hc : n ≤ cap) :
    Settle H1 (.mslice b 0 n cap) H2 (.slice (cs.map fun x => [x])) := by
  refine ⟨e, fun w v hH hr => ?_⟩
  cases hr
  obtain ⟨b', off', hv, vs, hvs⟩ := cellsAt_rep hH (Rep.ptr (w := w) b 0) (at_ptr hb (Nat.zero_le _))
  cases hv
  have hlen : n = (cs.map fun x => [x]).length := by simp [hl]
  rw [hlen]
  refine Rep.slice b 0 cap 1 (cs.map fun x => [x]) (fun i j => vs i) (by simp [hl, hc]) (by simp) (fun i j hi hj => ?_) (fun i j e' x he hx => ?_)
  · simp only [List.length_map] at hi
    have hj0 : j = 0 := by omega
    subst hj0
    have := (hvs i cs[i] (by simp [hi])).1
    refine ⟨.inl hn, ?_⟩
    simpa using this
  · rw [List.getElem?_map] at he
    cases hci : cs[i]? with
    | none => rw [hci] at he; simp at he
    | some y =>
      rw [hci] at he
      simp only [Option.map_some, Option.some.injEq] at he
      subst he
      cases j with
      | zero =>
        simp only [List.getElem?_cons_zero, Option.some.injEq] at hx
        subst hx
        exact ((hvs i y (by simpa using hci)).2).mono (Evolve.drop e)
      | succ j => simp at hx

theorem placeAt_set : ∀ (cs : List AV) (k : Nat) (x : AV), k < cs.length → placeAt cs k [x] = cs.set k x
  | [], k, x, h => by simp at h
  | c :: cs, 0, x, h => by simp [placeAt]
  | c :: cs, k + 1, x, h => by
    have := placeAt_set cs k x (by simpa using h)
    simp only [placeAt, List.take_succ_cons, List.length_singleton, List.cons_append, List.set_cons_succ] at this ⊢
    rw [← this]
    simp [Nat.add_right_comm, List.drop_succ_cons]
theorem take_f' (n : Nat) (cs : List AV) : takeV false n cs = cs[0]? := _root_.id rfl
theorem drop_at (cs : List AV) (k : Nat) : (cs.drop k)[0]? = cs[k]? := by simp

/-- How many of the first so many owners each woman is. -/
def ownUpto (n : Nat) (o : List Int) (j : Nat) : List Int := (List.range n).map fun w : Nat => (((o.take j).count (w : Int) : Nat) : Int)
theorem ownUpto_len (n : Nat) (o : List Int) (j : Nat) : (ownUpto n o j).length = n := by simp [ownUpto]
theorem ownUpto_succ (n : Nat) (o : List Int) (j w : Nat) (hj : j < o.length) (hw : o[j] = (w : Int)) (hn : w < n) : ownUpto n o (j + 1) = (ownUpto n o j).set w (((o.take j).count (w : Int) : Int) + 1) := by
  apply List.ext_getElem
  · simp [ownUpto]
  · intro i h1 h2
    simp only [ownUpto, List.length_map, List.length_range] at h1
    rw [List.getElem_set]
    simp only [ownUpto, List.getElem_map, List.getElem_range]
    rw [List.take_add_one, List.getElem?_eq_getElem hj, Option.toList_some, List.count_append, hw]
    by_cases h : w = i
    · subst h; simp
    · have : ¬ ((w : Int) = (i : Int)) := by omega
      simp [h, this]

theorem own_c (t : Table) (o : List Int) (hs : TSm t) (ho : o.length = 7) (hp : t.pieces.length ≤ 7) (hv : ∀ i, i < t.pieces.length → ∃ w : Nat, o.getD i 0 = (w : Int) ∧ w < t.women.length) :
    Pure Tryz.prog 167 [eT t, .agg (o.map i6)] (.slice (eI (ownUpto t.women.length o t.pieces.length))) := by
  intro H
  have h1 := hs.women
  unfold Sm at h1
  refine fn_of hmix fc167 (by simp) ?_
  rw [ienv2]
  simp only [go_sem, reduceIte, reduceCtorEq, Nat.reduceEqDiff, Nat.reduceBEq, Nat.reduceAdd, Nat.reduceMul, Nat.reduceLeDiff, ac167, eT]
  refine v_box _ rfl fun b1 hb1 => ?_
  simp only [go_sem, reduceIte, reduceCtorEq, Nat.reduceEqDiff, Nat.reduceBEq, Nat.reduceAdd, Nat.reduceMul, Nat.reduceLeDiff]
  refine v_box _ rfl fun b2 hb2 => ?_
  have hne : b1 ≠ b2 := fun h => by subst h; simp at hb2
  simp only [go_sem, reduceIte, reduceCtorEq, Nat.reduceEqDiff, Nat.reduceBEq, Nat.reduceAdd, Nat.reduceMul, Nat.reduceLeDiff, updH_ne _ _ hne]
  refine ⟨by omega, by omega, by omega, fun b3 hb3 => ?_⟩
  have hn1 : b1 ≠ b3 := fun h => by subst h; simp [updH, hne] at hb3
  have hn2 : b2 ≠ b3 := fun h => by subst h; simp at hb3
  simp only [go_sem, reduceIte, reduceCtorEq, Nat.reduceEqDiff, Nat.reduceBEq, Nat.reduceAdd, Nat.reduceMul, Nat.reduceLeDiff, updH_ne _ _ hn1, updH_ne _ _ hne]
  have hz : (List.replicate t.women.length [AV.int .i64 0]).flatten = (ownUpto t.women.length o 0).map i6 := by
    simp only [ownUpto, List.take_zero, List.count_nil, List.map_map]
    generalize t.women.length = m
    induction m with
    | zero => rfl
    | succ n ih => rw [List.replicate_succ', List.flatten_append, ih, List.range_succ, List.map_append]; rfl
  rw [hz]
  have e2 : Ext H (updH (updH H b1 (.box [.slice (t.women.map eW), .slice (t.pieces.map eP), i6 t.wrong])) b2 (.box (o.map i6))) := ((Ext.refl H).new hb1 _).new hb2 _
  have hH3 : H b3 = none := e2.isNone hb3
  refine x_for t.pieces.length (fun j env H1 => Ext H H1 ∧ H1 b2 = some (.box (o.map i6)) ∧ H1 b3 = some (.box ((ownUpto t.women.length o j).map i6)) ∧ env 3 = .ptr b2 0 ∧ env 5 = .mslice b3 0 t.women.length t.women.length ∧ env 13 = i6 t.pieces.length ∧ env 14 = i6 j ∧ env 27 = .any)
    ⟨e2.new hb3 _, by rw [updH_ne _ _ hn2]; exact updH_same _ _ _, updH_same _ _ _, by simp [upd_at], by simp [upd_at], by simp [upd_at], by simp [upd_at], by simp [upd_at]⟩ ?_
  rintro j env H1 hj ⟨hE, hB2, hB3, g3, g5, g13, g14, hN⟩
  by_cases hlt : (j : Int) < (t.pieces.length : Int)
  · have hlt' : j < t.pieces.length := by omega
    have hjo : j < o.length := by omega
    obtain ⟨w, hw, hwn⟩ := hv j hlt'
    have hw' : o[j] = (w : Int) := by rw [← hw]; simp [hjo]
    have hget : (o.map i6)[j]? = some (i6 w) := by simp [hjo, hw']
    have hcnt : ((ownUpto t.women.length o j).map i6)[w]? = some (i6 ((o.take j).count (w : Int))) := by simp [ownUpto, hwn]
    have hc7 : (o.take j).count (w : Int) ≤ 7 := Nat.le_trans List.count_le_length (by simp; omega)
    simp only [go_sem, reduceIte, reduceCtorEq, Nat.reduceEqDiff, Nat.reduceBEq, Nat.reduceAdd, Nat.reduceMul, Nat.reduceLeDiff, g3, g5, g13, g14, hN, hlt, hB2, hB3, show (j : Int) < ((7 : Nat) : Int) by omega, Nat.mul_one, ho, show j ≤ 7 by omega, take_f', drop_at, hget, show (w : Int) < (t.women.length : Int) by omega, ownUpto_len, show w ≤ t.women.length by omega]
    simp only [go_sem, reduceIte, reduceCtorEq, Nat.reduceEqDiff, Nat.reduceBEq, Nat.reduceAdd, Nat.reduceMul, Nat.reduceLeDiff, hcnt, g3, g5, g13, g14, hN, w64 (x := ((o.take j).count (w : Int) : Int) + 1) (by omega) (by omega), show (w : Int) < (t.women.length : Int) by omega]
    rw [v_store]
    refine ⟨rfl, rfl, by simp [AV.cells, AV.isCell], _, hB3, by simp [ownUpto]; omega, ?_⟩
    simp only [go_sem, reduceIte, reduceCtorEq, Nat.reduceEqDiff, Nat.reduceBEq, Nat.reduceAdd, Nat.reduceMul, Nat.reduceLeDiff, g3, g5, g13, g14, hN, wsucc (show j < 4611686018427387904 by omega), hlt']
    refine ⟨hE.upd hH3 _, by rw [updH_ne _ _ hn2]; exact hB2, ?_⟩
    rw [placeAt_set _ _ _ (by simp [ownUpto]; exact hwn)]
    rw [ownUpto_succ t.women.length o j w hjo hw' hwn, List.map_set, Nat.mul_one]
  · simp only [go_sem, reduceIte, reduceCtorEq, Nat.reduceEqDiff, Nat.reduceBEq, Nat.reduceAdd, Nat.reduceMul, Nat.reduceLeDiff, g3, g5, g13, g14, hN, hlt]
    have : j = t.pieces.length := by omega
    subst this
    refine fin_ret 4 (by simp [upd_at, hN]) ⟨_, H, ?_, rfl, rfl⟩
    simp only [upd_at, if_true]
    have := settle_mslice (n := t.women.length) (cap := t.women.length) hB3 hE hH3 (by simp [ownUpto]) (Nat.le_refl _)
    simpa [eI, List.map_map, Function.comp_def] using this

/-- The women, of the first so many, who miscounted. -/
def wrongUpto (t : Table) (o : List Int) (j : Nat) : List Int := ((List.range j).filter fun w => !decide ((t.women.getD w default).lo ≤ (o.take t.pieces.length).count (w : Int) ∧ ((o.take t.pieces.length).count (w : Int) : Int) ≤ (t.women.getD w default).hi)).map Int.ofNat
def wrongOf (t : Table) (o : List Int) : List Int := wrongUpto t o t.women.length
theorem wrongUpto_succ (t : Table) (o : List Int) (j : Nat) : wrongUpto t o (j + 1) = wrongUpto t o j ++ (if ((t.women.getD j default).lo ≤ (o.take t.pieces.length).count (j : Int) ∧ ((o.take t.pieces.length).count (j : Int) : Int) ≤ (t.women.getD j default).hi) then [] else [(j : Int)]) := by
  simp only [wrongUpto, List.range_succ, List.filter_append, List.map_append]
  congr 1
  by_cases h : ((t.women.getD j default).lo ≤ (o.take t.pieces.length).count (j : Int) ∧ ((o.take t.pieces.length).count (j : Int) : Int) ≤ (t.women.getD j default).hi)
  · rw [if_pos h]; simp only [List.filter_cons, h, and_self, decide_true, Bool.not_true, Bool.false_eq_true, if_false, List.filter_nil, List.map_nil]
  · rw [if_neg h]; simp only [List.filter_cons, h, decide_false, Bool.not_false, if_true, List.filter_nil, List.map_cons, List.map_nil]; rfl
theorem wrongUpto_len (t : Table) (o : List Int) (j : Nat) : (wrongUpto t o j).length ≤ j := by
  simp only [wrongUpto, List.length_map]
  exact Nat.le_trans (List.length_filter_le _ _) (by simp)
theorem wrong_c (t : Table) (o : List Int) (hs : TSm t) (ho : o.length = 7) (hp : t.pieces.length ≤ 7) (hv : ∀ i, i < t.pieces.length → ∃ w : Nat, o.getD i 0 = (w : Int) ∧ w < t.women.length) :
    Pure Tryz.prog 137 [eT t, .agg (o.map i6)] (.slice (eI (wrongOf t o))) := by
  intro H
  have h1 := hs.women
  unfold Sm at h1
  refine fn_of hmix fc137 (by simp) ?_
  rw [ienv2]
  simp only [go_sem, reduceIte, reduceCtorEq, Nat.reduceEqDiff, Nat.reduceBEq, Nat.reduceAdd, Nat.reduceMul, Nat.reduceLeDiff, ac137, eT]
  refine v_box _ rfl fun b1 hb1 => ?_
  simp only [go_sem, reduceIte, reduceCtorEq, Nat.reduceEqDiff, Nat.reduceBEq, Nat.reduceAdd, Nat.reduceMul, Nat.reduceLeDiff]
  refine v_box _ rfl fun b2 hb2 => ?_
  have hne : b1 ≠ b2 := fun h => by subst h; simp at hb2
  simp only [go_sem, reduceIte, reduceCtorEq, Nat.reduceEqDiff, Nat.reduceBEq, Nat.reduceAdd, Nat.reduceMul, Nat.reduceLeDiff, updH_ne _ _ hne, ho, take_len (show (o.map i6).length = 7 by simp [ho])]
  have e2 : Ext H (updH (updH H b1 (.box [.slice (t.women.map eW), .slice (t.pieces.map eP), i6 t.wrong])) b2 (.box (o.map i6))) := ((Ext.refl H).new hb1 _).new hb2 _
  refine (own_c t o hs ho hp hv).go ?_
  simp only [go_sem, reduceIte, reduceCtorEq, Nat.reduceEqDiff, Nat.reduceBEq, Nat.reduceAdd, Nat.reduceMul, Nat.reduceLeDiff, show (ownUpto t.women.length o t.pieces.length).length = t.women.length by simp [ownUpto]]
  refine x_for t.women.length (fun j env H1 => Ext H H1 ∧ Grown 1 H H1 (env 4) (eI (wrongUpto t o j)) ∧ H1 b1 = some (.box [.slice (t.women.map eW), .slice (t.pieces.map eP), i6 t.wrong]) ∧ env 2 = .ptr b1 0 ∧ env 9 = .slice (eI (ownUpto t.women.length o t.pieces.length)) ∧ env 10 = i6 t.women.length ∧ env 11 = i6 j ∧ env 31 = .any)
    ⟨e2, .inl ⟨by simp [upd_at], rfl⟩, by rw [updH_ne _ _ hne]; exact updH_same _ _ _, by simp [upd_at], by simp [upd_at], by simp [upd_at], by simp [upd_at], by simp [upd_at]⟩ ?_
  rintro j env H1 hj ⟨hE, hG, hB, g2, g9, g10, g11, hN⟩
  by_cases hlt : (j : Int) < (t.women.length : Int)
  · have hlt' : j < t.women.length := by omega
    have hlen := wrongUpto_len t o j
    have hget : t.women.getD j default = t.women[j] := by simp [hlt']
    have hown : (eI (ownUpto t.women.length o t.pieces.length))[j]? = some [i6 ((o.take t.pieces.length).count (j : Int) : Nat)] := by simp [eI, ownUpto, hlt']
    simp only [go_sem, reduceIte, reduceCtorEq, Nat.reduceEqDiff, Nat.reduceBEq, Nat.reduceAdd, Nat.reduceMul, Nat.reduceLeDiff, g2, g9, g10, g11, hN, hlt, hown, hB, map_get (f := eW) hlt', eW]
    refine (rangehas_c _ _ _).go ?_
    simp only [go_sem, reduceIte, reduceCtorEq, Nat.reduceEqDiff, Nat.reduceBEq, Nat.reduceAdd, Nat.reduceMul, Nat.reduceLeDiff]
    by_cases hm : (t.women[j].lo ≤ ((o.take t.pieces.length).count (j : Int) : Nat) ∧ (((o.take t.pieces.length).count (j : Int) : Nat) : Int) ≤ t.women[j].hi)
    · simp only [go_sem, reduceIte, reduceCtorEq, Nat.reduceEqDiff, Nat.reduceBEq, Nat.reduceAdd, Nat.reduceMul, Nat.reduceLeDiff, hm, g2, g9, g10, g11, hN, wsucc (show j < 4611686018427387904 by omega), hlt']
      refine ⟨hE, ?_, hB⟩
      rw [wrongUpto_succ, hget, if_pos hm, List.append_nil]; exact hG
    · simp only [go_sem, reduceIte, reduceCtorEq, Nat.reduceEqDiff, Nat.reduceBEq, Nat.reduceAdd, Nat.reduceMul, Nat.reduceLeDiff, hm, g2, g9, g10, g11, hN]
      refine v_append hG hE rfl (eI_good _) (one_good _) (one_cell _) (by simp; omega) (by simp; omega) ?_
      intro v' H2 hg' he' hk'
      simp only [go_sem, reduceIte, reduceCtorEq, Nat.reduceEqDiff, Nat.reduceBEq, Nat.reduceAdd, Nat.reduceMul, Nat.reduceLeDiff, g2, g9, g10, g11, hN, wsucc (show j < 4611686018427387904 by omega), hlt']
      refine ⟨he', ?_, hk'.box hG hB⟩
      rw [wrongUpto_succ, hget, if_neg hm, eI_app]; exact hg'
  · simp only [go_sem, reduceIte, reduceCtorEq, Nat.reduceEqDiff, Nat.reduceBEq, Nat.reduceAdd, Nat.reduceMul, Nat.reduceLeDiff, g2, g9, g10, g11, hN, hlt]
    have : j = t.women.length := by omega
    subst this
    refine fin_ret 4 (by simp [upd_at, hN]) ⟨_, H, ?_, rfl, rfl⟩
    simp only [upd_at, if_true]
    exact hG.weaken hE
end Go.Lift

set_option linter.unusedSimpArgs false
set_option linter.unusedVariables false
namespace Go.Lift
open Go Go.Proofs

theorem fin_cell {P : Program} {N : Nat} {env : Env} {H : AHeap} (t s n b : Nat) (ty : TypeId) (cs : List AV) (hN : env N = .any) (h1 : isAggB P ty = some true) (h2 : szB P ty = some n) (ht : env t = .ptr b 0) (hb : H b = some (.box cs)) (hl : cs.length = n)
    {Rr : AV → AHeap → Prop} (h : ∃ r' H2, Settle H (.tup [.agg cs, env s]) H2 r' ∧ Rr r' H2) : fin P [.cell t ty, .tmp s] N Rr .ret env H := by
  obtain ⟨r', H2, h3, h4⟩ := h
  refine ⟨H, .inl ⟨hN, rfl⟩, .tup [.agg cs, env s], ?_, r', H2, h3, h4⟩
  have : resV P env H (.cell t ty) = some (.agg cs) := by
    simp only [resV, h1, h2, ht, at_obj, hb, obj_box, Nat.zero_le, if_true, List.drop_zero, Option.bind_some, take_tt, hl, Nat.le_refl]
    rw [take_len hl]
  have h5 : resV P env H (.tmp s) = some (env s) := rfl
  simp [aret, List.mapM_cons, List.mapM_nil, this, h5, oneOf]

def ownersOK (t : Table) (l : List Int) : Bool := decide (l.length = t.pieces.length) && (List.range l.length).all fun i => decide (l.getD i 0 ∈ womenOf t.women (t.pieces.getD i default).marks)
def padTo (l : List Int) (j : Nat) : List Int := l.take j ++ List.replicate (7 - j) 0
theorem padTo_len (l : List Int) (j : Nat) (h : j ≤ l.length) (h7 : j ≤ 7) : (padTo l j).length = 7 := by simp [padTo]; omega
theorem padTo_succ (l : List Int) (j : Nat) (h : j < l.length) (h7 : j < 7) : (padTo l j).set j l[j] = padTo l (j + 1) := by
  apply List.ext_getElem
  · rw [List.length_set, padTo_len _ _ (by omega) (by omega), padTo_len _ _ (by omega) (by omega)]
  · intro i h1 h2
    rw [List.getElem_set]
    have hl : (l.take j).length = j := by simp; omega
    have hl' : (l.take (j + 1)).length = j + 1 := by simp; omega
    by_cases hij : j = i
    · subst hij
      simp only [if_true, padTo]
      rw [List.getElem_append_left (by omega)]; simp
    · simp only [hij, if_false, padTo]
      rcases Nat.lt_or_ge i j with hlt | hge
      · rw [List.getElem_append_left (by omega), List.getElem_append_left (by omega)]; simp
      · rw [List.getElem_append_right (by omega), List.getElem_append_right (by omega)]; simp

theorem agg205 : isAggB Tryz.prog 205 = some true := by kernel_rfl
theorem sz205 : szB Tryz.prog 205 = some 7 := by kernel_rfl

theorem listed_c (t : Table) (l : List Int) (hs : TSm t) (hp : t.pieces.length ≤ 7) (hl : Sm l.length) (H : AHeap) :
    ACalls Tryz.prog 155 [eT t, .slice (eI l)] H fun r H' => H' = H ∧ ∃ o : List Int, o.length = 7 ∧ r = .tup [.agg (o.map i6), .bool (ownersOK t l)] ∧ (ownersOK t l = true → o = padTo l l.length) := by
  have hl' := hl
  unfold Sm at hl'
  refine fn_of hmix fc155 (by simp) ?_
  rw [ienv2]
  simp only [go_sem, reduceIte, reduceCtorEq, Nat.reduceEqDiff, Nat.reduceBEq, Nat.reduceAdd, Nat.reduceMul, Nat.reduceLeDiff, ac155, eT]
  refine v_box _ rfl fun b1 hb1 => ?_
  simp only [go_sem, reduceIte, reduceCtorEq, Nat.reduceEqDiff, Nat.reduceBEq, Nat.reduceAdd, Nat.reduceMul, Nat.reduceLeDiff]
  refine v_alloc fun b4 hb4 => ?_
  have hne : b1 ≠ b4 := fun h => by subst h; simp at hb4
  simp only [go_sem, reduceIte, reduceCtorEq, Nat.reduceEqDiff, Nat.reduceBEq, Nat.reduceAdd, Nat.reduceMul, Nat.reduceLeDiff, updH_ne _ _ hne]
  have hz : ([.int .i64 0, .int .i64 0, .int .i64 0, .int .i64 0, .int .i64 0, .int .i64 0, .int .i64 0] : List AV) = (padTo l 0).map i6 := rfl
  rw [hz]
  have e2 : Ext H (updH (updH H b1 (.box [.slice (t.women.map eW), .slice (t.pieces.map eP), i6 t.wrong])) b4 (.box ((padTo l 0).map i6))) := ((Ext.refl H).new hb1 _).new hb4 _
  have hH4 : H b4 = none := ((Ext.refl H).new hb1 _).isNone hb4
  by_cases c1 : (l.length : Int) = (t.pieces.length : Int)
  rotate_left
  · simp only [go_sem, reduceIte, reduceCtorEq, Nat.reduceEqDiff, Nat.reduceBEq, Nat.reduceAdd, Nat.reduceMul, Nat.reduceLeDiff, c1, updH_ne _ _ hne, take_len (show ((padTo l 0).map i6).length = 7 from rfl), show ((padTo l 0).map i6).length = 7 from rfl, show (padTo l 0).length = 7 from rfl]
    rw [v_store]
    refine ⟨rfl, rfl, by simp [AV.cells, padTo, AV.isCell], _, updH_same _ _ _, by simp [padTo], ?_⟩
    simp only [go_sem, reduceIte, reduceCtorEq, Nat.reduceEqDiff, Nat.reduceBEq, Nat.reduceAdd, Nat.reduceMul, Nat.reduceLeDiff, placeAll _ _ rfl]
    refine fin_cell 4 5 7 b4 205 _ (by simp [upd_at]) agg205 sz205 (by simp [upd_at]) (updH_same _ _ _) rfl ⟨_, H, Settle.refl (e2.upd hH4 _), rfl, padTo l 0, rfl, ?_, ?_⟩
    · simp only [upd_at, if_true, ownersOK, show ¬ l.length = t.pieces.length by omega, decide_false, Bool.false_and]
    · simp [ownersOK, show ¬ l.length = t.pieces.length by omega]
  have c1' : l.length = t.pieces.length := by omega
  simp only [go_sem, reduceIte, reduceCtorEq, Nat.reduceEqDiff, Nat.reduceBEq, Nat.reduceAdd, Nat.reduceMul, Nat.reduceLeDiff, c1]
  refine x_for l.length (fun j env H1 => Ext H H1 ∧ H1 b1 = some (.box [.slice (t.women.map eW), .slice (t.pieces.map eP), i6 t.wrong]) ∧ H1 b4 = some (.box ((padTo l j).map i6)) ∧ env 2 = .ptr b1 0 ∧ env 4 = .ptr b4 0 ∧ env 15 = .slice (eI l) ∧ env 16 = i6 l.length ∧ env 17 = i6 j ∧ env 38 = .any ∧ ∀ i, i < j → l.getD i 0 ∈ womenOf t.women (t.pieces.getD i default).marks)
    ⟨e2, by rw [updH_ne _ _ hne]; exact updH_same _ _ _, updH_same _ _ _, by simp [upd_at], by simp [upd_at], by simp [upd_at], by simp [upd_at, c1], by simp [upd_at], by simp [upd_at], by simp⟩ ?_
  rintro j env H1 hj ⟨hE, hB1, hB4, g2, g4, g15, g16, g17, hN, hq⟩
  have hpl := padTo_len l j hj (by omega)
  have hpl' : ((padTo l j).map i6).length = 7 := by simp [hpl]
  by_cases hlt : (j : Int) < (l.length : Int)
  · have hlt' : j < l.length := by omega
    have hltp : j < t.pieces.length := by omega
    have hgl : l.getD j 0 = l[j] := by simp [hlt']
    have hgp : t.pieces.getD j default = t.pieces[j] := by simp [hltp]
    simp only [go_sem, reduceIte, reduceCtorEq, Nat.reduceEqDiff, Nat.reduceBEq, Nat.reduceAdd, Nat.reduceMul, Nat.reduceLeDiff, g2, g4, g15, g16, g17, hN, hlt, eI_get hlt', hB1, map_get (f := eP) hltp, eP]
    refine pgo_call (of_c t t.pieces[j] hs.women (hs.marks _ (List.getElem_mem _))) ?_
    simp only [go_sem, reduceIte, reduceCtorEq, Nat.reduceEqDiff, Nat.reduceBEq, Nat.reduceAdd, Nat.reduceMul, Nat.reduceLeDiff]
    refine pgo_call (contains_c _ l[j] (by have := womenUpto_len t.women t.pieces[j].marks t.women.length; have := hs.women; unfold Sm at *; simp only [womenOf]; omega)) ?_
    simp only [go_sem, reduceIte, reduceCtorEq, Nat.reduceEqDiff, Nat.reduceBEq, Nat.reduceAdd, Nat.reduceMul, Nat.reduceLeDiff]
    by_cases hm : l[j] ∈ womenOf t.women t.pieces[j].marks
    · simp only [go_sem, reduceIte, reduceCtorEq, Nat.reduceEqDiff, Nat.reduceBEq, Nat.reduceAdd, Nat.reduceMul, Nat.reduceLeDiff, hm, g2, g4, g15, g16, g17, hN, show (j : Int) < ((7 : Nat) : Int) by omega, Nat.mul_one]
      rw [v_store]
      refine ⟨rfl, rfl, by simp [AV.cells, AV.isCell], _, hB4, by simp [hpl]; omega, ?_⟩
      simp only [go_sem, reduceIte, reduceCtorEq, Nat.reduceEqDiff, Nat.reduceBEq, Nat.reduceAdd, Nat.reduceMul, Nat.reduceLeDiff, g2, g4, g15, g16, g17, hN, wsucc (show j < 4611686018427387904 by omega), hlt', updH_ne _ _ hne, hB1]
      refine ⟨hE.upd hH4 _, ?_, ?_⟩
      · rw [placeAt_set _ _ _ (by omega), ← padTo_succ l j hlt' (by omega), List.map_set]
      · intro i hi
        rcases Nat.lt_or_ge i j with h | h
        · exact hq i h
        · have : i = j := by omega
          subst this; rw [hgl, hgp]; exact hm
    · simp only [go_sem, reduceIte, reduceCtorEq, Nat.reduceEqDiff, Nat.reduceBEq, Nat.reduceAdd, Nat.reduceMul, Nat.reduceLeDiff, hm, g2, g4, g15, g16, g17, hN, hB4, hpl', take_len hpl', hpl]
      rw [v_store]
      refine ⟨rfl, hpl', by simp [AV.cells, AV.isCell], _, hB4, by simp [hpl], ?_⟩
      simp only [go_sem, reduceIte, reduceCtorEq, Nat.reduceEqDiff, Nat.reduceBEq, Nat.reduceAdd, Nat.reduceMul, Nat.reduceLeDiff, placeAll _ _ rfl]
      refine fin_cell 4 5 7 b4 205 _ (by simp [upd_at, hN]) agg205 sz205 (by simp [upd_at, g4]) (updH_same _ _ _) hpl' ⟨_, H, Settle.refl (hE.upd hH4 _), rfl, padTo l j, hpl, ?_, ?_⟩
      · have : ownersOK t l = false := by
          simp only [ownersOK, Bool.and_eq_false_iff, List.all_eq_false]
          exact .inr ⟨j, by simp [hlt'], by rw [hgl, hgp]; simp [hm]⟩
        simp [upd_at, this]
      · have : ownersOK t l = false := by
          simp only [ownersOK, Bool.and_eq_false_iff, List.all_eq_false]
          exact .inr ⟨j, by simp [hlt'], by rw [hgl, hgp]; simp [hm]⟩
        simp [this]
  · have : j = l.length := by omega
    subst this
    simp only [go_sem, reduceIte, reduceCtorEq, Nat.reduceEqDiff, Nat.reduceBEq, Nat.reduceAdd, Nat.reduceMul, Nat.reduceLeDiff, g2, g4, g15, g16, g17, hN, hlt, hB4, hpl', take_len hpl', hpl]
    rw [v_store]
    refine ⟨rfl, hpl', by simp [AV.cells, AV.isCell], _, hB4, by simp [hpl], ?_⟩
    simp only [go_sem, reduceIte, reduceCtorEq, Nat.reduceEqDiff, Nat.reduceBEq, Nat.reduceAdd, Nat.reduceMul, Nat.reduceLeDiff, placeAll _ _ rfl]
    refine fin_cell 4 5 7 b4 205 _ (by simp [upd_at, hN]) agg205 sz205 (by simp [upd_at, g4]) (updH_same _ _ _) hpl' ⟨_, H, Settle.refl (hE.upd hH4 _), rfl, padTo l l.length, hpl, ?_, fun _ => rfl⟩
    have : ownersOK t l = true := by
      simp only [ownersOK, Bool.and_eq_true, decide_eq_true_eq, List.all_eq_true, List.mem_range]
      exact ⟨c1', hq⟩
    simp [upd_at, this]

theorem agg_ok_owners (t : Table) (l : List Int) (h : ownersOK t l = true) : l.length = t.pieces.length ∧ ∀ i, i < t.pieces.length → l.getD i 0 ∈ womenOf t.women (t.pieces.getD i default).marks := by
  simp only [ownersOK, Bool.and_eq_true, decide_eq_true_eq, List.all_eq_true, List.mem_range] at h
  exact ⟨h.1, fun i hi => h.2 i (by omega)⟩
theorem womenOf_mem {ws : List Woman} {marks : List Int} {x : Int} (h : x ∈ womenOf ws marks) : ∃ w : Nat, x = (w : Int) ∧ w < ws.length := by
  simp only [womenOf, womenUpto, List.mem_map, List.mem_filter, List.mem_range] at h
  obtain ⟨w, ⟨h1, _⟩, rfl⟩ := h
  exact ⟨w, rfl, h1⟩
theorem padTo_get (l : List Int) (i : Nat) (h : i < l.length) : (padTo l l.length).getD i 0 = l.getD i 0 := by
  simp only [padTo, List.take_length]
  rw [List.getD_eq_getElem?_getD, List.getElem?_append_left h, List.getD_eq_getElem?_getD]
/-- Is a list a truth of a table (that is none of the wrong ones)? -/
def isTruthT (t : Table) (l : List Int) : Bool := decide (checkTable t = 0) && (ownersOK t l && decide (((wrongOf t (padTo l l.length)).length : Int) ≤ t.wrong))
theorem checkTable_len {t : Table} (h : checkTable t = 0) : t.women.length ≤ 5 ∧ t.pieces.length ≤ 7 := by
  unfold checkTable at h
  by_cases hc : 5 < (t.women.length : Int) ∨ 7 < (t.pieces.length : Int)
  · rw [if_pos hc] at h; omega
  · omega
theorem proveTruth_c (t : Table) (l : List Int) (hs : TSm t) (hl : Sm l.length) : Pure Tryz.prog 130 [eT t, .slice (eI l)] (.bool (isTruthT t l)) := by
  intro H
  refine fn_of hmix fc130 (by simp) ?_
  rw [ienv2]
  simp only [go_sem, reduceIte, reduceCtorEq, Nat.reduceEqDiff, Nat.reduceBEq, Nat.reduceAdd, Nat.reduceMul, Nat.reduceLeDiff, ac130]
  refine v_box _ rfl fun b1 hb1 => ?_
  simp only [go_sem, reduceIte, reduceCtorEq, Nat.reduceEqDiff, Nat.reduceBEq, Nat.reduceAdd, Nat.reduceMul, Nat.reduceLeDiff, eT]
  have e1 : Ext H (updH H b1 (.box [.slice (t.women.map eW), .slice (t.pieces.map eP), i6 t.wrong])) := (Ext.refl H).new hb1 _
  refine (checkTable_c t hs).go ?_
  by_cases c1 : checkTable t = 0
  rotate_left
  · simp only [go_sem, reduceIte, reduceCtorEq, Nat.reduceEqDiff, Nat.reduceBEq, Nat.reduceAdd, Nat.reduceMul, Nat.reduceLeDiff, c1]
    refine fin_ret 4 (by simp [upd_at]) ⟨_, H, Settle.refl e1, ?_⟩
    simp [upd_at, isTruthT, c1]
  have hlen := checkTable_len c1
  simp only [go_sem, reduceIte, reduceCtorEq, Nat.reduceEqDiff, Nat.reduceBEq, Nat.reduceAdd, Nat.reduceMul, Nat.reduceLeDiff, c1]
  refine (listed_c t l hs hlen.2 hl _).mono ?_
  rintro _ _ ⟨rfl, o, ho, rfl, hpad⟩
  simp only [go_sem, reduceIte, reduceCtorEq, Nat.reduceEqDiff, Nat.reduceBEq, Nat.reduceAdd, Nat.reduceMul, Nat.reduceLeDiff, List.getElem?_cons_zero, List.getElem?_cons_succ]
  refine v_alloc fun b5 hb5 => ?_
  have hne : b1 ≠ b5 := fun h => by subst h; simp at hb5
  simp only [go_sem, reduceIte, reduceCtorEq, Nat.reduceEqDiff, Nat.reduceBEq, Nat.reduceAdd, Nat.reduceMul, Nat.reduceLeDiff]
  rw [v_store]
  have ho7 : (o.map i6).length = 7 := by simp [ho]
  refine ⟨rfl, ho7, by simp [AV.cells, AV.isCell], _, updH_same _ _ _, by simp, ?_⟩
  simp only [go_sem, reduceIte, reduceCtorEq, Nat.reduceEqDiff, Nat.reduceBEq, Nat.reduceAdd, Nat.reduceMul, Nat.reduceLeDiff, placeAll _ _ (show ([AV.int .i64 0, .int .i64 0, .int .i64 0, .int .i64 0, .int .i64 0, .int .i64 0, .int .i64 0] : List AV).length = (o.map i6).length by simp [ho])]
  have e5 : ∀ o1 o2, Ext H (updH (updH (updH H b1 (.box [.slice (t.women.map eW), .slice (t.pieces.map eP), i6 t.wrong])) b5 o1) b5 o2) := fun o1 o2 => (e1.new hb5 _).upd (e1.isNone hb5) _
  cases c2 : ownersOK t l
  · simp only [go_sem, reduceIte, reduceCtorEq, Nat.reduceEqDiff, Nat.reduceBEq, Nat.reduceAdd, Nat.reduceMul, Nat.reduceLeDiff, c2]
    refine fin_ret 4 (by simp [upd_at]) ⟨_, H, Settle.refl (e5 _ _), ?_⟩
    simp [upd_at, isTruthT, c2]
  obtain ⟨hk1, hk2⟩ := agg_ok_owners t l c2
  have hoe := hpad c2
  subst hoe
  simp only [go_sem, reduceIte, reduceCtorEq, Nat.reduceEqDiff, Nat.reduceBEq, Nat.reduceAdd, Nat.reduceMul, Nat.reduceLeDiff, c2, updH_ne _ _ hne, take_len ho7, ho7, ho]
  refine pgo_call (wrong_c t (padTo l l.length) hs ho hlen.2 (fun i hi => by
    rw [padTo_get l i (by omega)]; exact womenOf_mem (hk2 i hi))) ?_
  simp only [go_sem, reduceIte, reduceCtorEq, Nat.reduceEqDiff, Nat.reduceBEq, Nat.reduceAdd, Nat.reduceMul, Nat.reduceLeDiff, updH_ne _ _ hne]
  refine fin_ret 4 (by simp [upd_at]) ⟨_, H, Settle.refl (e5 _ _), ?_⟩
  simp [upd_at, isTruthT, c1, c2]
end Go.Lift

set_option linter.unusedSimpArgs false
set_option linter.unusedVariables false
namespace Go.Lift
open Go Go.Proofs

/-- A private box that is handed on is fixed: its pointer then reads for good. -/
theorem rep_elem {H1 H2 : AHeap} {w : World} {v : Value} {b : Nat} {cs : List AV} (hH : HRel H1 w) (hb : H1 b = some (.box cs)) (e : Ext H2 H1) (hn : H2 b = none) (hr : Rep H1 w v (.ptr b 0)) : Rep H2 w v (.elem cs) := by
  obtain ⟨b', off', hv, vs, hvs⟩ := cellsAt_rep hH hr (at_ptr hb (Nat.zero_le _))
  cases hr
  cases hv
  refine Rep.elem b 0 cs vs (fun j hj => ?_) (fun j x hx => ?_)
  · have := (hvs j cs[j] (by simp [hj])).1
    exact ⟨.inl hn, this⟩
  · exact ((hvs j x (by simpa using hx)).2).mono (Evolve.drop e)
theorem settle_func {H1 H2 : AHeap} {f : Fn} {b : Nat} {cs : List AV} (hb : H1 b = some (.box cs)) (e : Ext H2 H1) (hn : H2 b = none) : Settle H1 (.func f [] [.ptr b 0]) H2 (.func f [] [.elem cs]) := by
  refine ⟨e, fun w v hH hr => ?_⟩
  cases hr with
  | func fn first cap af ac hf hc hx hy =>
    refine .func _ _ _ _ _ hf (by simpa using hc) (fun i x hi => by simp at hi) (fun i x hi => ?_)
    cases i with
    | zero =>
      simp only [List.getElem?_cons_zero, Option.some.injEq] at hi
      subst hi
      exact rep_elem hH hb e hn (hy 0 _ rfl)
    | succ i => simp at hi

def tCells (t : Table) : List AV := [.slice (t.women.map eW), .slice (t.pieces.map eP), i6 t.wrong]
theorem lists_c (t : Table) : Pure Tryz.prog 136 [eT t] (.func (.func 165) [] [.elem (tCells t)]) := by
  intro H
  refine fn_of hmix fc136 (by simp) ?_
  rw [ienv1]
  simp only [go_sem, reduceIte, reduceCtorEq, Nat.reduceEqDiff, Nat.reduceBEq, Nat.reduceAdd, Nat.reduceMul, Nat.reduceLeDiff, ac136, eT]
  refine v_box _ rfl fun b hb => ?_
  simp only [go_sem, reduceIte, reduceCtorEq, Nat.reduceEqDiff, Nat.reduceBEq, Nat.reduceAdd, Nat.reduceMul, Nat.reduceLeDiff]
  refine fin_ret 2 (by simp [upd_at]) ⟨_, H, ?_, rfl, rfl⟩
  simp only [upd_at, if_true]
  exact settle_func (updH_same _ _ _) ((Ext.refl H).new hb _) hb

/-- A call of a function value. -/
def ACallV (P : Program) (v : AV) (xs : List AV) (H : AHeap) (R : AV → AHeap → Prop) : Prop := aopV P .callv (v :: xs) H R

/-- One who takes what is enumerated: J says what has been taken, and of which blocks it speaks; E where it has been left. -/
structure Taker (P : Program) {α : Type} (yv : AV) (enc : α → AV) (full : List α) (J E : List α → (Nat → Prop) → AHeap → Prop) : Prop where
  dom : ∀ s F H, J s F H → ∀ x, F x → ∃ o, H x = some o
  edom : ∀ s F H, E s F H → ∀ x, F x → ∃ o, H x = some o
  stable : ∀ s F H H', J s F H → (∀ x, F x → H' x = H x) → J s F H'
  estable : ∀ s F H H', E s F H → (∀ x, F x → H' x = H x) → E s F H'
  step : ∀ s F H o, s ++ [o] <+: full → J s F H → ACallV P yv [enc o] H fun r H' => ∃ F', (∀ x, F' x → F x ∨ H x = none) ∧ (∀ x, ¬ F x → (∃ o, H x = some o) → H' x = H x) ∧
    ((r = .bool true ∧ J (s ++ [o]) F' H') ∨ (r = .bool false ∧ E (s ++ [o]) F' H'))
end Go.Lift

set_option linter.unusedSimpArgs false
set_option linter.unusedVariables false
namespace Go.Lift
open Go Go.Proofs

/-- All owners of so many more pieces behind the first ones, in order. -/
def enumO (t : Table) : Nat → List Int → List (List Int)
  | 0, pre => [pre]
  | k + 1, pre => (womenOf t.women (t.pieces.getD pre.length default).marks).flatMap fun w => enumO t k (pre ++ [w])
def eO (o : List Int) : AV := .agg ((padTo o o.length).map i6)

/-- What is private to the one who enumerates stays out of the taker's. -/
structure Frame0 (F : Nat → Prop) (H : AHeap) (bo : Nat) (F' : Nat → Prop) (H' : AHeap) : Prop where
  foot : ∀ x, F' x → F x ∨ H x = none
  kept : ∀ x, ¬ F x → x ≠ bo → (∃ o, H x = some o) → H' x = H x
theorem Frame0.refl (F : Nat → Prop) (H : AHeap) (bo : Nat) : Frame0 F H bo F H := ⟨fun x h => .inl h, fun _ _ _ _ => rfl⟩
theorem Frame0.trans {F F' F'' : Nat → Prop} {H H' H'' : AHeap} {bo : Nat} (a : Frame0 F H bo F' H') (b : Frame0 F' H' bo F'' H'') (hb : ∃ o, H' bo = some o) : Frame0 F H bo F'' H'' := by
  have key : ∀ x, H' x = none → F x ∨ H x = none := fun x hx => by
    by_cases hF : F x
    · exact .inl hF
    · by_cases hxb : x = bo
      · subst hxb; obtain ⟨o, ho⟩ := hb; rw [ho] at hx; cases hx
      · cases hh : H x with
        | none => exact .inr rfl
        | some o => rw [a.kept x hF hxb ⟨o, hh⟩, hh] at hx; cases hx
  refine ⟨fun x hx => ?_, fun x hF hxb hh => ?_⟩
  · rcases b.foot x hx with h | h
    · exact a.foot x h
    · exact key x h
  · have h1 := a.kept x hF hxb hh
    have hF' : ¬ F' x := fun h => by
      rcases a.foot x h with h | h
      · exact hF h
      · obtain ⟨o, ho⟩ := hh; rw [ho] at h; cases h
    rw [b.kept x hF' hxb (by rw [h1]; exact hh), h1]
theorem Frame0.out {F F' : Nat → Prop} {H H' : AHeap} {bo x : Nat} (a : Frame0 F H bo F' H') (hx : ¬ F x) (hh : ∃ o, H x = some o) : ¬ F' x := fun h => by
  rcases a.foot x h with h | h
  · exact hx h
  · obtain ⟨o, ho⟩ := hh; rw [ho] at h; cases h

section
variable {yv : AV} {full : List (List Int)} {J E : List (List Int) → (Nat → Prop) → AHeap → Prop}

theorem choose_c (t : Table) (hs : TSm t) (hp : t.pieces.length ≤ 7) (T : Taker Tryz.prog yv eO full J E) (by_ bo bc : Nat) (h1 : by_ ≠ bo) (h2 : bc ≠ bo) :
    ∀ (k : Nat) (pre : List Int) (s : List (List Int)) (F : Nat → Prop) (H : AHeap) (o : List Int), pre.length + k = t.pieces.length → o.length = 7 → o.take pre.length = pre → o.drop t.pieces.length = List.replicate (7 - t.pieces.length) 0 →
      s ++ enumO t k pre <+: full → J s F H → ¬ F by_ → ¬ F bo → ¬ F bc → H by_ = some (.box [yv]) → H bo = some (.box (o.map i6)) → H bc = some (.box [.func (.func 166) [] [.elem (tCells t), .ptr by_ 0, .ptr bo 0, .ptr bc 0]]) →
      ACalls Tryz.prog 166 [i6 pre.length, .elem (tCells t), .ptr by_ 0, .ptr bo 0, .ptr bc 0] H fun r H' => ∃ F' o', Frame0 F H bo F' H' ∧ H' bo = some (.box (List.map i6 o')) ∧ o'.length = 7 ∧ o'.take pre.length = pre ∧ o'.drop t.pieces.length = List.replicate (7 - t.pieces.length) 0 ∧
        ((r = .bool true ∧ J (s ++ enumO t k pre) F' H') ∨ (r = .bool false ∧ ∃ l1 l2, enumO t k pre = l1 ++ l2 ∧ E (s ++ l1) F' H')) := by
  intro k
  induction k with
  | zero =>
    intro pre s F H o hk ho htake hdrop hfull hJ n1 n2 n3 hy hbo hbc
    refine fn_of hmix fc166 (by simp) ?_
    rw [ienv5]
    have hpl : pre.length = t.pieces.length := by omega
    have ho7 : (o.map i6).length = 7 := by simp [ho]
    simp only [go_sem, reduceIte, reduceCtorEq, Nat.reduceEqDiff, Nat.reduceBEq, Nat.reduceAdd, Nat.reduceMul, Nat.reduceLeDiff, ac166, tCells, hpl, hy, hbo, ho, take_len ho7]
    have hoe : AV.agg (o.map i6) = eO pre := by
      simp only [eO, padTo, List.take_length, AV.agg.injEq]
      congr 1
      conv => lhs; rw [← List.take_append_drop t.pieces.length o]
      rw [hdrop, ← hpl, htake]
    rw [hoe]
    refine aopV_mono ?_ (T.step s F H pre (by simpa [enumO] using hfull) hJ)
    rintro r H' ⟨F', hF, hK, hcase⟩
    simp only [go_sem, reduceIte, reduceCtorEq, Nat.reduceEqDiff, Nat.reduceBEq, Nat.reduceAdd, Nat.reduceMul, Nat.reduceLeDiff]
    refine fin_ret' 6 (by simp [upd_at]) ?_
    simp only [upd_at, if_true]
    refine ⟨F', o, ⟨hF, fun x hx _ hh => hK x hx hh⟩, by rw [hK bo n2 ⟨_, hbo⟩]; exact hbo, ho, by rw [← hpl]; exact htake, hdrop, ?_⟩
    rcases hcase with ⟨rfl, h⟩ | ⟨rfl, h⟩
    · exact .inl ⟨rfl, h⟩
    · exact .inr ⟨rfl, [pre], [], rfl, h⟩
  | succ k ih =>
    intro pre s F H o hk ho htake hdrop hfull hJ n1 n2 n3 hy hbo hbc
    refine fn_of hmix fc166 (by simp) ?_
    rw [ienv5]
    have hpl : pre.length < t.pieces.length := by omega
    have hne : ¬ ((pre.length : Int) = (t.pieces.length : Int)) := by omega
    have hgp : t.pieces.getD pre.length default = t.pieces[pre.length] := by simp [hpl]
    simp only [go_sem, reduceIte, reduceCtorEq, Nat.reduceEqDiff, Nat.reduceBEq, Nat.reduceAdd, Nat.reduceMul, Nat.reduceLeDiff, ac166, tCells, hne, map_get (f := eP) hpl, eP]
    refine pgo_call (of_c t t.pieces[pre.length] hs.women (hs.marks _ (List.getElem_mem _))) ?_
    simp only [go_sem, reduceIte, reduceCtorEq, Nat.reduceEqDiff, Nat.reduceBEq, Nat.reduceAdd, Nat.reduceMul, Nat.reduceLeDiff]
    generalize hwl : womenOf t.women t.pieces[pre.length].marks = wl
    have hwlen : wl.length < 2147483648 := by
      have := womenUpto_len t.women t.pieces[pre.length].marks t.women.length; have := hs.women; unfold Sm at this; rw [← hwl]; simp only [womenOf]; omega
    refine x_for wl.length (fun m env H' => ∃ F' o', Frame0 F H bo F' H' ∧ H' bo = some (.box (List.map i6 o')) ∧ o'.length = 7 ∧ o'.take pre.length = pre ∧ o'.drop t.pieces.length = List.replicate (7 - t.pieces.length) 0 ∧ J (s ++ (wl.take m).flatMap fun w => enumO t k (pre ++ [w])) F' H' ∧
        env 0 = i6 pre.length ∧ env 3 = .ptr bo 0 ∧ env 4 = .ptr bc 0 ∧ env 23 = .slice (eI wl) ∧ env 24 = i6 wl.length ∧ env 25 = i6 m ∧ env 38 = .any)
      ⟨F, o, Frame0.refl _ _ _, hbo, ho, htake, hdrop, by simpa using hJ, by simp [upd_at], by simp [upd_at], by simp [upd_at], by simp [upd_at], by simp [upd_at], by simp [upd_at], by simp [upd_at]⟩ ?_
    rintro m env H1 hm ⟨F1, o1, hfr, hbo1, ho1, htake1, hdrop1, hJ1, g0, g3, g4, g23, g24, g25, hN⟩
    have hy1 : H1 by_ = some (.box [yv]) := by rw [hfr.kept by_ n1 h1 ⟨_, hy⟩]; exact hy
    have hbc1 := (hfr.kept bc n3 h2 ⟨_, hbc⟩).trans hbc
    have m1 := hfr.out n1 ⟨_, hy⟩
    have m2 := hfr.out n2 ⟨_, hbo⟩
    have m3 := hfr.out n3 ⟨_, hbc⟩
    by_cases hlt : (m : Int) < (wl.length : Int)
    · have hlt' : m < wl.length := by omega
      have ho7 : (o1.map i6).length = 7 := by simp [ho1]
      simp only [go_sem, reduceIte, reduceCtorEq, Nat.reduceEqDiff, Nat.reduceBEq, Nat.reduceAdd, Nat.reduceMul, Nat.reduceLeDiff, g0, g3, g4, g23, g24, g25, hN, hlt, eI_get hlt', show (pre.length : Int) < ((7 : Nat) : Int) by omega, Nat.mul_one]
      rw [v_store]
      refine ⟨rfl, rfl, by simp [AV.cells, AV.isCell], _, hbo1, by simp [ho1]; omega, ?_⟩
      rw [show (i6 wl[m]).cells = [i6 wl[m]] from rfl, placeAt_set _ _ _ (by simp [ho1]; omega)]
      have hset : (o1.map i6).set pre.length (AV.int .i64 wl[m]) = (o1.set pre.length wl[m]).map i6 := by rw [List.map_set]
      simp only [go_sem, reduceIte, reduceCtorEq, Nat.reduceEqDiff, Nat.reduceBEq, Nat.reduceAdd, Nat.reduceMul, Nat.reduceLeDiff, g0, g3, g4, g23, g24, g25, hN, updH_ne _ _ h2, hbc1, wsucc (show pre.length < 4611686018427387904 by omega), List.nil_append, List.cons_append, hset]
      have hlen : (pre ++ [wl[m]]).length = pre.length + 1 := by simp
      have hJ2 : J (s ++ (wl.take m).flatMap fun w => enumO t k (pre ++ [w])) F1 (updH H1 bo (.box ((o1.set pre.length wl[m]).map i6))) :=
        T.stable _ _ _ _ hJ1 (fun x hx => by rw [updH_ne _ _ (fun e => m2 (by rw [← e]; exact hx))])
      have hcall := ih (pre ++ [wl[m]]) _ F1 _ (o1.set pre.length wl[m]) (by rw [hlen]; omega) (by simp [ho1]) (by
          rw [hlen, List.take_add_one, List.take_set_of_le (Nat.le_refl _), htake1, List.getElem?_set_self (by omega)]; rfl)
        (by rw [List.drop_set_of_lt hpl]; exact hdrop1) (by
          refine List.IsPrefix.trans ?_ hfull
          rw [List.append_assoc]
          refine List.prefix_append_right_inj _ |>.2 ?_
          simp only [enumO, hgp, hwl]
          conv => rhs; rw [← List.take_append_drop m wl, List.drop_eq_getElem_cons hlt']
          rw [List.flatMap_append, List.flatMap_cons, ← List.append_assoc]
          exact List.prefix_append _ _) hJ2 m1 m2 m3 (by rw [updH_ne _ _ h1]; exact hy1) (updH_same _ _ _) (by rw [updH_ne _ _ h2]; exact hbc1)
      rw [hlen] at hcall
      refine hcall.mono ?_
      rintro r H2 ⟨F2, o2, hfr2, hbo2, ho2, htake2, hdrop2, hcase⟩
      have hfr12 : Frame0 F1 H1 bo F1 (updH H1 bo (.box ((o1.set pre.length wl[m]).map i6))) := ⟨fun x h => .inl h, fun x _ hx _ => updH_ne _ _ hx⟩
      have hfrA := (hfr.trans hfr12 ⟨_, hbo1⟩).trans hfr2 ⟨_, updH_same _ _ _⟩
      have htk : o2.take pre.length = pre := by
        have := congrArg (List.take pre.length) htake2
        rw [List.take_take, List.take_left', Nat.min_eq_left (by simp)] at this
        · exact this
        · rfl
      rcases hcase with ⟨rfl, hJ3⟩ | ⟨rfl, l1, l2, hl, hE3⟩
      · simp only [go_sem, reduceIte, reduceCtorEq, Nat.reduceEqDiff, Nat.reduceBEq, Nat.reduceAdd, Nat.reduceMul, Nat.reduceLeDiff, g0, g3, g4, g23, g24, g25, hN, wsucc (show m < 4611686018427387904 by omega), hlt']
        refine ⟨F2, o2, hfrA, hbo2, ho2, htk, hdrop2, ?_⟩
        rw [List.take_add_one, List.getElem?_eq_getElem hlt', Option.toList_some, List.flatMap_append, ← List.append_assoc]
        simpa using hJ3
      · simp only [go_sem, reduceIte, reduceCtorEq, Nat.reduceEqDiff, Nat.reduceBEq, Nat.reduceAdd, Nat.reduceMul, Nat.reduceLeDiff, g0, g3, g4, g23, g24, g25, hN]
        refine fin_ret' 6 (by simp [upd_at, hN]) ?_
        simp only [upd_at, if_true]
        refine ⟨F2, o2, hfrA, hbo2, ho2, htk, hdrop2, .inr ⟨trivial, ((wl.take m).flatMap fun w => enumO t k (pre ++ [w])) ++ l1, l2 ++ (wl.drop (m + 1)).flatMap fun w => enumO t k (pre ++ [w]), ?_, by rw [← List.append_assoc]; exact hE3⟩⟩
        simp only [enumO, hgp, hwl]
        conv => lhs; rw [← List.take_append_drop m wl, List.drop_eq_getElem_cons hlt']
        rw [List.flatMap_append, List.flatMap_cons, hl]
        simp only [List.append_assoc]
    · simp only [go_sem, reduceIte, reduceCtorEq, Nat.reduceEqDiff, Nat.reduceBEq, Nat.reduceAdd, Nat.reduceMul, Nat.reduceLeDiff, g0, g3, g4, g23, g24, g25, hN, hlt]
      have : m = wl.length := by omega
      subst this
      refine fin_ret' 6 (by simp [upd_at, hN]) ?_
      simp only [upd_at, if_true]
      refine ⟨F1, o1, hfr, hbo1, ho1, htake1, hdrop1, .inl ⟨trivial, ?_⟩⟩
      simp only [enumO, hgp, hwl]
      rw [List.take_length] at hJ1
      exact hJ1
end
end Go.Lift

set_option linter.unusedSimpArgs false
set_option linter.unusedVariables false
namespace Go.Lift
open Go Go.Proofs

theorem fin_none {P : Program} {N : Nat} {env : Env} {H : AHeap} (hN : env N = .any) {Rr : AV → AHeap → Prop} (h : Rr (.tup []) H) : fin P [] N Rr .norm env H :=
  ⟨H, .inl ⟨hN, rfl⟩, .tup [], rfl, .tup [], H, Settle.refl (fun _ _ h => h), h⟩

theorem listsGo_c (t : Table) (hs : TSm t) (hp : t.pieces.length ≤ 7) {fn : Fn} {ff fc : List AV} {J E : List (List Int) → (Nat → Prop) → AHeap → Prop} (T : Taker Tryz.prog (.func fn ff fc) eO (enumO t t.pieces.length []) J E) (F : Nat → Prop) (H : AHeap) (hJ : J [] F H) :
    ACalls Tryz.prog 165 [.func fn ff fc, .elem (tCells t)] H fun r H' => r = .tup [] ∧ ∃ F', (∀ x, F' x → F x ∨ H x = none) ∧ (∀ x, ¬ F x → (∃ o, H x = some o) → H' x = H x) ∧
      (J (enumO t t.pieces.length []) F' H' ∨ ∃ l1 l2, enumO t t.pieces.length [] = l1 ++ l2 ∧ E l1 F' H') := by
  refine fn_of hmix fc165 (by simp) ?_
  rw [ienv2]
  simp only [go_sem, reduceIte, reduceCtorEq, Nat.reduceEqDiff, Nat.reduceBEq, Nat.reduceAdd, Nat.reduceMul, Nat.reduceLeDiff, ac165]
  refine v_box _ rfl fun b1 hb1 => ?_
  simp only [go_sem, reduceIte, reduceCtorEq, Nat.reduceEqDiff, Nat.reduceBEq, Nat.reduceAdd, Nat.reduceMul, Nat.reduceLeDiff]
  refine v_alloc fun b2 hb2 => ?_
  simp only [go_sem, reduceIte, reduceCtorEq, Nat.reduceEqDiff, Nat.reduceBEq, Nat.reduceAdd, Nat.reduceMul, Nat.reduceLeDiff]
  refine v_alloc fun b3 hb3 => ?_
  simp only [go_sem, reduceIte, reduceCtorEq, Nat.reduceEqDiff, Nat.reduceBEq, Nat.reduceAdd, Nat.reduceMul, Nat.reduceLeDiff]
  have n12 : b1 ≠ b2 := fun h => by subst h; simp at hb2
  have n13 : b1 ≠ b3 := fun h => by subst h; simp [updH, n12] at hb3
  have n23 : b2 ≠ b3 := fun h => by subst h; simp at hb3
  have e1 : Ext H (updH H b1 (.box (AV.func fn ff fc).cells)) := (Ext.refl H).new hb1 _
  have hb2' : H b2 = none := e1.isNone hb2
  have hb3' : H b3 = none := (e1.new hb2 _).isNone hb3
  rw [v_store]
  refine ⟨rfl, rfl, by simp [AV.cells, AV.isCell], _, updH_same _ _ _, by simp, ?_⟩
  simp only [go_sem, reduceIte, reduceCtorEq, Nat.reduceEqDiff, Nat.reduceBEq, Nat.reduceAdd, Nat.reduceMul, Nat.reduceLeDiff, AV.cells, placeAt, List.append_nil, List.nil_append, List.drop_nil]
  have hdom := T.dom _ _ _ hJ
  have hF : ∀ x, H x = none → ¬ F x := fun x hx h => by obtain ⟨o, ho⟩ := hdom x h; rw [ho] at hx; cases hx
  have hz : ([.int .i64 0, .int .i64 0, .int .i64 0, .int .i64 0, .int .i64 0, .int .i64 0, .int .i64 0] : List AV) = (List.replicate 7 (0 : Int)).map i6 := rfl
  rw [hz]
  generalize hHH : updH (updH (updH (updH H b1 (.box [.func fn ff fc])) b2 (.box ((List.replicate 7 (0 : Int)).map i6))) b3 (.box [.nilf])) b3 (.box [.func (.func 166) [] [.elem (tCells t), .ptr b1 0, .ptr b2 0, .ptr b3 0]]) = HH
  have hother : ∀ x, x ≠ b1 → x ≠ b2 → x ≠ b3 → HH x = H x := fun x h1 h2 h3 => by subst hHH; simp [updH, h1, h2, h3]
  have hJ' : J [] F HH := T.stable _ _ _ _ hJ (fun x hx => hother x (fun h => hF _ hb1 (h ▸ hx)) (fun h => hF _ hb2' (h ▸ hx)) (fun h => hF _ hb3' (h ▸ hx)))
  have hc := choose_c t hs hp T b1 b2 b3 n12 n23.symm t.pieces.length [] [] F HH (List.replicate 7 0) (by simp) (by simp) rfl (by rw [List.drop_replicate]) (by simp) hJ' (hF _ hb1) (hF _ hb2') (hF _ hb3')
    (by subst hHH; simp [updH, n12, n13]) (by subst hHH; simp [updH, n23]) (by subst hHH; simp [updH])
  refine hc.mono ?_
  rintro r H2 ⟨F2, o2, hfr, hbo, ho2, htk, hdr, hcase⟩
  simp only [go_sem, reduceIte, reduceCtorEq, Nat.reduceEqDiff, Nat.reduceBEq, Nat.reduceAdd, Nat.reduceMul, Nat.reduceLeDiff]
  refine fin_none (by simp [upd_at]) ⟨rfl, F2, fun x hx => ?_, fun x hx hh => ?_, ?_⟩
  · rcases hfr.foot x hx with h | h
    · exact .inl h
    · right
      by_cases h1 : x = b1
      · subst h1; exact hb1
      by_cases h2 : x = b2
      · subst h2; exact hb2'
      by_cases h3 : x = b3
      · subst h3; exact hb3'
      rw [← hother x h1 h2 h3]; exact h
  · obtain ⟨o, ho⟩ := hh
    have h1 : x ≠ b1 := fun h => by subst h; rw [hb1] at ho; cases ho
    have h2 : x ≠ b2 := fun h => by subst h; rw [hb2'] at ho; cases ho
    have h3 : x ≠ b3 := fun h => by subst h; rw [hb3'] at ho; cases ho
    rw [hfr.kept x hx h2 ⟨o, by rw [hother x h1 h2 h3]; exact ho⟩, hother x h1 h2 h3]
  · rcases hcase with ⟨_, h⟩ | ⟨_, l1, l2, hl, h⟩
    · exact .inl (by simpa using h)
    · exact .inr ⟨l1, l2, hl, by simpa using h⟩
end Go.Lift

set_option linter.unusedSimpArgs false
set_option linter.unusedVariables false
namespace Go.Lift
open Go Go.Proofs

def thingsW (h : House) : Int := IntKind.i64.wrap ((h.table.pieces.length : Int) + h.others)
def thingOK (h : House) (n : Int) : Bool := decide (0 ≤ n ∧ n ≤ IntKind.i64.wrap (thingsW h - 1))
def hourOK (h : House) (n : Int) : Bool := decide (0 ≤ n ∧ n ≤ h.last)
theorem pieces_c (h : House) : Pure Tryz.prog 127 [eH h] (i6 h.table.pieces.length) := by
  intro H
  refine fn_of hmix fc127 (by simp) ?_
  rw [ienv1]
  simp only [go_sem, reduceIte, reduceCtorEq, Nat.reduceEqDiff, Nat.reduceBEq, Nat.reduceAdd, Nat.reduceMul, Nat.reduceLeDiff, ac127, eH]
  refine v_box _ rfl fun b1 hb1 => ?_
  simp only [go_sem, reduceIte, reduceCtorEq, Nat.reduceEqDiff, Nat.reduceBEq, Nat.reduceAdd, Nat.reduceMul, Nat.reduceLeDiff]
  refine fin_ret 2 (by simp [upd_at]) ⟨_, H, Settle.refl ((Ext.refl H).new hb1 _), ?_⟩
  simp [upd_at]
theorem things_c (h : House) : Pure Tryz.prog 77 [eH h] (i6 (thingsW h)) := by
  intro H
  refine fn_of hmix fc77 (by simp) ?_
  rw [ienv1]
  simp only [go_sem, reduceIte, reduceCtorEq, Nat.reduceEqDiff, Nat.reduceBEq, Nat.reduceAdd, Nat.reduceMul, Nat.reduceLeDiff, ac77, eH]
  refine v_box _ rfl fun b1 hb1 => ?_
  simp only [go_sem, reduceIte, reduceCtorEq, Nat.reduceEqDiff, Nat.reduceBEq, Nat.reduceAdd, Nat.reduceMul, Nat.reduceLeDiff]
  refine pgo_call (pieces_c h) ?_
  simp only [go_sem, reduceIte, reduceCtorEq, Nat.reduceEqDiff, Nat.reduceBEq, Nat.reduceAdd, Nat.reduceMul, Nat.reduceLeDiff]
  refine fin_ret 2 (by simp [upd_at]) ⟨_, H, Settle.refl ((Ext.refl H).new hb1 _), ?_⟩
  simp [upd_at, thingsW]
theorem thing_c (h : House) (n : Int) : Pure Tryz.prog 111 [eH h, i6 n] (.bool (thingOK h n)) := by
  intro H
  refine fn_of hmix fc111 (by simp) ?_
  rw [ienv2]
  simp only [go_sem, reduceIte, reduceCtorEq, Nat.reduceEqDiff, Nat.reduceBEq, Nat.reduceAdd, Nat.reduceMul, Nat.reduceLeDiff, ac111, eH]
  refine v_box _ rfl fun b1 hb1 => ?_
  simp only [go_sem, reduceIte, reduceCtorEq, Nat.reduceEqDiff, Nat.reduceBEq, Nat.reduceAdd, Nat.reduceMul, Nat.reduceLeDiff]
  refine (things_c h).go ?_
  simp only [go_sem, reduceIte, reduceCtorEq, Nat.reduceEqDiff, Nat.reduceBEq, Nat.reduceAdd, Nat.reduceMul, Nat.reduceLeDiff]
  refine (within_c n 0 _).go ?_
  simp only [go_sem, reduceIte, reduceCtorEq, Nat.reduceEqDiff, Nat.reduceBEq, Nat.reduceAdd, Nat.reduceMul, Nat.reduceLeDiff]
  refine fin_ret 4 (by simp [upd_at]) ⟨_, H, Settle.refl ((Ext.refl H).new hb1 _), ?_⟩
  simp [upd_at, thingOK]
theorem hour_c (h : House) (n : Int) : Pure Tryz.prog 99 [eH h, i6 n] (.bool (hourOK h n)) := by
  intro H
  refine fn_of hmix fc99 (by simp) ?_
  rw [ienv2]
  simp only [go_sem, reduceIte, reduceCtorEq, Nat.reduceEqDiff, Nat.reduceBEq, Nat.reduceAdd, Nat.reduceMul, Nat.reduceLeDiff, ac99, eH]
  refine v_box _ rfl fun b1 hb1 => ?_
  simp only [go_sem, reduceIte, reduceCtorEq, Nat.reduceEqDiff, Nat.reduceBEq, Nat.reduceAdd, Nat.reduceMul, Nat.reduceLeDiff]
  refine (within_c n 0 _).go ?_
  simp only [go_sem, reduceIte, reduceCtorEq, Nat.reduceEqDiff, Nat.reduceBEq, Nat.reduceAdd, Nat.reduceMul, Nat.reduceLeDiff]
  refine fin_ret 4 (by simp [upd_at]) ⟨_, H, Settle.refl ((Ext.refl H).new hb1 _), ?_⟩
  simp [upd_at, hourOK]
theorem sign_c (h : House) (s : Sign) : Pure Tryz.prog 117 [eH h, .agg (eS s)] (.bool (thingOK h s.thing)) := by
  intro H
  refine fn_of hmix fc117 (by simp) ?_
  rw [ienv2]
  simp only [go_sem, reduceIte, reduceCtorEq, Nat.reduceEqDiff, Nat.reduceBEq, Nat.reduceAdd, Nat.reduceMul, Nat.reduceLeDiff, ac117, eH, eS]
  refine v_box _ rfl fun b1 hb1 => ?_
  simp only [go_sem, reduceIte, reduceCtorEq, Nat.reduceEqDiff, Nat.reduceBEq, Nat.reduceAdd, Nat.reduceMul, Nat.reduceLeDiff]
  refine v_box _ rfl fun b2 hb2 => ?_
  have hne : b1 ≠ b2 := fun h => by subst h; simp at hb2
  simp only [go_sem, reduceIte, reduceCtorEq, Nat.reduceEqDiff, Nat.reduceBEq, Nat.reduceAdd, Nat.reduceMul, Nat.reduceLeDiff, updH_ne _ _ hne]
  refine (thing_c h s.thing).go ?_
  simp only [go_sem, reduceIte, reduceCtorEq, Nat.reduceEqDiff, Nat.reduceBEq, Nat.reduceAdd, Nat.reduceMul, Nat.reduceLeDiff]
  refine fin_ret 4 (by simp [upd_at]) ⟨_, H, Settle.refl (((Ext.refl H).new hb1 _).new hb2 _), ?_⟩
  simp [upd_at]
theorem boiling_c (h : House) (x : Boiling) : Pure Tryz.prog 116 [eH h, .agg (eB x)] (.bool (thingOK h x.thing && hourOK h x.hour)) := by
  intro H
  refine fn_of hmix fc116 (by simp) ?_
  rw [ienv2]
  simp only [go_sem, reduceIte, reduceCtorEq, Nat.reduceEqDiff, Nat.reduceBEq, Nat.reduceAdd, Nat.reduceMul, Nat.reduceLeDiff, ac116, eH, eB]
  refine v_box _ rfl fun b1 hb1 => ?_
  simp only [go_sem, reduceIte, reduceCtorEq, Nat.reduceEqDiff, Nat.reduceBEq, Nat.reduceAdd, Nat.reduceMul, Nat.reduceLeDiff]
  refine v_box _ rfl fun b2 hb2 => ?_
  have hne : b1 ≠ b2 := fun h => by subst h; simp at hb2
  simp only [go_sem, reduceIte, reduceCtorEq, Nat.reduceEqDiff, Nat.reduceBEq, Nat.reduceAdd, Nat.reduceMul, Nat.reduceLeDiff, updH_ne _ _ hne]
  refine (thing_c h x.thing).go ?_
  cases c1 : thingOK h x.thing
  · simp only [go_sem, reduceIte, reduceCtorEq, Nat.reduceEqDiff, Nat.reduceBEq, Nat.reduceAdd, Nat.reduceMul, Nat.reduceLeDiff]
    refine fin_ret 4 (by simp [upd_at]) ⟨_, H, Settle.refl (((Ext.refl H).new hb1 _).new hb2 _), ?_⟩
    simp [upd_at]
  · simp only [go_sem, reduceIte, reduceCtorEq, Nat.reduceEqDiff, Nat.reduceBEq, Nat.reduceAdd, Nat.reduceMul, Nat.reduceLeDiff, updH_ne _ _ hne]
    refine (hour_c h x.hour).go ?_
    simp only [go_sem, reduceIte, reduceCtorEq, Nat.reduceEqDiff, Nat.reduceBEq, Nat.reduceAdd, Nat.reduceMul, Nat.reduceLeDiff]
    refine fin_ret 4 (by simp [upd_at]) ⟨_, H, Settle.refl (((Ext.refl H).new hb1 _).new hb2 _), ?_⟩
    simp [upd_at]
end Go.Lift

set_option linter.unusedSimpArgs false
set_option linter.unusedVariables false
namespace Go.Lift
open Go Go.Proofs

def touchOK (h : House) (x : Touch) : Bool := thingOK h x.a && thingOK h x.b && !decide (x.a = x.b) && hourOK h x.lo && hourOK h x.hi && decide (x.lo ≤ x.hi)
theorem touch_c (h : House) (x : Touch) : Pure Tryz.prog 115 [eH h, .agg (eTo x)] (.bool (touchOK h x)) := by
  intro H
  refine fn_of hmix fc115 (by simp) ?_
  rw [ienv2]
  simp only [go_sem, reduceIte, reduceCtorEq, Nat.reduceEqDiff, Nat.reduceBEq, Nat.reduceAdd, Nat.reduceMul, Nat.reduceLeDiff, ac115, eH, eTo]
  refine v_box _ rfl fun b1 hb1 => ?_
  simp only [go_sem, reduceIte, reduceCtorEq, Nat.reduceEqDiff, Nat.reduceBEq, Nat.reduceAdd, Nat.reduceMul, Nat.reduceLeDiff]
  refine v_box _ rfl fun b2 hb2 => ?_
  have hne : b1 ≠ b2 := fun h => by subst h; simp at hb2
  simp only [go_sem, reduceIte, reduceCtorEq, Nat.reduceEqDiff, Nat.reduceBEq, Nat.reduceAdd, Nat.reduceMul, Nat.reduceLeDiff, updH_ne _ _ hne]
  refine (thing_c h x.a).go ?_
  cases c1 : thingOK h x.a
  · simp only [go_sem, reduceIte, reduceCtorEq, Nat.reduceEqDiff, Nat.reduceBEq, Nat.reduceAdd, Nat.reduceMul, Nat.reduceLeDiff]
    refine fin_ret 4 (by simp [upd_at]) ⟨_, H, Settle.refl (((Ext.refl H).new hb1 _).new hb2 _), ?_⟩
    simp [upd_at, touchOK, c1]
  simp only [go_sem, reduceIte, reduceCtorEq, Nat.reduceEqDiff, Nat.reduceBEq, Nat.reduceAdd, Nat.reduceMul, Nat.reduceLeDiff, updH_ne _ _ hne]
  refine (thing_c h x.b).go ?_
  cases c2 : thingOK h x.b
  · simp only [go_sem, reduceIte, reduceCtorEq, Nat.reduceEqDiff, Nat.reduceBEq, Nat.reduceAdd, Nat.reduceMul, Nat.reduceLeDiff]
    refine fin_ret 4 (by simp [upd_at]) ⟨_, H, Settle.refl (((Ext.refl H).new hb1 _).new hb2 _), ?_⟩
    simp [upd_at, touchOK, c1, c2]
  by_cases c3 : x.a = x.b
  · simp only [go_sem, reduceIte, reduceCtorEq, Nat.reduceEqDiff, Nat.reduceBEq, Nat.reduceAdd, Nat.reduceMul, Nat.reduceLeDiff, c3]
    refine fin_ret 4 (by simp [upd_at]) ⟨_, H, Settle.refl (((Ext.refl H).new hb1 _).new hb2 _), ?_⟩
    simp [upd_at, touchOK, c3]
  simp only [go_sem, reduceIte, reduceCtorEq, Nat.reduceEqDiff, Nat.reduceBEq, Nat.reduceAdd, Nat.reduceMul, Nat.reduceLeDiff, c3, updH_ne _ _ hne]
  refine (hour_c h x.lo).go ?_
  cases c4 : hourOK h x.lo
  · simp only [go_sem, reduceIte, reduceCtorEq, Nat.reduceEqDiff, Nat.reduceBEq, Nat.reduceAdd, Nat.reduceMul, Nat.reduceLeDiff]
    refine fin_ret 4 (by simp [upd_at]) ⟨_, H, Settle.refl (((Ext.refl H).new hb1 _).new hb2 _), ?_⟩
    simp [upd_at, touchOK, c4]
  simp only [go_sem, reduceIte, reduceCtorEq, Nat.reduceEqDiff, Nat.reduceBEq, Nat.reduceAdd, Nat.reduceMul, Nat.reduceLeDiff, updH_ne _ _ hne]
  refine (hour_c h x.hi).go ?_
  cases c5 : hourOK h x.hi
  · simp only [go_sem, reduceIte, reduceCtorEq, Nat.reduceEqDiff, Nat.reduceBEq, Nat.reduceAdd, Nat.reduceMul, Nat.reduceLeDiff]
    refine fin_ret 4 (by simp [upd_at]) ⟨_, H, Settle.refl (((Ext.refl H).new hb1 _).new hb2 _), ?_⟩
    simp [upd_at, touchOK, c5]
  by_cases c6 : x.lo ≤ x.hi
  · simp only [go_sem, reduceIte, reduceCtorEq, Nat.reduceEqDiff, Nat.reduceBEq, Nat.reduceAdd, Nat.reduceMul, Nat.reduceLeDiff, c6, updH_ne _ _ hne]
    refine fin_ret 4 (by simp [upd_at]) ⟨_, H, Settle.refl (((Ext.refl H).new hb1 _).new hb2 _), ?_⟩
    simp [upd_at, touchOK, c1, c2, c3, c4, c5, c6]
  · simp only [go_sem, reduceIte, reduceCtorEq, Nat.reduceEqDiff, Nat.reduceBEq, Nat.reduceAdd, Nat.reduceMul, Nat.reduceLeDiff, c6, updH_ne _ _ hne]
    refine fin_ret 4 (by simp [upd_at]) ⟨_, H, Settle.refl (((Ext.refl H).new hb1 _).new hb2 _), ?_⟩
    simp [upd_at, touchOK, c6]

theorem sick_c (h : House) (o hs : List Int) (i : Nat) (ho : o.length = 7) (hhs : hs.length = 6) (hi : i < 7) (hk : Sm h.sick.length) : Pure Tryz.prog 128 [eH h, .agg ((o ++ hs).map i6), i6 i] (.bool (decide (o.getD i 0 ∈ h.sick))) := by
  intro H
  refine fn_of hmix fc128 (by simp) ?_
  rw [ienv3]
  simp only [go_sem, reduceIte, reduceCtorEq, Nat.reduceEqDiff, Nat.reduceBEq, Nat.reduceAdd, Nat.reduceMul, Nat.reduceLeDiff, ac128, eH]
  refine v_box _ rfl fun b1 hb1 => ?_
  simp only [go_sem, reduceIte, reduceCtorEq, Nat.reduceEqDiff, Nat.reduceBEq, Nat.reduceAdd, Nat.reduceMul, Nat.reduceLeDiff]
  refine v_box _ rfl fun b2 hb2 => ?_
  have hne : b1 ≠ b2 := fun h => by subst h; simp at hb2
  have hget : ((o ++ hs).map i6)[i]? = some (i6 (o.getD i 0)) := by
    rw [List.getElem?_map, List.getElem?_append_left (by omega), List.getElem?_eq_getElem (by omega)]
    simp [show i < o.length by omega]
  simp only [go_sem, reduceIte, reduceCtorEq, Nat.reduceEqDiff, Nat.reduceBEq, Nat.reduceAdd, Nat.reduceMul, Nat.reduceLeDiff, updH_ne _ _ hne, show (i : Int) < ((7 : Nat) : Int) by omega, Nat.mul_one, List.length_append, ho, hhs, show i ≤ 13 by omega, take_f', drop_at, hget, List.getElem?_cons_zero]
  refine pgo_call (contains_c h.sick (o.getD i 0) hk) ?_
  simp only [go_sem, reduceIte, reduceCtorEq, Nat.reduceEqDiff, Nat.reduceBEq, Nat.reduceAdd, Nat.reduceMul, Nat.reduceLeDiff]
  refine fin_ret 6 (by simp [upd_at]) ⟨_, H, Settle.refl (((Ext.refl H).new hb1 _).new hb2 _), ?_⟩
  simp [upd_at]
end Go.Lift

set_option linter.unusedSimpArgs false
set_option linter.unusedVariables false
namespace Go.Lift
open Go Go.Proofs

def signRight (c : List Bool) (out : List Int) (i : Nat) (s : Sign) : Bool := decide ((i : Int) ∈ out) || !(c.getD s.thing.toNat false != s.carries)
def rightOK (h : House) (c : List Bool) (out : List Int) : Bool := (List.range h.signs.length).all fun i => signRight c out i (h.signs.getD i default)
theorem right_c (h : House) (c : List Bool) (out : List Int) (hc : c.length = 10) (ho : Sm out.length) (hs : Sm h.signs.length) (ht : ∀ s ∈ h.signs, ∃ k : Nat, s.thing = (k : Int) ∧ k < 10) :
    Pure Tryz.prog 114 [eH h, .agg (c.map .bool), .slice (eI out)] (.bool (rightOK h c out)) := by
  intro H
  unfold Sm at hs
  refine fn_of hmix fc114 (by simp) ?_
  rw [ienv3]
  simp only [go_sem, reduceIte, reduceCtorEq, Nat.reduceEqDiff, Nat.reduceBEq, Nat.reduceAdd, Nat.reduceMul, Nat.reduceLeDiff, ac114, eH]
  refine v_box _ rfl fun b1 hb1 => ?_
  simp only [go_sem, reduceIte, reduceCtorEq, Nat.reduceEqDiff, Nat.reduceBEq, Nat.reduceAdd, Nat.reduceMul, Nat.reduceLeDiff]
  refine v_box _ rfl fun b2 hb2 => ?_
  have hne : b1 ≠ b2 := fun h => by subst h; simp at hb2
  simp only [go_sem, reduceIte, reduceCtorEq, Nat.reduceEqDiff, Nat.reduceBEq, Nat.reduceAdd, Nat.reduceMul, Nat.reduceLeDiff, updH_ne _ _ hne]
  refine x_for h.signs.length (fun j env H1 => Ext H H1 ∧ H1 b2 = some (.box (c.map .bool)) ∧ env 2 = .slice (eI out) ∧ env 4 = .ptr b2 0 ∧ env 10 = .slice (h.signs.map eS) ∧ env 11 = i6 h.signs.length ∧ env 12 = i6 j ∧ env 31 = .any ∧ ∀ i, i < j → signRight c out i (h.signs.getD i default) = true)
    ⟨((Ext.refl H).new hb1 _).new hb2 _, updH_same _ _ _, by simp [upd_at], by simp [upd_at], by simp [upd_at], by simp [upd_at], by simp [upd_at], by simp [upd_at], by simp⟩ ?_
  rintro j env H1 hj ⟨hE, hB, g2, g4, g10, g11, g12, hN, hq⟩
  by_cases hlt : (j : Int) < (h.signs.length : Int)
  · have hlt' : j < h.signs.length := by omega
    have hget : h.signs.getD j default = h.signs[j] := by simp [hlt']
    obtain ⟨k, hk, hk10⟩ := ht _ (List.getElem_mem hlt')
    have hcell : (c.map AV.bool)[k]? = some (.bool (c.getD k false)) := by
      rw [List.getElem?_map, List.getElem?_eq_getElem (by omega)]
      simp [show k < c.length by omega]
    have hnext : signRight c out j h.signs[j] = true → ∀ i, i < j + 1 → signRight c out i (h.signs.getD i default) = true := fun hh i hi => by
      rcases Nat.lt_or_ge i j with h' | h'
      · exact hq i h'
      · have : i = j := by omega
        subst this; rw [hget]; exact hh
    have hbad : signRight c out j h.signs[j] = false → rightOK h c out = false := fun hh => by
      simp only [rightOK, List.all_eq_false]
      exact ⟨j, by simp [hlt'], by rw [hget, hh]; simp⟩
    simp only [go_sem, reduceIte, reduceCtorEq, Nat.reduceEqDiff, Nat.reduceBEq, Nat.reduceAdd, Nat.reduceMul, Nat.reduceLeDiff, g2, g4, g10, g11, g12, hN, hlt, map_get (f := eS) hlt', eS]
    refine v_alloc fun b3 hb3 => ?_
    have hne3 : b2 ≠ b3 := fun h => by subst h; rw [hB] at hb3; cases hb3
    simp only [go_sem, reduceIte, reduceCtorEq, Nat.reduceEqDiff, Nat.reduceBEq, Nat.reduceAdd, Nat.reduceMul, Nat.reduceLeDiff, g2, g4, g10, g11, g12, hN]
    rw [v_store]
    refine ⟨rfl, rfl, by simp [AV.cells, AV.isCell], _, updH_same _ _ _, by simp, ?_⟩
    simp only [go_sem, reduceIte, reduceCtorEq, Nat.reduceEqDiff, Nat.reduceBEq, Nat.reduceAdd, Nat.reduceMul, Nat.reduceLeDiff, g2, g4, g10, g11, g12, hN, placeAt, List.append_nil, List.nil_append, List.drop_nil]
    have hE2 : ∀ o1 o2, Ext H (updH (updH H1 b3 o1) b3 o2) := fun o1 o2 => (hE.new hb3 _).upd (hE.isNone hb3) _
    refine pgo_call (contains_c out j ho) ?_
    by_cases hm : (j : Int) ∈ out
    · simp only [go_sem, reduceIte, reduceCtorEq, Nat.reduceEqDiff, Nat.reduceBEq, Nat.reduceAdd, Nat.reduceMul, Nat.reduceLeDiff, hm, g2, g4, g10, g11, g12, hN, wsucc (show j < 4611686018427387904 by omega), hlt']
      exact ⟨hE2 _ _, by rw [updH_ne _ _ hne3, updH_ne _ _ hne3]; exact hB, hnext (by simp [signRight, hm])⟩
    · simp only [go_sem, reduceIte, reduceCtorEq, Nat.reduceEqDiff, Nat.reduceBEq, Nat.reduceAdd, Nat.reduceMul, Nat.reduceLeDiff, hm, g2, g4, g10, g11, g12, hN, hk, show (k : Int) < ((10 : Nat) : Int) by omega, Nat.mul_one, updH_ne _ _ hne3, hB, hc, show k ≤ 10 by omega, take_f', drop_at, hcell, List.getElem?_cons_zero, List.getElem?_cons_succ]
      cases hx : (c.getD k false != h.signs[j].carries)
      · simp only [go_sem, reduceIte, reduceCtorEq, Nat.reduceEqDiff, Nat.reduceBEq, Nat.reduceAdd, Nat.reduceMul, Nat.reduceLeDiff, g2, g4, g10, g11, g12, hN, wsucc (show j < 4611686018427387904 by omega), hlt', updH_ne _ _ hne3, hB]
        exact ⟨hE2 _ _, hnext (by simp only [signRight, hk, Int.toNat_natCast, hx]; simp)⟩
      · simp only [go_sem, reduceIte, reduceCtorEq, Nat.reduceEqDiff, Nat.reduceBEq, Nat.reduceAdd, Nat.reduceMul, Nat.reduceLeDiff, hN]
        refine fin_ret 6 (by simp [upd_at, hN]) ⟨_, H, Settle.refl (hE2 _ _), ?_⟩
        simp only [upd_at, if_true, and_true, AV.bool.injEq]
        exact (hbad (by simp only [signRight, hk, Int.toNat_natCast, hx, hm]; simp)).symm
  · simp only [go_sem, reduceIte, reduceCtorEq, Nat.reduceEqDiff, Nat.reduceBEq, Nat.reduceAdd, Nat.reduceMul, Nat.reduceLeDiff, g2, g4, g10, g11, g12, hN, hlt]
    have : j = h.signs.length := by omega
    subst this
    refine fin_ret 6 (by simp [upd_at, hN]) ⟨_, H, Settle.refl hE, ?_⟩
    simp only [upd_at, if_true, and_true, AV.bool.injEq]
    symm
    simp only [rightOK, List.all_eq_true, List.mem_range]
    exact hq
end Go.Lift

set_option linter.unusedSimpArgs false
set_option linter.unusedVariables false
namespace Go.Lift
open Go Go.Proofs

theorem settle_map {H1 H2 : AHeap} {b : Nat} {es : List ((Int × Int) × AV)} (hb : H1 b = some (.map es none)) (e : Ext H2 H1) (hn : H2 b = none) : Settle H1 (.mptr b) H2 (.amap es) := by
  refine ⟨e, fun w v hH hr => ?_⟩
  cases hr
  obtain ⟨entries, clock, h1, h2, h3, _, _, _⟩ := hH b _ hb
  exact .amap b entries clock es hn h1 h2 (fun i k v hi => (h3 i k v hi).1) (fun i k v hi => ((h3 i k v hi).2).mono (Evolve.drop e))

theorem v_mkmap {P : Program} {R : AV → AHeap → Prop} {H : AHeap} (h : ∀ b, H b = none → R (.mptr b) (updH H b (.map [] none))) : aopV P .mkmap [] H R := h
theorem v_mapupd {P : Program} {R : AV → AHeap → Prop} {H : AHeap} {b : Nat} {x y : Int} {v : AV} {es : List ((Int × Int) × AV)} (hv : v.ok = true) (hv' : v.isCell = true) (hb : H b = some (.map es none)) (h : R .any (updH H b (.map (setKey (x, y) v es) none))) :
    aopV P .mapupd [.mptr b, .agg [.int .i64 x, .int .i64 y], v] H R := by
  refine ⟨hv, hv', ?_⟩
  simp only [pairOf, hb]
  exact h
def bKey (x : Boiling) : Int × Int := (x.thing, x.hour)
def bMap (l : List Boiling) : List ((Int × Int) × AV) := l.foldl (fun es x => setKey (bKey x) (.bool true) es) []
theorem findKey_set (k k' : Int × Int) (v : AV) : ∀ es, findKey' k' (setKey k v es) = if k' = k then some v else findKey' k' es
  | [] => by
    simp only [setKey, findKey']
    by_cases h : k = k'
    · rw [if_pos h, if_pos h.symm]
    · rw [if_neg h, if_neg (fun h' => h h'.symm)]
  | (k2, v2) :: es => by
    have ih := findKey_set k k' v es
    simp only [setKey]
    by_cases h : k2 = k
    · subst h
      simp only [if_true, findKey']
      by_cases h2 : k2 = k'
      · rw [if_pos h2, if_pos h2.symm]
      · rw [if_neg h2, if_neg (fun h' => h2 h'.symm), if_neg h2]
    · simp only [h, if_false, findKey', ih]
      by_cases h2 : k2 = k'
      · subst h2; simp [h]
      · simp [h2]
theorem bMap_find (l : List Boiling) (k : Int × Int) : (findKey' k (bMap l)).getD (.bool false) = .bool (decide (k ∈ l.map bKey)) := by
  have key : ∀ (l : List Boiling) es, (findKey' k (l.foldl (fun es x => setKey (bKey x) (.bool true) es) es)).getD (.bool false) = if k ∈ l.map bKey then .bool true else (findKey' k es).getD (.bool false) := by
    intro l
    induction l with
    | nil => intro es; simp
    | cons x l ih =>
      intro es
      simp only [List.foldl_cons]
      rw [ih, findKey_set]
      simp only [List.map_cons, List.mem_cons]
      by_cases hk : k = bKey x
      · simp [hk]
      · by_cases hm : k ∈ l.map bKey
        · rw [if_pos hm, if_pos (.inr hm)]
        · rw [if_neg hm, if_neg hk, if_neg (fun h => h.elim hk hm)]
  have := key l []
  rw [bMap, this]
  by_cases hm : k ∈ l.map bKey
  · rw [if_pos hm, decide_eq_true hm]
  · rw [if_neg hm, decide_eq_false hm]; rfl
end Go.Lift

set_option linter.unusedSimpArgs false
set_option linter.unusedVariables false
namespace Go.Lift
open Go Go.Proofs
theorem bMap_snoc (l : List Boiling) (x : Boiling) : bMap (l ++ [x]) = setKey (bKey x) (.bool true) (bMap l) := by simp [bMap]
theorem bc2 (x y : Int) : buildCells [.int .i64 0, .int .i64 0] [(0, 1), (1, 1)] [.int .i64 x, .int .i64 y] = some [.int .i64 x, .int .i64 y] := by
  simp [buildCells, placeAt, AV.ok, AV.cells]
theorem take_snoc {α : Type} {l : List α} {j : Nat} (h : j < l.length) : l.take (j + 1) = l.take j ++ [l[j]] := by
  rw [List.take_add_one, List.getElem?_eq_getElem h]; rfl
theorem boilings_c (h : House) (more : List Boiling) (hb : Sm h.boiled.length) (hm : Sm more.length) : Pure Tryz.prog 93 [eH h, .slice (more.map eB)] (.amap (bMap (h.boiled ++ more))) := by
  intro H
  unfold Sm at hb hm
  refine fn_of hmix fc93 (by simp) ?_
  rw [ienv2]
  simp only [go_sem, reduceIte, reduceCtorEq, Nat.reduceEqDiff, Nat.reduceBEq, Nat.reduceAdd, Nat.reduceMul, Nat.reduceLeDiff, ac93, eH]
  refine v_box _ rfl fun b1 hb1 => ?_
  simp only [go_sem, reduceIte, reduceCtorEq, Nat.reduceEqDiff, Nat.reduceBEq, Nat.reduceAdd, Nat.reduceMul, Nat.reduceLeDiff]
  refine v_mkmap fun b2 hb2 => ?_
  have hne : b1 ≠ b2 := fun h => by subst h; simp at hb2
  simp only [go_sem, reduceIte, reduceCtorEq, Nat.reduceEqDiff, Nat.reduceBEq, Nat.reduceAdd, Nat.reduceMul, Nat.reduceLeDiff, updH_ne _ _ hne]
  have hH2 : H b2 = none := ((Ext.refl H).new hb1 _).isNone hb2
  refine x_for h.boiled.length (fun j env H1 => Ext H H1 ∧ H1 b2 = some (.map (bMap (h.boiled.take j)) none) ∧ env 1 = .slice (more.map eB) ∧ env 5 = .mptr b2 ∧ env 12 = .slice (h.boiled.map eB) ∧ env 13 = i6 h.boiled.length ∧ env 14 = i6 j ∧ env 35 = .any)
    ⟨((Ext.refl H).new hb1 _).new hb2 _, updH_same _ _ _, by simp [upd_at], by simp [upd_at], by simp [upd_at], by simp [upd_at], by simp [upd_at], by simp [upd_at]⟩ ?_
  rintro j env H1 hj ⟨hE, hM, g1, g5, g12, g13, g14, hN⟩
  by_cases hlt : (j : Int) < (h.boiled.length : Int)
  · have hlt' : j < h.boiled.length := by omega
    simp only [go_sem, reduceIte, reduceCtorEq, Nat.reduceEqDiff, Nat.reduceBEq, Nat.reduceAdd, Nat.reduceMul, Nat.reduceLeDiff, g1, g5, g12, g13, g14, hN, hlt, map_get (f := eB) hlt', eB]
    refine v_alloc fun b3 hb3 => ?_
    have hne3 : b2 ≠ b3 := fun h => by subst h; rw [hM] at hb3; cases hb3
    simp only [go_sem, reduceIte, reduceCtorEq, Nat.reduceEqDiff, Nat.reduceBEq, Nat.reduceAdd, Nat.reduceMul, Nat.reduceLeDiff, g1, g5, g12, g13, g14, hN]
    rw [v_store]
    refine ⟨rfl, rfl, by simp [AV.cells, AV.isCell], _, updH_same _ _ _, by simp, ?_⟩
    simp only [go_sem, reduceIte, reduceCtorEq, Nat.reduceEqDiff, Nat.reduceBEq, Nat.reduceAdd, Nat.reduceMul, Nat.reduceLeDiff, g1, g5, g12, g13, g14, hN, placeAt, List.append_nil, List.nil_append, List.drop_nil, bc2, Option.map_some]
    refine v_mapupd rfl rfl (by rw [updH_ne _ _ hne3, updH_ne _ _ hne3]; exact hM) ?_
    simp only [go_sem, reduceIte, reduceCtorEq, Nat.reduceEqDiff, Nat.reduceBEq, Nat.reduceAdd, Nat.reduceMul, Nat.reduceLeDiff, g1, g5, g12, g13, g14, hN, wsucc (show j < 4611686018427387904 by omega), hlt']
    refine ⟨((hE.new hb3 _).upd (hE.isNone hb3) _).upd hH2 _, ?_⟩
    rw [take_snoc hlt', bMap_snoc]; rfl
  have hj' : j = h.boiled.length := by omega
  subst hj'
  simp only [go_sem, reduceIte, reduceCtorEq, Nat.reduceEqDiff, Nat.reduceBEq, Nat.reduceAdd, Nat.reduceMul, Nat.reduceLeDiff, g1, g5, g12, g13, g14, hN, hlt]
  refine x_for more.length (fun j env H1 => Ext H H1 ∧ H1 b2 = some (.map (bMap (h.boiled ++ more.take j)) none) ∧ env 5 = .mptr b2 ∧ env 25 = .slice (more.map eB) ∧ env 26 = i6 more.length ∧ env 27 = i6 j ∧ env 35 = .any)
    ⟨hE, by rw [hM]; simp, by simp [upd_at, g5], by simp [upd_at], by simp [upd_at], by simp [upd_at], by simp [upd_at, hN]⟩ ?_
  rintro j env H1 hj ⟨hE, hM, g5, g25, g26, g27, hN⟩
  by_cases hlt : (j : Int) < (more.length : Int)
  · have hlt' : j < more.length := by omega
    simp only [go_sem, reduceIte, reduceCtorEq, Nat.reduceEqDiff, Nat.reduceBEq, Nat.reduceAdd, Nat.reduceMul, Nat.reduceLeDiff, g5, g25, g26, g27, hN, hlt, map_get (f := eB) hlt', eB]
    refine v_alloc fun b3 hb3 => ?_
    have hne3 : b2 ≠ b3 := fun h => by subst h; rw [hM] at hb3; cases hb3
    simp only [go_sem, reduceIte, reduceCtorEq, Nat.reduceEqDiff, Nat.reduceBEq, Nat.reduceAdd, Nat.reduceMul, Nat.reduceLeDiff, g5, g25, g26, g27, hN]
    rw [v_store]
    refine ⟨rfl, rfl, by simp [AV.cells, AV.isCell], _, updH_same _ _ _, by simp, ?_⟩
    simp only [go_sem, reduceIte, reduceCtorEq, Nat.reduceEqDiff, Nat.reduceBEq, Nat.reduceAdd, Nat.reduceMul, Nat.reduceLeDiff, g5, g25, g26, g27, hN, placeAt, List.append_nil, List.nil_append, List.drop_nil]
    refine v_mapupd rfl rfl (by rw [updH_ne _ _ hne3, updH_ne _ _ hne3]; exact hM) ?_
    simp only [go_sem, reduceIte, reduceCtorEq, Nat.reduceEqDiff, Nat.reduceBEq, Nat.reduceAdd, Nat.reduceMul, Nat.reduceLeDiff, g5, g25, g26, g27, hN, wsucc (show j < 4611686018427387904 by omega), hlt']
    refine ⟨((hE.new hb3 _).upd (hE.isNone hb3) _).upd hH2 _, ?_⟩
    rw [take_snoc hlt', ← List.append_assoc, bMap_snoc]; rfl
  · simp only [go_sem, reduceIte, reduceCtorEq, Nat.reduceEqDiff, Nat.reduceBEq, Nat.reduceAdd, Nat.reduceMul, Nat.reduceLeDiff, g5, g25, g26, g27, hN, hlt]
    have : j = more.length := by omega
    subst this
    refine fin_ret 4 (by simp [upd_at, hN]) ⟨_, H, ?_, rfl, rfl⟩
    simp only [upd_at, if_true]
    rw [List.take_length] at hM
    exact settle_map hM hE hH2
end Go.Lift

set_option linter.unusedSimpArgs false
set_option linter.unusedVariables false
namespace Go.Lift
open Go Go.Proofs
def lastAt (l : List Int) (i : Nat) : Int := if i = 0 then -1 else l.getD (i - 1) 0
def risingAt (l : List Int) (limit : Int) (i : Nat) : Bool := decide (IntKind.i64.wrap (lastAt l i + 1) ≤ l.getD i 0 ∧ l.getD i 0 ≤ IntKind.i64.wrap (limit - 1))
def risingOK (l : List Int) (limit : Int) : Bool := (List.range l.length).all (risingAt l limit)
theorem rising_c (l : List Int) (limit : Int) (hl : Sm l.length) : Pure Tryz.prog 106 [.slice (eI l), i6 limit] (.bool (risingOK l limit)) := by
  intro H
  unfold Sm at hl
  refine fn_of hmix fc106 (by simp) ?_
  rw [ienv2]
  simp only [go_sem, reduceIte, reduceCtorEq, Nat.reduceEqDiff, Nat.reduceBEq, Nat.reduceAdd, Nat.reduceMul, Nat.reduceLeDiff, ac106]
  refine x_for l.length (fun j env H1 => H1 = H ∧ env 1 = i6 limit ∧ env 5 = i6 (lastAt l j) ∧ env 8 = .slice (eI l) ∧ env 9 = i6 l.length ∧ env 10 = i6 j ∧ env 23 = .any ∧ ∀ i, i < j → risingAt l limit i = true)
    (by simp [upd_at, lastAt]) ?_
  rintro j env H1 hj ⟨rfl, g1, g5, g8, g9, g10, hN, hq⟩
  by_cases hlt : (j : Int) < (l.length : Int)
  · have hlt' : j < l.length := by omega
    have hget : l.getD j 0 = l[j] := by simp [hlt']
    simp only [go_sem, reduceIte, reduceCtorEq, Nat.reduceEqDiff, Nat.reduceBEq, Nat.reduceAdd, Nat.reduceMul, Nat.reduceLeDiff, g1, g5, g8, g9, g10, hN, hlt, eI_get hlt']
    refine (within_c l[j] _ _).go ?_
    cases hr : risingAt l limit j
    · have hr' := hr
      simp only [risingAt, hget] at hr'
      simp only [go_sem, reduceIte, reduceCtorEq, Nat.reduceEqDiff, Nat.reduceBEq, Nat.reduceAdd, Nat.reduceMul, Nat.reduceLeDiff, hr', g1, g5, g8, g9, g10, hN]
      refine fin_ret' 4 (by simp [upd_at, hN]) ?_
      simp only [upd_at, if_true, and_true, AV.bool.injEq]
      symm
      simp only [risingOK, List.all_eq_false]
      exact ⟨j, by simp [hlt'], by simp [hr]⟩
    · have hr' := hr
      simp only [risingAt, hget] at hr'
      simp only [go_sem, reduceIte, reduceCtorEq, Nat.reduceEqDiff, Nat.reduceBEq, Nat.reduceAdd, Nat.reduceMul, Nat.reduceLeDiff, hr', g1, g5, g8, g9, g10, hN, wsucc (show j < 4611686018427387904 by omega), hlt']
      refine ⟨by simp [lastAt, hlt'], fun i hi => ?_⟩
      rcases Nat.lt_or_ge i j with h' | h'
      · exact hq i h'
      · have : i = j := by omega
        subst this; exact hr
  · simp only [go_sem, reduceIte, reduceCtorEq, Nat.reduceEqDiff, Nat.reduceBEq, Nat.reduceAdd, Nat.reduceMul, Nat.reduceLeDiff, g1, g5, g8, g9, g10, hN, hlt]
    have : j = l.length := by omega
    subst this
    refine fin_ret' 4 (by simp [upd_at, hN]) ?_
    simp only [upd_at, if_true, and_true, AV.bool.injEq]
    symm
    simp only [risingOK, List.all_eq_true, List.mem_range]
    exact hq
theorem minimumS_c (a b : Int) : Pure Tryz.prog 138 [.slice [[i6 a], [i6 b]]] (i6 (if b < a then b else a)) := by
  intro H
  refine fn_of hmix fc138 (by simp) ?_
  rw [ienv1]
  simp only [go_sem, reduceIte, reduceCtorEq, Nat.reduceEqDiff, Nat.reduceBEq, Nat.reduceAdd, Nat.reduceMul, Nat.reduceLeDiff, ac138]
  refine (min2_c a b).go ?_
  simp only [go_sem, reduceIte, reduceCtorEq, Nat.reduceEqDiff, Nat.reduceBEq, Nat.reduceAdd, Nat.reduceMul, Nat.reduceLeDiff]
  refine fin_ret' 2 (by simp [upd_at]) ?_
  simp [upd_at]
end Go.Lift

set_option linter.unusedSimpArgs false
set_option linter.unusedVariables false
namespace Go.Lift
open Go Go.Proofs
def longestOf (h : House) (n : Int) : Int := if IntKind.i64.wrap (IntKind.i64.wrap (h.last - n) + 1) < 3 then IntKind.i64.wrap (IntKind.i64.wrap (h.last - n) + 1) else 3
theorem longest_c (h : House) (n : Int) : Pure Tryz.prog 109 [eH h, i6 n] (i6 (longestOf h n)) := by
  intro H
  refine fn_of hmix fc109 (by simp) ?_
  rw [ienv2]
  simp only [go_sem, reduceIte, reduceCtorEq, Nat.reduceEqDiff, Nat.reduceBEq, Nat.reduceAdd, Nat.reduceMul, Nat.reduceLeDiff, ac109, eH]
  refine v_box _ rfl fun b1 hb1 => ?_
  simp only [go_sem, reduceIte, reduceCtorEq, Nat.reduceEqDiff, Nat.reduceBEq, Nat.reduceAdd, Nat.reduceMul, Nat.reduceLeDiff]
  refine (minimumS_c 3 _).go ?_
  simp only [go_sem, reduceIte, reduceCtorEq, Nat.reduceEqDiff, Nat.reduceBEq, Nat.reduceAdd, Nat.reduceMul, Nat.reduceLeDiff]
  refine fin_ret 4 (by simp [upd_at]) ⟨_, H, Settle.refl ((Ext.refl H).new hb1 _), ?_⟩
  simp [upd_at, longestOf]
end Go.Lift

set_option linter.unusedSimpArgs false
set_option linter.unusedVariables false
namespace Go.Lift
open Go Go.Proofs
section
variable {P : Program} {H : AHeap} {env : Env} {K : Env → AHeap → Prop}
def ContL (P : Program) (us : List AOp) (t : ATr) (K : Env → AHeap → Prop) (env : Env) (d : Nat) (r : AV) (H : AHeap) : Prop := stab us (upd env d r) H ∧ atl P t K (upd env d r) H
def ContL0 (P : Program) (us : List AOp) (t : ATr) (K : Env → AHeap → Prop) (env : Env) (r : AV) (H : AHeap) : Prop := stab us env H ∧ atl P t K env H
theorem k_l1 (us : List AOp) (t : ATr) (d : Nat) (r : AV) : ContL P us t K env d r H = (stab us (upd env d r) H ∧ atl P t K (upd env d r) H) := _root_.id rfl
theorem k_l0 (us : List AOp) (t : ATr) (r : AV) : ContL0 P us t K env r H = (stab us env H ∧ atl P t K env H) := _root_.id rfl
theorem l_one1 (d : Nat) (tag : Tag) (xs : List Opd) (us : List AOp) (t : ATr) : atl P (.one ⟨some d, tag, xs, none⟩ us t) K env H = aopV P tag (xs.map (ev env)) H (ContL P us t K env d) := _root_.id rfl
theorem l_one0 (tag : Tag) (xs : List Opd) (us : List AOp) (t : ATr) : atl P (.one ⟨none, tag, xs, none⟩ us t) K env H = aopV P tag (xs.map (ev env)) H (ContL0 P us t K env) := _root_.id rfl
theorem stab_nil : stab [] env H = True := _root_.id rfl
theorem stab_cons (d : Nat) (tag : Tag) (xs : List Opd) (us : List AOp) : stab (⟨some d, tag, xs, none⟩ :: us) env H = (detV tag (xs.map (ev env)) H = some (env d) ∧ stab us env H) := by
  simp [stab, wantedA]
def stabG (v : AV) (b : Bool) (p : Prop) : Prop := wA v b = some true → p
theorem stab_if (d : Nat) (tag : Tag) (xs : List Opd) (t : Nat) (b : Bool) (us : List AOp) : stab (⟨some d, tag, xs, some (t, b)⟩ :: us) env H = (stabG (env t) b (detV tag (xs.map (ev env)) H = some (env d)) ∧ stab us env H) := by
  have : wantedA env (some (t, b)) = wA (env t) b := rfl
  simp [stab, stabG, this]
theorem st_tt (p : Prop) : stabG (.bool true) true p = p := by simp [stabG, wA]
theorem st_ff (p : Prop) : stabG (.bool false) false p = p := by simp [stabG, wA]
theorem st_tf (p : Prop) : stabG (.bool true) false p = True := by simp [stabG, wA]
theorem st_ft (p : Prop) : stabG (.bool false) true p = True := by simp [stabG, wA]
theorem st_u (b : Bool) (p : Prop) : stabG (.tup []) b p = True := by simp [stabG, wA]
theorem d_lookup (z : AV) (es : List ((Int × Int) × AV)) (x y : Int) : detV (.lookup z) [.amap es, .agg [.int .i64 x, .int .i64 y]] H = some ((findKey' (x, y) es).getD z) := _root_.id rfl
end
attribute [go_sem ↓] l_one0 l_one1 k_l0 k_l1
attribute [go_sem] stab_nil stab_cons stab_if st_tt st_ff st_tf st_ft st_u
theorem fin_cell1 {P : Program} {N : Nat} {env : Env} {H : AHeap} (t n b : Nat) (ty : TypeId) (cs : List AV) (hN : env N = .any) (h1 : isAggB P ty = some true) (h2 : szB P ty = some n) (ht : env t = .ptr b 0) (hb : H b = some (.box cs)) (hl : cs.length = n)
    {Rr : AV → AHeap → Prop} (h : ∃ r' H2, Settle H (.agg cs) H2 r' ∧ Rr r' H2) : fin P [.cell t ty] N Rr .ret env H := by
  obtain ⟨r', H2, h3, h4⟩ := h
  refine ⟨H, .inl ⟨hN, rfl⟩, .agg cs, ?_, r', H2, h3, h4⟩
  have : resV P env H (.cell t ty) = some (.agg cs) := by
    simp only [resV, h1, h2, ht, at_obj, hb, obj_box, Nat.zero_le, if_true, List.drop_zero, Option.bind_some, take_tt, hl, Nat.le_refl]
    rw [take_len hl]
  simp [aret, List.mapM_cons, List.mapM_nil, this, oneOf]
theorem foldl_inv {α β : Type} (p : α → Prop) (f : α → β → α) (hf : ∀ a b, p a → p (f a b)) : ∀ (l : List β) (a : α), p a → p (l.foldl f a)
  | [], a, h => h
  | x :: l, a, h => foldl_inv p f hf l (f a x) (hf a x h)
theorem range_fold {α : Type} (f : α → Nat → α) (a : α) (j : Nat) : (List.range (j + 1)).foldl f a = f ((List.range j).foldl f a) j := by
  rw [List.range_succ, List.foldl_append]; rfl
end Go.Lift

set_option linter.unusedSimpArgs false
set_option linter.unusedVariables false
namespace Go.Lift
open Go Go.Proofs
/-- A house within the bounds. -/
structure HOK (h : House) : Prop where
  sm : TSm h.table
  pcs : h.table.pieces.length ≤ 7
  sk : Sm h.sick.length
  others : ∃ n : Nat, h.others = (n : Int) ∧ h.table.pieces.length + n ≤ 10
  last : ∃ n : Nat, h.last = (n : Int) ∧ n ≤ 5
  touches : h.touches.length ≤ 6
  touch : ∀ x ∈ h.touches, ∃ a b : Nat, x.a = (a : Int) ∧ x.b = (b : Int) ∧ a < 10 ∧ b < 10
  boiled : h.boiled.length ≤ 4
  signs : h.signs.length ≤ 5
  sign : ∀ s ∈ h.signs, ∃ k : Nat, s.thing = (k : Int) ∧ k < 10
def nT (h : House) : Nat := h.table.pieces.length + h.others.toNat
theorem nT_le {h : House} (hk : HOK h) : nT h ≤ 10 := by
  obtain ⟨n, h1, h2⟩ := hk.others; simp only [nT, h1, Int.toNat_natCast]; exact h2
theorem thingsW_ok {h : House} (hk : HOK h) : thingsW h = (nT h : Int) := by
  obtain ⟨n, h1, h2⟩ := hk.others
  simp only [thingsW, nT, h1, Int.toNat_natCast]
  rw [w64 (by omega) (by omega)]; simp
def sickAt (h : House) (o : List Int) (c : List Bool) (i : Nat) : List Bool := c.set i (decide (o.getD i 0 ∈ h.sick))
def startOf (h : House) (o : List Int) (j : Nat) : List Bool := (List.range j).foldl (sickAt h o) (List.replicate 10 false)
def boilAt (keys : List (Int × Int)) (k : Int) (c : List Bool) (i : Nat) : List Bool := if ((i : Int), k) ∈ keys then c.set i false else c
def boilOf (keys : List (Int × Int)) (k : Int) (c : List Bool) (j : Nat) : List Bool := (List.range j).foldl (boilAt keys k) c
def touchAt (h : House) (hrs : List Int) (k : Int) (c : List Bool) (i : Nat) : List Bool :=
  if hrs.getD i 0 = k ∧ (c.getD (h.touches.getD i default).a.toNat false || c.getD (h.touches.getD i default).b.toNat false) = true then (c.set (h.touches.getD i default).a.toNat true).set (h.touches.getD i default).b.toNat true else c
def touchOf (h : House) (hrs : List Int) (k : Int) (c : List Bool) (j : Nat) : List Bool := (List.range j).foldl (touchAt h hrs k) c
def hourAt (h : House) (hrs : List Int) (keys : List (Int × Int)) (c : List Bool) (k : Nat) : List Bool := touchOf h hrs k (boilOf keys k c (nT h)) h.touches.length
def hoursOf (h : House) (o hrs : List Int) (keys : List (Int × Int)) (j : Nat) : List Bool := (List.range j).foldl (hourAt h hrs keys) (startOf h o h.table.pieces.length)
def playOf (h : House) (o hrs : List Int) (keys : List (Int × Int)) : List Bool := hoursOf h o hrs keys (h.last.toNat + 1)
theorem sickAt_len (h : House) (o : List Int) (c : List Bool) (i : Nat) (hc : c.length = 10) : (sickAt h o c i).length = 10 := by simp [sickAt, hc]
theorem boilAt_len (keys : List (Int × Int)) (k : Int) (c : List Bool) (i : Nat) (hc : c.length = 10) : (boilAt keys k c i).length = 10 := by
  unfold boilAt; split <;> simp [hc]
theorem touchAt_len (h : House) (hrs : List Int) (k : Int) (c : List Bool) (i : Nat) (hc : c.length = 10) : (touchAt h hrs k c i).length = 10 := by
  unfold touchAt; split <;> simp [hc]
theorem startOf_len (h : House) (o : List Int) (j : Nat) : (startOf h o j).length = 10 := foldl_inv (fun c : List Bool => c.length = 10) _ (fun a b ha => sickAt_len h o a b ha) _ _ (by simp)
theorem boilOf_len (keys : List (Int × Int)) (k : Int) (c : List Bool) (j : Nat) (hc : c.length = 10) : (boilOf keys k c j).length = 10 := foldl_inv (fun c : List Bool => c.length = 10) _ (fun a b ha => boilAt_len keys k a b ha) _ _ hc
theorem touchOf_len (h : House) (hrs : List Int) (k : Int) (c : List Bool) (j : Nat) (hc : c.length = 10) : (touchOf h hrs k c j).length = 10 := foldl_inv (fun c : List Bool => c.length = 10) _ (fun a b ha => touchAt_len h hrs k a b ha) _ _ hc
theorem hoursOf_len (h : House) (o hrs : List Int) (keys : List (Int × Int)) (j : Nat) : (hoursOf h o hrs keys j).length = 10 :=
  foldl_inv (fun c : List Bool => c.length = 10) _ (fun a b ha => touchOf_len _ _ _ _ _ (boilOf_len _ _ _ _ ha)) _ _ (startOf_len h o _)
theorem playOf_len (h : House) (o hrs : List Int) (keys : List (Int × Int)) : (playOf h o hrs keys).length = 10 := hoursOf_len _ _ _ _ _
theorem bget {c : List Bool} {k : Nat} (h : k < c.length) : (c.map AV.bool)[k]? = some (.bool (c.getD k false)) := by
  rw [List.getElem?_map, List.getElem?_eq_getElem h]
  simp [h]
theorem iget {c : List Int} {k : Nat} (h : k < c.length) : (c.map i6)[k]? = some (i6 (c.getD k 0)) := by
  rw [List.getElem?_map, List.getElem?_eq_getElem h]
  simp [h]
theorem bset (c : List Bool) (k : Nat) (b : Bool) (h : k < c.length) : placeAt (c.map AV.bool) k [.bool b] = (c.set k b).map AV.bool := by
  rw [placeAt_set _ _ _ (by simpa using h), List.map_set]
theorem iset (c : List Int) (k : Nat) (b : Int) (h : k < c.length) : placeAt (c.map i6) k [i6 b] = (c.set k b).map i6 := by
  rw [placeAt_set _ _ _ (by simpa using h), List.map_set]
theorem agg148 : isAggB Tryz.prog 148 = some true := by kernel_rfl
theorem sz148 : szB Tryz.prog 148 = some 10 := by kernel_rfl

theorem play_c (h : House) (hk : HOK h) (o hs : List Int) (bm : List Boiling) (ho : o.length = 7) (hhs : hs.length = 6) :
    Pure Tryz.prog 92 [eH h, .agg ((o ++ hs).map i6), .amap (bMap bm)] (.agg ((playOf h o hs (bm.map bKey)).map .bool)) := by
  intro H
  obtain ⟨nl, hl1, hl2⟩ := hk.last
  have hpc := hk.pcs
  have htl := hk.touches
  have hnT := nT_le hk
  refine fn_of hmix fc92 (by simp) ?_
  rw [ienv3]
  simp only [go_sem, reduceIte, reduceCtorEq, Nat.reduceEqDiff, Nat.reduceBEq, Nat.reduceAdd, Nat.reduceMul, Nat.reduceLeDiff, ac92, eH]
  refine v_box _ rfl fun b1 hb1 => ?_
  simp only [go_sem, reduceIte, reduceCtorEq, Nat.reduceEqDiff, Nat.reduceBEq, Nat.reduceAdd, Nat.reduceMul, Nat.reduceLeDiff]
  refine v_box _ rfl fun b2 hb2 => ?_
  have n12 : b1 ≠ b2 := fun h => by subst h; simp at hb2
  simp only [go_sem, reduceIte, reduceCtorEq, Nat.reduceEqDiff, Nat.reduceBEq, Nat.reduceAdd, Nat.reduceMul, Nat.reduceLeDiff]
  refine v_alloc fun b3 hb3 => ?_
  have n13 : b1 ≠ b3 := fun h => by subst h; simp [updH, n12] at hb3
  have n23 : b2 ≠ b3 := fun h => by subst h; simp at hb3
  simp only [go_sem, reduceIte, reduceCtorEq, Nat.reduceEqDiff, Nat.reduceBEq, Nat.reduceAdd, Nat.reduceMul, Nat.reduceLeDiff, updH_ne _ _ n13, updH_ne _ _ n12]
  refine (pieces_c h).go ?_
  simp only [go_sem, reduceIte, reduceCtorEq, Nat.reduceEqDiff, Nat.reduceBEq, Nat.reduceAdd, Nat.reduceMul, Nat.reduceLeDiff]
  have e3 := (((Ext.refl H).new hb1 (.box [.slice (h.table.women.map eW), .slice (h.table.pieces.map eP), i6 h.table.wrong, .slice (eI h.sick), i6 h.others, i6 h.last, .slice (h.touches.map eTo), .slice (h.boiled.map eB), .slice (h.signs.map eS)])).new hb2 (.box ((o ++ hs).map i6)))
  have hH3 := e3.isNone hb3
  refine x_for h.table.pieces.length (fun j env H1 => Ext H H1 ∧ H1 b1 = some (.box [.slice (h.table.women.map eW), .slice (h.table.pieces.map eP), i6 h.table.wrong, .slice (eI h.sick), i6 h.others, i6 h.last, .slice (h.touches.map eTo), .slice (h.boiled.map eB), .slice (h.signs.map eS)]) ∧
      H1 b2 = some (.box ((o ++ hs).map i6)) ∧ H1 b3 = some (.box ((startOf h o j).map .bool)) ∧ env 2 = .amap (bMap bm) ∧ env 3 = .ptr b1 0 ∧ env 4 = .ptr b2 0 ∧ env 6 = .ptr b3 0 ∧ env 13 = i6 h.table.pieces.length ∧ env 14 = i6 j ∧ env 78 = .any)
    ⟨e3.new hb3 _, by rw [updH_ne _ _ n13, updH_ne _ _ n12]; exact updH_same _ _ _, by rw [updH_ne _ _ n23]; exact updH_same _ _ _, updH_same _ _ _, by simp [upd_at], by simp [upd_at], by simp [upd_at], by simp [upd_at], by simp [upd_at], by simp [upd_at], by simp [upd_at]⟩ ?_
  rintro j env H1 hj ⟨hE, hB1, hB2, hB3, g2, g3, g4, g6, g13, g14, hN⟩
  by_cases hlt : (j : Int) < (h.table.pieces.length : Int)
  · have hlt' : j < h.table.pieces.length := by omega
    have h13 : (List.map i6 (o ++ hs)).length = 13 := by simp [ho, hhs]
    simp only [go_sem, reduceIte, reduceCtorEq, Nat.reduceEqDiff, Nat.reduceBEq, Nat.reduceAdd, Nat.reduceMul, Nat.reduceLeDiff, g2, g3, g4, g6, g13, g14, hN, hlt, hB1, hB2, h13, take_len h13, List.length_append, ho, hhs]
    refine (sick_c h o hs j ho hhs (by omega) hk.sk).go ?_
    simp only [go_sem, reduceIte, reduceCtorEq, Nat.reduceEqDiff, Nat.reduceBEq, Nat.reduceAdd, Nat.reduceMul, Nat.reduceLeDiff, g2, g3, g4, g6, g13, g14, hN, show (j : Int) < ((10 : Nat) : Int) by omega, Nat.mul_one]
    rw [v_store]
    refine ⟨rfl, rfl, by simp [AV.cells, AV.isCell], _, hB3, by simp [startOf_len]; omega, ?_⟩
    simp only [go_sem, reduceIte, reduceCtorEq, Nat.reduceEqDiff, Nat.reduceBEq, Nat.reduceAdd, Nat.reduceMul, Nat.reduceLeDiff, g2, g3, g4, g6, g13, g14, hN, wsucc (show j < 4611686018427387904 by omega), hlt', updH_ne _ _ n13, updH_ne _ _ n23, hB1, hB2]
    refine ⟨hE.upd hH3 _, ?_⟩
    rw [bset _ _ _ (by rw [startOf_len]; omega)]
    simp only [startOf, range_fold]; rfl
  have hj' : j = h.table.pieces.length := by omega
  subst hj'
  have hw1 : IntKind.i64.wrap ((nl : Int) + 1) = ((nl + 1 : Nat) : Int) := wsucc (by omega)
  simp only [go_sem, reduceIte, reduceCtorEq, Nat.reduceEqDiff, Nat.reduceBEq, Nat.reduceAdd, Nat.reduceMul, Nat.reduceLeDiff, g2, g3, g4, g6, g13, g14, hN, hlt, hB1, List.length_cons, List.length_nil, hl1, hw1]
  rw [← hl1]
  refine x_for (nl + 1) (fun j env H1 => Ext H H1 ∧ H1 b1 = some (.box [.slice (h.table.women.map eW), .slice (h.table.pieces.map eP), i6 h.table.wrong, .slice (eI h.sick), i6 h.others, i6 h.last, .slice (h.touches.map eTo), .slice (h.boiled.map eB), .slice (h.signs.map eS)]) ∧
      H1 b2 = some (.box ((o ++ hs).map i6)) ∧ H1 b3 = some (.box ((hoursOf h o hs (bm.map bKey) j).map .bool)) ∧ env 2 = .amap (bMap bm) ∧ env 3 = .ptr b1 0 ∧ env 4 = .ptr b2 0 ∧ env 6 = .ptr b3 0 ∧ env 26 = i6 ((nl + 1 : Nat) : Int) ∧ env 27 = i6 j ∧ env 78 = .any)
    ⟨hE, hB1, hB2, by rw [hB3]; rfl, by simp [upd_at, g2], by simp [upd_at, g3], by simp [upd_at, g4], by simp [upd_at, g6], by simp [upd_at], by simp [upd_at], by simp [upd_at, hN]⟩ ?_
  clear hE hB1 hB2 hB3 g2 g3 g4 g6 g13 g14 hN hlt hj env H1
  rintro k env H1 hk1 ⟨hE, hB1, hB2, hB3, g2, g3, g4, g6, g26, g27, hN⟩
  by_cases hlt : (k : Int) < ((nl + 1 : Nat) : Int)
  rotate_left
  · have hk' : k = nl + 1 := by omega
    subst hk'
    have h10 : ((hoursOf h o hs (bm.map bKey) (nl + 1)).map AV.bool).length = 10 := by simp [hoursOf_len]
    simp only [go_sem, reduceIte, reduceCtorEq, Nat.reduceEqDiff, Nat.reduceBEq, Nat.reduceAdd, Nat.reduceMul, Nat.reduceLeDiff, g2, g3, g4, g6, g26, g27, hN, hlt, hB3, h10, take_len h10, hoursOf_len]
    rw [v_store]
    refine ⟨rfl, h10, by intro y hy; simp only [AV.cells, List.mem_map] at hy; obtain ⟨b, _, rfl⟩ := hy; rfl, _, hB3, by simp [hoursOf_len], ?_⟩
    simp only [go_sem, reduceIte, reduceCtorEq, Nat.reduceEqDiff, Nat.reduceBEq, Nat.reduceAdd, Nat.reduceMul, Nat.reduceLeDiff, g2, g3, g4, g6, g26, g27, hN, placeAll _ _ rfl]
    refine fin_cell1 6 10 b3 148 _ (by simp [upd_at, hN]) agg148 sz148 (by simp [upd_at, g6]) (updH_same _ _ _) h10 ⟨_, H, Settle.refl (hE.upd hH3 _), ?_, rfl⟩
    simp only [playOf, hl1, Int.toNat_natCast]
  have hlt' : k < nl + 1 := by omega
  simp only [go_sem, reduceIte, reduceCtorEq, Nat.reduceEqDiff, Nat.reduceBEq, Nat.reduceAdd, Nat.reduceMul, Nat.reduceLeDiff, g2, g3, g4, g6, g26, g27, hN, hlt, hB1]
  refine (things_c h).go ?_
  rw [thingsW_ok hk]
  simp only [go_sem, reduceIte, reduceCtorEq, Nat.reduceEqDiff, Nat.reduceBEq, Nat.reduceAdd, Nat.reduceMul, Nat.reduceLeDiff]
  refine x_for (nT h) (fun j env H1 => Ext H H1 ∧ H1 b1 = some (.box [.slice (h.table.women.map eW), .slice (h.table.pieces.map eP), i6 h.table.wrong, .slice (eI h.sick), i6 h.others, i6 h.last, .slice (h.touches.map eTo), .slice (h.boiled.map eB), .slice (h.signs.map eS)]) ∧
      H1 b2 = some (.box ((o ++ hs).map i6)) ∧ H1 b3 = some (.box ((boilOf (bm.map bKey) k (hoursOf h o hs (bm.map bKey) k) j).map .bool)) ∧ env 2 = .amap (bMap bm) ∧ env 3 = .ptr b1 0 ∧ env 4 = .ptr b2 0 ∧ env 6 = .ptr b3 0 ∧ env 8 = i6 k ∧ env 26 = i6 ((nl + 1 : Nat) : Int) ∧ env 27 = i6 k ∧ env 31 = i6 (nT h) ∧ env 32 = i6 j ∧ env 78 = .any)
    ⟨hE, hB1, hB2, by rw [hB3]; rfl, by simp [upd_at, g2], by simp [upd_at, g3], by simp [upd_at, g4], by simp [upd_at, g6], by simp [upd_at, g27], by simp [upd_at, g26], by simp [upd_at, g27], by simp [upd_at], by simp [upd_at], by simp [upd_at, hN]⟩ ?_
  clear hE hB1 hB2 hB3 g2 g3 g4 g6 g26 g27 hN hlt env H1
  rintro j env H1 hj ⟨hE, hB1, hB2, hB3, g2, g3, g4, g6, g8, g26, g27, g31, g32, hN⟩
  by_cases hlt : (j : Int) < (nT h : Int)
  · have hlt' : j < nT h := by omega
    simp only [go_sem, reduceIte, reduceCtorEq, Nat.reduceEqDiff, Nat.reduceBEq, Nat.reduceAdd, Nat.reduceMul, Nat.reduceLeDiff, g2, g3, g4, g6, g8, g26, g27, g31, g32, hN, hlt, bc2, Option.map_some, d_lookup, bMap_find]
    by_cases hin : ((j : Int), (k : Int)) ∈ bm.map bKey
    · simp only [go_sem, reduceIte, reduceCtorEq, Nat.reduceEqDiff, Nat.reduceBEq, Nat.reduceAdd, Nat.reduceMul, Nat.reduceLeDiff, hin, g2, g3, g4, g6, g8, g26, g27, g31, g32, hN, show (j : Int) < ((10 : Nat) : Int) by omega, Nat.mul_one]
      rw [v_store]
      refine ⟨rfl, rfl, by simp [AV.cells, AV.isCell], _, hB3, by simp [boilOf_len, hoursOf_len]; omega, ?_⟩
      simp only [go_sem, reduceIte, reduceCtorEq, Nat.reduceEqDiff, Nat.reduceBEq, Nat.reduceAdd, Nat.reduceMul, Nat.reduceLeDiff, g2, g3, g4, g6, g8, g26, g27, g31, g32, hN, wsucc (show j < 4611686018427387904 by omega), hlt', updH_ne _ _ n13, updH_ne _ _ n23, hB1, hB2]
      refine ⟨hE.upd hH3 _, ?_⟩
      rw [bset _ _ _ (by rw [boilOf_len _ _ _ _ (hoursOf_len _ _ _ _ _)]; omega)]
      simp only [boilOf, range_fold]
      rw [boilAt, if_pos hin]
    · simp only [go_sem, reduceIte, reduceCtorEq, Nat.reduceEqDiff, Nat.reduceBEq, Nat.reduceAdd, Nat.reduceMul, Nat.reduceLeDiff, hin, g2, g3, g4, g6, g8, g26, g27, g31, g32, hN, wsucc (show j < 4611686018427387904 by omega), hlt']
      refine ⟨hE, hB1, hB2, ?_⟩
      rw [hB3]
      simp only [boilOf, range_fold]
      rw [boilAt, if_neg hin]
  have hj' : j = nT h := by omega
  subst hj'
  simp only [go_sem, reduceIte, reduceCtorEq, Nat.reduceEqDiff, Nat.reduceBEq, Nat.reduceAdd, Nat.reduceMul, Nat.reduceLeDiff, g2, g3, g4, g6, g8, g26, g27, g31, g32, hN, hlt, hB1]
  generalize hcc : boilOf (bm.map bKey) k (hoursOf h o hs (bm.map bKey) k) (nT h) = cc at hB3
  have hccl : cc.length = 10 := by rw [← hcc]; exact boilOf_len _ _ _ _ (hoursOf_len _ _ _ _ _)
  refine x_for h.touches.length (fun j env H1 => Ext H H1 ∧ H1 b1 = some (.box [.slice (h.table.women.map eW), .slice (h.table.pieces.map eP), i6 h.table.wrong, .slice (eI h.sick), i6 h.others, i6 h.last, .slice (h.touches.map eTo), .slice (h.boiled.map eB), .slice (h.signs.map eS)]) ∧
      H1 b2 = some (.box ((o ++ hs).map i6)) ∧ H1 b3 = some (.box ((touchOf h hs k cc j).map .bool)) ∧ env 2 = .amap (bMap bm) ∧ env 3 = .ptr b1 0 ∧ env 4 = .ptr b2 0 ∧ env 6 = .ptr b3 0 ∧ env 8 = i6 k ∧ env 26 = i6 ((nl + 1 : Nat) : Int) ∧ env 27 = i6 k ∧ env 44 = .slice (h.touches.map eTo) ∧ env 45 = i6 h.touches.length ∧ env 46 = i6 j ∧ env 78 = .any)
    ⟨hE, hB1, hB2, hB3, by simp [upd_at, g2], by simp [upd_at, g3], by simp [upd_at, g4], by simp [upd_at, g6], by simp [upd_at, g8], by simp [upd_at, g26], by simp [upd_at, g27], by simp [upd_at], by simp [upd_at], by simp [upd_at], by simp [upd_at, hN]⟩ ?_
  clear hE hB1 hB2 hB3 g2 g3 g4 g6 g8 g26 g27 g31 g32 hN hlt hj env H1
  rintro j env H1 hj ⟨hE, hB1, hB2, hB3, g2, g3, g4, g6, g8, g26, g27, g44, g45, g46, hN⟩
  by_cases hlt : (j : Int) < (h.touches.length : Int)
  rotate_left
  · have hj' : j = h.touches.length := by omega
    subst hj'
    simp only [go_sem, reduceIte, reduceCtorEq, Nat.reduceEqDiff, Nat.reduceBEq, Nat.reduceAdd, Nat.reduceMul, Nat.reduceLeDiff, g2, g3, g4, g6, g8, g26, g27, g44, g45, g46, hN, hlt, wsucc (show k < 4611686018427387904 by omega), hlt']
    refine ⟨hE, hB1, hB2, ?_⟩
    rw [hB3]
    simp only [hoursOf, range_fold]
    rw [← hcc]; rfl
  have hltt : j < h.touches.length := by omega
  have hget : h.touches.getD j default = h.touches[j] := by simp [hltt]
  obtain ⟨a, b, ha, hb, ha10, hb10⟩ := hk.touch _ (List.getElem_mem hltt)
  have htl2 := touchOf_len h hs k cc j hccl
  have hhj : (o ++ hs).getD (7 + j) 0 = hs.getD j 0 := by
    rw [List.getD_eq_getElem?_getD, List.getElem?_append_right (by omega), List.getD_eq_getElem?_getD]
    congr 2; omega
  have hstep : touchOf h hs k cc (j + 1) = if hs.getD j 0 = (k : Int) ∧ ((touchOf h hs k cc j).getD a false || (touchOf h hs k cc j).getD b false) = true then ((touchOf h hs k cc j).set a true).set b true else touchOf h hs k cc j := by
    simp only [touchOf, range_fold]
    rw [touchAt, hget, ha, hb]; simp only [Int.toNat_natCast]; rfl
  obtain ⟨ct, hct⟩ : ∃ ct, ct = touchOf h hs k cc j := ⟨_, rfl⟩
  rw [← hct] at hB3 htl2 hstep
  have hgi := iget (show 7 + j < (o ++ hs).length by simp [ho, hhs]; omega)
  rw [hhj] at hgi
  simp only [go_sem, reduceIte, reduceCtorEq, Nat.reduceEqDiff, Nat.reduceBEq, Nat.reduceAdd, Nat.reduceMul, Nat.reduceLeDiff, g2, g3, g4, g6, g8, g26, g27, g44, g45, g46, hN, hlt, map_get (f := eTo) hltt, eTo, ha, hb]
  refine v_alloc fun b4 hb4 => ?_
  have hn : ∀ {x o}, H1 x = some o → x ≠ b4 := fun hx h => by subst h; rw [hx] at hb4; cases hb4
  have n14 := hn hB1
  have n24 := hn hB2
  have n34 := hn hB3
  simp only [go_sem, reduceIte, reduceCtorEq, Nat.reduceEqDiff, Nat.reduceBEq, Nat.reduceAdd, Nat.reduceMul, Nat.reduceLeDiff]
  rw [v_store]
  refine ⟨rfl, rfl, by simp [AV.cells, AV.isCell], _, updH_same _ _ _, by simp, ?_⟩
  have hE4 : ∀ o1 o2, Ext H (updH (updH H1 b4 o1) b4 o2) := fun o1 o2 => (hE.new hb4 _).upd (hE.isNone hb4) _
  have hga := bget (c := ct) (show a < ct.length by omega)
  have hgb := bget (c := ct) (show b < ct.length by omega)
  by_cases hq : hs.getD j 0 = (k : Int)
  rotate_left
  · simp only [go_sem, reduceIte, reduceCtorEq, Nat.reduceEqDiff, Nat.reduceBEq, Nat.reduceAdd, Nat.reduceMul, Nat.reduceLeDiff, g2, g3, g4, g6, g8, g26, g27, g44, g45, g46, hN, placeAt, List.append_nil, List.nil_append, List.drop_nil, updH_ne _ _ n14, updH_ne _ _ n24, updH_ne _ _ n34, hB1, hB2, hB3, show (j : Int) < ((6 : Nat) : Int) by omega, Nat.mul_one, List.length_append, ho, hhs, show 7 + j ≤ 7 + 6 by omega, take_f', drop_at, hgi, hq, wsucc (show j < 4611686018427387904 by omega), hltt]
    refine ⟨hE4 _ _, ?_⟩
    rw [hstep, if_neg (fun h => hq h.1)]
  cases hA : ct.getD a false <;> cases hBb : ct.getD b false <;> rw [hA] at hga <;> rw [hBb] at hgb
  · simp only [go_sem, reduceIte, reduceCtorEq, Nat.reduceEqDiff, Nat.reduceBEq, Nat.reduceAdd, Nat.reduceMul, Nat.reduceLeDiff, g2, g3, g4, g6, g8, g26, g27, g44, g45, g46, hN, placeAt, List.append_nil, List.nil_append, List.drop_nil, updH_ne _ _ n14, updH_ne _ _ n24, updH_ne _ _ n34, hB1, hB2, hB3, show (j : Int) < ((6 : Nat) : Int) by omega, Nat.mul_one, List.length_append, ho, hhs, show 7 + j ≤ 7 + 6 by omega, take_f', drop_at, hgi, hq, wsucc (show j < 4611686018427387904 by omega), hltt, List.getElem?_cons_zero, List.getElem?_cons_succ, show (a : Int) < ((10 : Nat) : Int) by omega, show (b : Int) < ((10 : Nat) : Int) by omega, htl2, show a ≤ 10 by omega, show b ≤ 10 by omega, hga, hgb]
    refine ⟨hE4 _ _, ?_⟩
    rw [hstep, if_neg (by rw [hA, hBb]; simp)]
  all_goals
    simp only [go_sem, reduceIte, reduceCtorEq, Nat.reduceEqDiff, Nat.reduceBEq, Nat.reduceAdd, Nat.reduceMul, Nat.reduceLeDiff, g2, g3, g4, g6, g8, g26, g27, g44, g45, g46, hN, placeAt, List.append_nil, List.nil_append, List.drop_nil, updH_ne _ _ n14, updH_ne _ _ n24, updH_ne _ _ n34, hB1, hB2, hB3, show (j : Int) < ((6 : Nat) : Int) by omega, Nat.mul_one, List.length_append, ho, hhs, show 7 + j ≤ 7 + 6 by omega, take_f', drop_at, hgi, hq, wsucc (show j < 4611686018427387904 by omega), hltt, List.getElem?_cons_zero, List.getElem?_cons_succ, show (a : Int) < ((10 : Nat) : Int) by omega, show (b : Int) < ((10 : Nat) : Int) by omega, htl2, show a ≤ 10 by omega, show b ≤ 10 by omega, hga, hgb]
    rw [v_store]
    refine ⟨rfl, rfl, by simp [AV.cells, AV.isCell], ct.map .bool, by rw [updH_ne _ _ n34, updH_ne _ _ n34]; exact hB3, by simp [htl2]; omega, ?_⟩
    rw [show (AV.bool true).cells = [.bool true] from rfl, bset _ _ _ (by omega)]
    simp only [go_sem, reduceIte, reduceCtorEq, Nat.reduceEqDiff, Nat.reduceBEq, Nat.reduceAdd, Nat.reduceMul, Nat.reduceLeDiff, g2, g3, g4, g6, g8, g26, g27, g44, g45, g46, hN, updH_ne _ _ n34.symm, show (b : Int) < ((10 : Nat) : Int) by omega, Nat.mul_one, List.getElem?_cons_zero, List.getElem?_cons_succ, take_f', drop_at]
    rw [v_store]
    refine ⟨rfl, rfl, by simp [AV.cells, AV.isCell], _, updH_same _ _ _, by simp [htl2]; omega, ?_⟩
    rw [show (AV.bool true).cells = [.bool true] from rfl, bset _ _ _ (by simp; omega)]
    simp only [go_sem, reduceIte, reduceCtorEq, Nat.reduceEqDiff, Nat.reduceBEq, Nat.reduceAdd, Nat.reduceMul, Nat.reduceLeDiff, g2, g3, g4, g6, g8, g26, g27, g44, g45, g46, hN, updH_ne _ _ n13, updH_ne _ _ n23, updH_ne _ _ n14, updH_ne _ _ n24, hB1, hB2, wsucc (show j < 4611686018427387904 by omega), hltt]
    refine ⟨((hE4 _ _).upd hH3 _).upd hH3 _, ?_⟩
    rw [hstep, if_pos ⟨hq, by rw [hA, hBb]; rfl⟩]
end Go.Lift

set_option linter.unusedSimpArgs false
set_option linter.unusedVariables false
namespace Go.Lift
open Go Go.Proofs
def hoursOK (h : House) (l : List Int) : Bool := decide (l.length = h.touches.length) && (List.range l.length).all fun i => decide ((h.touches.getD i default).lo ≤ l.getD i 0 ∧ l.getD i 0 ≤ (h.touches.getD i default).hi)
def courseOK (h : House) (c : Course) : Bool := isTruthT h.table c.owners && hoursOK h c.hours
def pad6 (l : List Int) : List Int := l ++ List.replicate (6 - l.length) 0
def pad7 (l : List Int) : List Int := padTo l l.length
def sceneOf (h : House) (c : Course) : List Int := if courseOK h c = true then pad7 c.owners ++ pad6 c.hours else List.replicate 13 0
theorem agg144 : isAggB Tryz.prog 144 = some true := by kernel_rfl
theorem sz144 : szB Tryz.prog 144 = some 13 := by kernel_rfl
theorem v_copy {P : Program} {R : AV → AHeap → Prop} {H : AHeap} {b off len cap : Nat} {cs : List AV} {l : List Int} (hb : H b = some (.box cs)) (hl : l.length ≤ len) (ho : off + l.length ≤ cs.length)
    (h : R (i6 l.length) (updH H b (.box (placeAt cs off (l.map i6))))) : aopV P (.copy 1) [.mslice b off len cap, .slice (eI l)] H R := by
  have hf : ((eI l).take len).flatten = l.map i6 := by
    rw [List.take_of_length_le (by simpa using hl)]
    clear hl ho h
    induction l with
    | nil => rfl
    | cons x l ih => simp only [eI, List.map_cons, List.flatten_cons] at ih ⊢; rw [ih]; rfl
  have hf2 : ((eI l).take len).length = l.length := by rw [List.take_of_length_le (by simpa using hl)]; simp
  refine ⟨_, rfl, eI_good l, eI_cell l, ?_⟩
  simp only [hb]
  rw [hf, hf2]
  exact ⟨by simpa using ho, h⟩

theorem place13 (a b : List Int) (ha : a.length ≤ 7) (hb : b.length ≤ 6) : placeAt (placeAt ((List.replicate 13 (0 : Int)).map i6) 0 (a.map i6)) 7 (b.map i6) = (a ++ List.replicate (7 - a.length) 0 ++ (b ++ List.replicate (6 - b.length) 0)).map i6 := by
  have e1 : min (7 - a.length) (13 - a.length) = 7 - a.length := by omega
  have e2 : 13 - a.length - (7 + b.length - a.length) = 6 - b.length := by omega
  have h1 : placeAt ((List.replicate 13 (0 : Int)).map i6) 0 (a.map i6) = (a ++ List.replicate (13 - a.length) 0).map i6 := by
    rw [placeAt, List.take_zero, List.nil_append, Nat.zero_add, List.length_map, ← List.map_drop, List.drop_replicate, ← List.map_append]
  rw [h1]
  simp only [List.nil_append, placeAt, List.length_map, ← List.map_drop, List.drop_replicate, ← List.map_append, ← List.map_take, List.take_append, List.drop_append, List.take_replicate, e1, e2, List.take_of_length_le ha, List.drop_of_length_le (show a.length ≤ 7 + b.length by omega), List.append_assoc]
theorem isTruthT_len {t : Table} {l : List Int} (h : isTruthT t l = true) : l.length = t.pieces.length := by
  simp only [isTruthT, Bool.and_eq_true] at h
  exact (agg_ok_owners t l h.2.1).1
theorem scene_c (h : House) (hk : HOK h) (c : Course) (hc1 : Sm c.owners.length) (hc2 : Sm c.hours.length) :
    Pure Tryz.prog 91 [eH h, eC c] (.tup [.agg ((sceneOf h c).map i6), .bool (courseOK h c)]) := by
  intro H
  have htl := hk.touches
  have hpc := hk.pcs
  unfold Sm at hc2
  refine fn_of hmix fc91 (by simp) ?_
  rw [ienv2]
  simp only [go_sem, reduceIte, reduceCtorEq, Nat.reduceEqDiff, Nat.reduceBEq, Nat.reduceAdd, Nat.reduceMul, Nat.reduceLeDiff, ac91, eH, eC]
  refine v_box _ rfl fun b1 hb1 => ?_
  simp only [go_sem, reduceIte, reduceCtorEq, Nat.reduceEqDiff, Nat.reduceBEq, Nat.reduceAdd, Nat.reduceMul, Nat.reduceLeDiff]
  refine v_box _ rfl fun b2 hb2 => ?_
  have n12 : b1 ≠ b2 := fun h => by subst h; simp at hb2
  simp only [go_sem, reduceIte, reduceCtorEq, Nat.reduceEqDiff, Nat.reduceBEq, Nat.reduceAdd, Nat.reduceMul, Nat.reduceLeDiff]
  refine v_alloc fun b3 hb3 => ?_
  have n13 : b1 ≠ b3 := fun h => by subst h; simp [updH, n12] at hb3
  have n23 : b2 ≠ b3 := fun h => by subst h; simp at hb3
  have e2 := (((Ext.refl H).new hb1 (.box [.slice (h.table.women.map eW), .slice (h.table.pieces.map eP), i6 h.table.wrong, .slice (eI h.sick), i6 h.others, i6 h.last, .slice (h.touches.map eTo), .slice (h.boiled.map eB), .slice (h.signs.map eS)])).new hb2 (.box [.slice (eI c.owners), .slice (eI c.hours)]))
  have hH3 := e2.isNone hb3
  simp only [go_sem, reduceIte, reduceCtorEq, Nat.reduceEqDiff, Nat.reduceBEq, Nat.reduceAdd, Nat.reduceMul, Nat.reduceLeDiff, updH_ne _ _ n13, updH_ne _ _ n23, updH_ne _ _ n12]
  refine (proveTruth_c h.table c.owners hk.sm hc1).go ?_
  have hz : ([.int .i64 0, .int .i64 0, .int .i64 0, .int .i64 0, .int .i64 0, .int .i64 0, .int .i64 0, .int .i64 0, .int .i64 0, .int .i64 0, .int .i64 0, .int .i64 0, .int .i64 0] : List AV) = (List.replicate 13 (0 : Int)).map i6 := rfl
  have hzl : ((List.replicate 13 (0 : Int)).map i6).length = 13 := rfl
  rw [hz]
  have hE3 : ∀ o1 o2, Ext H (updH (updH (updH (updH H b1 (.box [.slice (h.table.women.map eW), .slice (h.table.pieces.map eP), i6 h.table.wrong, .slice (eI h.sick), i6 h.others, i6 h.last, .slice (h.touches.map eTo), .slice (h.boiled.map eB), .slice (h.signs.map eS)])) b2 (.box [.slice (eI c.owners), .slice (eI c.hours)])) b3 o1) b3 o2) := fun o1 o2 => (e2.new hb3 _).upd hH3 _
  cases c1 : isTruthT h.table c.owners
  · simp only [go_sem, reduceIte, reduceCtorEq, Nat.reduceEqDiff, Nat.reduceBEq, Nat.reduceAdd, Nat.reduceMul, Nat.reduceLeDiff, hzl, take_len hzl, List.length_replicate]
    rw [v_store]
    refine ⟨rfl, rfl, by simp [AV.cells, AV.isCell], _, updH_same _ _ _, by simp, ?_⟩
    simp only [go_sem, reduceIte, reduceCtorEq, Nat.reduceEqDiff, Nat.reduceBEq, Nat.reduceAdd, Nat.reduceMul, Nat.reduceLeDiff, placeAll _ _ rfl]
    refine fin_cell 4 5 13 b3 144 _ (by simp [upd_at]) agg144 sz144 (by simp [upd_at]) (updH_same _ _ _) hzl ⟨_, H, Settle.refl (hE3 _ _), ?_, rfl⟩
    simp [upd_at, courseOK, c1, sceneOf]
  by_cases c2 : (c.hours.length : Int) = (h.touches.length : Int)
  rotate_left
  · have hbad : courseOK h c = false := by
      simp only [courseOK, hoursOK, show ¬ c.hours.length = h.touches.length by omega, decide_false, Bool.false_and, Bool.and_false]
    simp only [go_sem, reduceIte, reduceCtorEq, Nat.reduceEqDiff, Nat.reduceBEq, Nat.reduceAdd, Nat.reduceMul, Nat.reduceLeDiff, hzl, take_len hzl, List.length_replicate, updH_ne _ _ n13, updH_ne _ _ n23, updH_ne _ _ n12, c2]
    rw [v_store]
    refine ⟨rfl, rfl, by simp [AV.cells, AV.isCell], _, updH_same _ _ _, by simp, ?_⟩
    simp only [go_sem, reduceIte, reduceCtorEq, Nat.reduceEqDiff, Nat.reduceBEq, Nat.reduceAdd, Nat.reduceMul, Nat.reduceLeDiff, placeAll _ _ rfl]
    refine fin_cell 4 5 13 b3 144 _ (by simp [upd_at]) agg144 sz144 (by simp [upd_at]) (updH_same _ _ _) hzl ⟨_, H, Settle.refl (hE3 _ _), ?_, rfl⟩
    simp [upd_at, hbad, sceneOf]
  have c2' : c.hours.length = h.touches.length := by omega
  simp only [go_sem, reduceIte, reduceCtorEq, Nat.reduceEqDiff, Nat.reduceBEq, Nat.reduceAdd, Nat.reduceMul, Nat.reduceLeDiff, updH_ne _ _ n13, updH_ne _ _ n23, updH_ne _ _ n12, c2]
  refine x_for c.hours.length (fun j env H1 => Ext H H1 ∧ H1 b1 = some (.box [.slice (h.table.women.map eW), .slice (h.table.pieces.map eP), i6 h.table.wrong, .slice (eI h.sick), i6 h.others, i6 h.last, .slice (h.touches.map eTo), .slice (h.boiled.map eB), .slice (h.signs.map eS)]) ∧ H1 b2 = some (.box [.slice (eI c.owners), .slice (eI c.hours)]) ∧ H1 b3 = some (.box ((List.replicate 13 (0 : Int)).map i6)) ∧ env 2 = .ptr b1 0 ∧ env 3 = .ptr b2 0 ∧ env 4 = .ptr b3 0 ∧ env 25 = .slice (eI c.hours) ∧ env 26 = i6 c.hours.length ∧ env 27 = i6 j ∧ env 62 = .any ∧ ∀ i, i < j → ((h.touches.getD i default).lo ≤ c.hours.getD i 0 ∧ c.hours.getD i 0 ≤ (h.touches.getD i default).hi))
    ⟨e2.new hb3 _, by rw [updH_ne _ _ n13, updH_ne _ _ n12]; exact updH_same _ _ _, by rw [updH_ne _ _ n23]; exact updH_same _ _ _, updH_same _ _ _, by simp [upd_at], by simp [upd_at], by simp [upd_at], by simp [upd_at], by simp [upd_at, c2], by simp [upd_at], by simp [upd_at], by simp⟩ ?_
  rintro j env H1 hj ⟨hE, hB1, hB2, hB3, g2, g3, g4, g25, g26, g27, hN, hq⟩
  by_cases hlt : (j : Int) < (c.hours.length : Int)
  · have hlt' : j < c.hours.length := by omega
    have hltt : j < h.touches.length := by omega
    have hget : h.touches.getD j default = h.touches[j] := by simp [hltt]
    have hgl : c.hours.getD j 0 = c.hours[j] := by simp [hlt']
    simp only [go_sem, reduceIte, reduceCtorEq, Nat.reduceEqDiff, Nat.reduceBEq, Nat.reduceAdd, Nat.reduceMul, Nat.reduceLeDiff, g2, g3, g4, g25, g26, g27, hN, hlt, eI_get hlt', hB1, map_get (f := eTo) hltt, eTo]
    refine pgo_call (within_c c.hours[j] _ _) ?_
    by_cases hm : h.touches[j].lo ≤ c.hours[j] ∧ c.hours[j] ≤ h.touches[j].hi
    · simp only [go_sem, reduceIte, reduceCtorEq, Nat.reduceEqDiff, Nat.reduceBEq, Nat.reduceAdd, Nat.reduceMul, Nat.reduceLeDiff, hm, g2, g3, g4, g25, g26, g27, hN, wsucc (show j < 4611686018427387904 by omega), hlt']
      refine ⟨hE, hB1, hB2, hB3, ?_⟩
      intro i hi
      rcases Nat.lt_or_ge i j with h | h
      · exact hq i h
      · have : i = j := by omega
        subst this; rw [hgl, hget]; exact hm
    · have hbad : courseOK h c = false := by
        have : hoursOK h c.hours = false := by
          simp only [hoursOK, Bool.and_eq_false_iff, List.all_eq_false]
          exact .inr ⟨j, by simp [hlt'], by rw [hgl, hget]; simp only [hm, decide_false, Bool.false_eq_true, not_false_eq_true]⟩
        simp [courseOK, this]
      simp only [go_sem, reduceIte, reduceCtorEq, Nat.reduceEqDiff, Nat.reduceBEq, Nat.reduceAdd, Nat.reduceMul, Nat.reduceLeDiff, hm, g2, g3, g4, g25, g26, g27, hN, hB3, hzl, take_len hzl, List.length_replicate]
      rw [v_store]
      refine ⟨rfl, rfl, by simp [AV.cells, AV.isCell], _, hB3, by simp, ?_⟩
      simp only [go_sem, reduceIte, reduceCtorEq, Nat.reduceEqDiff, Nat.reduceBEq, Nat.reduceAdd, Nat.reduceMul, Nat.reduceLeDiff, hN, g4, placeAll _ _ rfl]
      refine fin_cell 4 5 13 b3 144 _ (by simp [upd_at, hN]) agg144 sz144 (by simp [upd_at, g4]) (updH_same _ _ _) hzl ⟨_, H, Settle.refl (hE.upd hH3 _), ?_, rfl⟩
      simp [upd_at, hbad, sceneOf]
  have hj' : j = c.hours.length := by omega
  subst hj'
  have hok : courseOK h c = true := by
    simp only [courseOK, c1, hoursOK, Bool.true_and, Bool.and_eq_true, decide_eq_true_eq, List.all_eq_true, List.mem_range]
    exact ⟨c2', hq⟩
  have hol := isTruthT_len c1
  simp only [go_sem, reduceIte, reduceCtorEq, Nat.reduceEqDiff, Nat.reduceBEq, Nat.reduceAdd, Nat.reduceMul, Nat.reduceLeDiff, g2, g3, g4, g25, g26, g27, hN, hlt, hB1, hB2]
  refine v_copy hB3 (by omega) (by simp; omega) ?_
  simp only [go_sem, reduceIte, reduceCtorEq, Nat.reduceEqDiff, Nat.reduceBEq, Nat.reduceAdd, Nat.reduceMul, Nat.reduceLeDiff, g2, g3, g4, hN, updH_ne _ _ n13, updH_ne _ _ n23, hB2]
  refine v_copy (updH_same _ _ _) (by omega) (by simp [placeAt]; omega) ?_
  have hres : placeAt (placeAt ((List.replicate 13 (0 : Int)).map i6) 0 (c.owners.map i6)) 7 (c.hours.map i6) = (sceneOf h c).map i6 := by
    rw [place13 _ _ (by omega) (by omega)]
    simp only [sceneOf, hok, if_true, pad7, padTo, List.take_length, pad6]
  have hl13 : ((sceneOf h c).map i6).length = 13 := by
    simp only [sceneOf, hok, if_true, pad7, padTo, pad6, List.take_length, List.length_map, List.length_append, List.length_replicate]; omega
  have hl13' : (sceneOf h c).length = 13 := by simpa using hl13
  rw [hres]
  simp only [go_sem, reduceIte, reduceCtorEq, Nat.reduceEqDiff, Nat.reduceBEq, Nat.reduceAdd, Nat.reduceMul, Nat.reduceLeDiff, g2, g3, g4, hN, hl13, take_len hl13, hl13']
  rw [v_store]
  refine ⟨rfl, hl13, by simp [AV.cells, AV.isCell], _, updH_same _ _ _, by simp [hl13'], ?_⟩
  simp only [go_sem, reduceIte, reduceCtorEq, Nat.reduceEqDiff, Nat.reduceBEq, Nat.reduceAdd, Nat.reduceMul, Nat.reduceLeDiff, hN, g4, placeAll _ _ rfl]
  refine fin_cell 4 5 13 b3 144 _ (by simp [upd_at, hN]) agg144 sz144 (by simp [upd_at, g4]) (updH_same _ _ _) hl13 ⟨_, H, Settle.refl (((hE.upd hH3 _).upd hH3 _).upd hH3 _), ?_, rfl⟩
  simp [upd_at, hok]
end Go.Lift

set_option linter.unusedSimpArgs false
set_option linter.unusedVariables false
namespace Go.Lift
open Go Go.Proofs
def timesUpto (h : House) (m : Int) : Nat → Int
  | 0 => m
  | j + 1 => if 2001 < timesUpto h m j * ((h.touches.getD j default).hi - (h.touches.getD j default).lo + 1) then 2001 else timesUpto h m j * ((h.touches.getD j default).hi - (h.touches.getD j default).lo + 1)
def manyH (h : House) : Int := timesUpto h (manyUpto h.table h.table.pieces.length) h.touches.length
theorem times_bound {h : House} (ht : ∀ x ∈ h.touches, 0 ≤ x.lo ∧ x.lo ≤ x.hi ∧ x.hi ≤ 5) {m : Int} (hm : 0 ≤ m ∧ m ≤ 2001) : ∀ j, j ≤ h.touches.length → 0 ≤ timesUpto h m j ∧ timesUpto h m j ≤ 2001
  | 0, _ => hm
  | j + 1, hj => by
    have ih := times_bound ht hm j (by omega)
    have hlt : j < h.touches.length := by omega
    have hget : h.touches.getD j default = h.touches[j] := by simp [hlt]
    have h1 := ht _ (List.getElem_mem hlt)
    have : 0 ≤ timesUpto h m j * (h.touches[j].hi - h.touches[j].lo + 1) := Int.mul_nonneg ih.1 (by omega)
    simp only [timesUpto, hget]
    split <;> omega
theorem many_c (h : House) (hs : TSm h.table) (htl : Sm h.touches.length) (ht : ∀ x ∈ h.touches, 0 ≤ x.lo ∧ x.lo ≤ x.hi ∧ x.hi ≤ 5) : Pure Tryz.prog 121 [eH h] (i6 (manyH h)) := by
  intro H
  have h1 := hs.women
  have h2 := hs.pieces
  unfold Sm at h1 h2 htl
  refine fn_of hmix fc121 (by simp) ?_
  rw [ienv1]
  simp only [go_sem, reduceIte, reduceCtorEq, Nat.reduceEqDiff, Nat.reduceBEq, Nat.reduceAdd, Nat.reduceMul, Nat.reduceLeDiff, ac121, eH]
  refine v_box _ rfl fun b1 hb1 => ?_
  simp only [go_sem, reduceIte, reduceCtorEq, Nat.reduceEqDiff, Nat.reduceBEq, Nat.reduceAdd, Nat.reduceMul, Nat.reduceLeDiff]
  refine x_for h.table.pieces.length (fun j env H1 => Ext H H1 ∧ H1 b1 = some (.box [.slice (h.table.women.map eW), .slice (h.table.pieces.map eP), i6 h.table.wrong, .slice (eI h.sick), i6 h.others, i6 h.last, .slice (h.touches.map eTo), .slice (h.boiled.map eB), .slice (h.signs.map eS)]) ∧ env 1 = .ptr b1 0 ∧ env 3 = i6 (manyUpto h.table j) ∧ env 13 = .slice (h.table.pieces.map eP) ∧ env 14 = i6 h.table.pieces.length ∧ env 15 = i6 j ∧ env 62 = .any)
    ⟨(Ext.refl H).new hb1 _, updH_same _ _ _, by simp [upd_at], by simp [upd_at, manyUpto], by simp [upd_at], by simp [upd_at], by simp [upd_at], by simp [upd_at]⟩ ?_
  rintro j env H1 hj ⟨hE, hB, g1, g3, g13, g14, g15, hN⟩
  by_cases hlt : (j : Int) < (h.table.pieces.length : Int)
  · have hlt' : j < h.table.pieces.length := by omega
    have hget : h.table.pieces.getD j default = h.table.pieces[j] := by simp [hlt']
    simp only [go_sem, reduceIte, reduceCtorEq, Nat.reduceEqDiff, Nat.reduceBEq, Nat.reduceAdd, Nat.reduceMul, Nat.reduceLeDiff, g1, g3, g13, g14, g15, hN, hlt, map_get (f := eP) hlt', eP]
    refine v_alloc fun b3 hb3 => ?_
    have hne3 : b1 ≠ b3 := fun h => by subst h; rw [hB] at hb3; cases hb3
    simp only [go_sem, reduceIte, reduceCtorEq, Nat.reduceEqDiff, Nat.reduceBEq, Nat.reduceAdd, Nat.reduceMul, Nat.reduceLeDiff, g1, g3, g13, g14, g15, hN]
    rw [v_store]
    refine ⟨rfl, rfl, by simp [AV.cells, AV.isCell], _, updH_same _ _ _, by simp, ?_⟩
    simp only [go_sem, reduceIte, reduceCtorEq, Nat.reduceEqDiff, Nat.reduceBEq, Nat.reduceAdd, Nat.reduceMul, Nat.reduceLeDiff, g1, g3, g13, g14, g15, hN, updH_ne _ _ hne3, hB, placeAt, List.append_nil, List.nil_append, List.drop_nil]
    have hE2 : ∀ o1 o2, Ext H (updH (updH H1 b3 o1) b3 o2) := fun o1 o2 => (hE.new hb3 _).upd (hE.isNone hb3) _
    generalize hwm : h.table.pieces[j].marks = marks
    have hmk : Sm marks.length := by rw [← hwm]; exact hs.marks _ (List.getElem_mem _)
    refine x_for h.table.women.length (fun m env H2 => Ext H H2 ∧ H2 b1 = some (.box [.slice (h.table.women.map eW), .slice (h.table.pieces.map eP), i6 h.table.wrong, .slice (eI h.sick), i6 h.others, i6 h.last, .slice (h.touches.map eTo), .slice (h.boiled.map eB), .slice (h.signs.map eS)]) ∧ H2 b3 = some (.box [.slice (eI marks), i6 h.table.pieces[j].bundle]) ∧ env 1 = .ptr b1 0 ∧ env 3 = i6 (manyUpto h.table j) ∧ env 5 = .ptr b3 0 ∧ env 6 = i6 (womenUpto h.table.women marks m).length ∧ env 13 = .slice (h.table.pieces.map eP) ∧ env 14 = i6 h.table.pieces.length ∧ env 15 = i6 j ∧ env 21 = .slice (h.table.women.map eW) ∧ env 22 = i6 h.table.women.length ∧ env 23 = i6 m ∧ env 62 = .any)
      ⟨hE2 _ _, by rw [updH_ne _ _ hne3, updH_ne _ _ hne3]; exact hB, updH_same _ _ _, by simp [upd_at, g1], by simp [upd_at, g3], by simp [upd_at], by simp [upd_at, womenUpto], by simp [upd_at, g13], by simp [upd_at, g14], by simp [upd_at, g15], by simp [upd_at], by simp [upd_at], by simp [upd_at], by simp [upd_at, hN]⟩ ?_
    clear hE hB hb3 g1 g3 g13 g14 g15 hN hlt hE2 env H1
    rintro m env H1 hm ⟨hE, hB, hB3, g1, g3, g5, g6, g13, g14, g15, g21, g22, g23, hN⟩
    have hwl := womenUpto_len h.table.women marks m
    by_cases hlt : (m : Int) < (h.table.women.length : Int)
    · have hltw : m < h.table.women.length := by omega
      have hgw : h.table.women.getD m default = h.table.women[m] := by simp [hltw]
      simp only [go_sem, reduceIte, reduceCtorEq, Nat.reduceEqDiff, Nat.reduceBEq, Nat.reduceAdd, Nat.reduceMul, Nat.reduceLeDiff, g1, g3, g5, g6, g13, g14, g15, g21, g22, g23, hN, hlt, map_get (f := eW) hltw, eW]
      refine v_alloc fun b4 hb4 => ?_
      have n14 : b1 ≠ b4 := fun h => by subst h; rw [hB] at hb4; cases hb4
      have n34 : b3 ≠ b4 := fun h => by subst h; rw [hB3] at hb4; cases hb4
      simp only [go_sem, reduceIte, reduceCtorEq, Nat.reduceEqDiff, Nat.reduceBEq, Nat.reduceAdd, Nat.reduceMul, Nat.reduceLeDiff, g1, g3, g5, g6, g13, g14, g15, g21, g22, g23, hN]
      rw [v_store]
      refine ⟨rfl, rfl, by simp [AV.cells, AV.isCell], _, updH_same _ _ _, by simp, ?_⟩
      have hE2 : ∀ o1 o2, Ext H (updH (updH H1 b4 o1) b4 o2) := fun o1 o2 => (hE.new hb4 _).upd (hE.isNone hb4) _
      simp only [go_sem, reduceIte, reduceCtorEq, Nat.reduceEqDiff, Nat.reduceBEq, Nat.reduceAdd, Nat.reduceMul, Nat.reduceLeDiff, g1, g3, g5, g6, g13, g14, g15, g21, g22, g23, hN, updH_ne _ _ n14, updH_ne _ _ n34, hB, hB3, placeAt, List.append_nil, List.nil_append, List.drop_nil]
      refine (contains_c marks h.table.women[m].mark hmk).go ?_
      by_cases hin : h.table.women[m].mark ∈ marks
      · simp only [go_sem, reduceIte, reduceCtorEq, Nat.reduceEqDiff, Nat.reduceBEq, Nat.reduceAdd, Nat.reduceMul, Nat.reduceLeDiff, hin, g1, g3, g5, g6, g13, g14, g15, g21, g22, g23, hN, wsucc (show m < 4611686018427387904 by omega), wsucc (show (womenUpto h.table.women marks m).length < 4611686018427387904 by omega), hltw, updH_ne _ _ n14, updH_ne _ _ n34, hB, hB3]
        refine ⟨hE2 _ _, ?_⟩
        rw [womenUpto_succ, hgw, if_pos hin]; simp
      · simp only [go_sem, reduceIte, reduceCtorEq, Nat.reduceEqDiff, Nat.reduceBEq, Nat.reduceAdd, Nat.reduceMul, Nat.reduceLeDiff, hin, g1, g3, g5, g6, g13, g14, g15, g21, g22, g23, hN, wsucc (show m < 4611686018427387904 by omega), hltw, updH_ne _ _ n14, updH_ne _ _ n34, hB, hB3]
        refine ⟨hE2 _ _, ?_⟩
        rw [womenUpto_succ, hgw, if_neg hin]; simp
    · have hm' : m = h.table.women.length := by omega
      subst hm'
      have hmb := many_bound h.table j
      have hmul : 0 ≤ manyUpto h.table j * ((womenOf h.table.women marks).length : Int) ∧ manyUpto h.table j * ((womenOf h.table.women marks).length : Int) ≤ 2001 * 2147483648 := by
        constructor
        · exact Int.mul_nonneg hmb.1 (by omega)
        · refine Int.mul_le_mul hmb.2 ?_ (by omega) (by omega)
          simp only [womenOf]; omega
      have hw := w64 (x := manyUpto h.table j * ((womenOf h.table.women marks).length : Int)) (by omega) (by omega)
      rw [show womenUpto h.table.women marks h.table.women.length = womenOf h.table.women marks from rfl] at g6
      simp only [go_sem, reduceIte, reduceCtorEq, Nat.reduceEqDiff, Nat.reduceBEq, Nat.reduceAdd, Nat.reduceMul, Nat.reduceLeDiff, g1, g3, g5, g6, g13, g14, g15, g21, g22, g23, hN, hlt, hw]
      refine (minimumS_c _ _).go ?_
      simp only [go_sem, reduceIte, reduceCtorEq, Nat.reduceEqDiff, Nat.reduceBEq, Nat.reduceAdd, Nat.reduceMul, Nat.reduceLeDiff, g1, g3, g5, g6, g13, g14, g15, g21, g22, g23, hN, wsucc (show j < 4611686018427387904 by omega), hlt', hB, manyUpto, hget, hwm]
      exact hE
  have hj' : j = h.table.pieces.length := by omega
  subst hj'
  simp only [go_sem, reduceIte, reduceCtorEq, Nat.reduceEqDiff, Nat.reduceBEq, Nat.reduceAdd, Nat.reduceMul, Nat.reduceLeDiff, g1, g3, g13, g14, g15, hN, hlt, hB]
  refine x_for h.touches.length (fun j env H1 => Ext H H1 ∧ H1 b1 = some (.box [.slice (h.table.women.map eW), .slice (h.table.pieces.map eP), i6 h.table.wrong, .slice (eI h.sick), i6 h.others, i6 h.last, .slice (h.touches.map eTo), .slice (h.boiled.map eB), .slice (h.signs.map eS)]) ∧ env 1 = .ptr b1 0 ∧ env 3 = i6 (timesUpto h (manyUpto h.table h.table.pieces.length) j) ∧ env 42 = .slice (h.touches.map eTo) ∧ env 43 = i6 h.touches.length ∧ env 44 = i6 j ∧ env 62 = .any)
    ⟨hE, hB, by simp [upd_at, g1], by simp [upd_at, g3, timesUpto], by simp [upd_at], by simp [upd_at], by simp [upd_at], by simp [upd_at, hN]⟩ ?_
  clear hE hB g1 g3 g13 g14 g15 hN hlt hj env H1
  rintro j env H1 hj ⟨hE, hB, g1, g3, g42, g43, g44, hN⟩
  by_cases hlt : (j : Int) < (h.touches.length : Int)
  · have hlt' : j < h.touches.length := by omega
    have hget : h.touches.getD j default = h.touches[j] := by simp [hlt']
    have hx := ht _ (List.getElem_mem hlt')
    have hb := times_bound ht (many_bound h.table h.table.pieces.length) j hj
    simp only [go_sem, reduceIte, reduceCtorEq, Nat.reduceEqDiff, Nat.reduceBEq, Nat.reduceAdd, Nat.reduceMul, Nat.reduceLeDiff, g1, g3, g42, g43, g44, hN, hlt, map_get (f := eTo) hlt', eTo]
    refine v_alloc fun b3 hb3 => ?_
    have hne3 : b1 ≠ b3 := fun h => by subst h; rw [hB] at hb3; cases hb3
    simp only [go_sem, reduceIte, reduceCtorEq, Nat.reduceEqDiff, Nat.reduceBEq, Nat.reduceAdd, Nat.reduceMul, Nat.reduceLeDiff, g1, g3, g42, g43, g44, hN]
    rw [v_store]
    refine ⟨rfl, rfl, by simp [AV.cells, AV.isCell], _, updH_same _ _ _, by simp, ?_⟩
    have hw1 := w64 (x := h.touches[j].hi - h.touches[j].lo) (by omega) (by omega)
    have hw2 := w64 (x := h.touches[j].hi - h.touches[j].lo + 1) (by omega) (by omega)
    have hmul : 0 ≤ timesUpto h (manyUpto h.table h.table.pieces.length) j * (h.touches[j].hi - h.touches[j].lo + 1) ∧ timesUpto h (manyUpto h.table h.table.pieces.length) j * (h.touches[j].hi - h.touches[j].lo + 1) ≤ 2001 * 6 :=
      ⟨Int.mul_nonneg hb.1 (by omega), Int.mul_le_mul hb.2 (by omega) (by omega) (by omega)⟩
    have hw3 := w64 (x := timesUpto h (manyUpto h.table h.table.pieces.length) j * (h.touches[j].hi - h.touches[j].lo + 1)) (by omega) (by omega)
    simp only [go_sem, reduceIte, reduceCtorEq, Nat.reduceEqDiff, Nat.reduceBEq, Nat.reduceAdd, Nat.reduceMul, Nat.reduceLeDiff, g1, g3, g42, g43, g44, hN, updH_ne _ _ hne3, hB, placeAt, List.append_nil, List.nil_append, List.drop_nil, hw1, hw2, hw3]
    refine (minimumS_c _ _).go ?_
    simp only [go_sem, reduceIte, reduceCtorEq, Nat.reduceEqDiff, Nat.reduceBEq, Nat.reduceAdd, Nat.reduceMul, Nat.reduceLeDiff, g1, g3, g42, g43, g44, hN, wsucc (show j < 4611686018427387904 by omega), hlt', updH_ne _ _ hne3, hB, timesUpto, hget]
    exact (hE.new hb3 _).upd (hE.isNone hb3) _
  · simp only [go_sem, reduceIte, reduceCtorEq, Nat.reduceEqDiff, Nat.reduceBEq, Nat.reduceAdd, Nat.reduceMul, Nat.reduceLeDiff, g1, g3, g42, g43, g44, hN, hlt]
    have : j = h.touches.length := by omega
    subst this
    refine fin_ret 2 (by simp [upd_at, hN]) ⟨_, H, Settle.refl hE, ?_, rfl⟩
    simp [upd_at, manyH]
end Go.Lift

set_option linter.unusedSimpArgs false
set_option linter.unusedVariables false
namespace Go.Lift
open Go Go.Proofs
/-- The heap outside of a footprint. -/
noncomputable def outer (F : Nat → Prop) (H : AHeap) : AHeap := fun x => @ite _ (F x) (Classical.propDecidable _) none (H x)
theorem outer_in {F : Nat → Prop} {H : AHeap} {x : Nat} (h : F x) : outer F H x = none := by simp [outer, h]
theorem outer_out {F : Nat → Prop} {H : AHeap} {x : Nat} (h : ¬ F x) : outer F H x = H x := by simp [outer, h]
theorem outer_none {F : Nat → Prop} {H : AHeap} {x : Nat} (h : outer F H x = none) : F x ∨ H x = none := by
  by_cases hF : F x
  · exact .inl hF
  · rw [outer_out hF] at h; exact .inr h
theorem ext_outer (F : Nat → Prop) (H : AHeap) : Ext (outer F H) H := fun x o h => by
  by_cases hF : F x
  · rw [outer_in hF] at h; cases h
  · rw [outer_out hF] at h; exact h
theorem Ext.kept {F : Nat → Prop} {H H' : AHeap} (e : Ext (outer F H) H') : ∀ x, ¬ F x → (∃ o, H x = some o) → H' x = H x := fun x hF ⟨o, ho⟩ => by
  rw [ho]; exact e x o (by rw [outer_out hF]; exact ho)
theorem Grown.len {sz : Nat} {H0 H : AHeap} {v : AV} {es : List (List AV)} (g : Grown sz H0 H v es) (H' : AHeap) : detV .len [v] H' = some (i6 es.length) := by
  rcases g with ⟨rfl, rfl⟩ | ⟨b, cap, rfl, _⟩ <;> rfl
theorem Grown.idx {sz : Nat} {H0 H : AHeap} {v : AV} {es : List (List AV)} (g : Grown sz H0 H v es) (H' : AHeap) (n : Nat) (i : Int) : detV (.idxaddr n) [v, .int .i64 i] H' = if 0 ≤ i then elemO n es[i.toNat]? else none := by
  rcases g with ⟨rfl, rfl⟩ | ⟨b, cap, rfl, _⟩
  · show (if 0 ≤ i then ([] : List (List AV))[i.toNat]?.bind fun e => if e.length = n then some (.elem e) else none else none) = _
    simp [elemO]
  · exact d_idxaddr_g ..
theorem Grown.cellv {sz : Nat} {H0 H : AHeap} {v : AV} {es : List (List AV)} (g : Grown sz H0 H v es) : v.ok = true ∧ v.cells = [v] ∧ v.isCell = true := by
  rcases g with ⟨rfl, rfl⟩ | ⟨b, cap, rfl, _⟩ <;> exact ⟨rfl, rfl, rfl⟩
theorem Grown.to {sz : Nat} {H0 H1 H : AHeap} {v : AV} {es : List (List AV)} (g : Grown sz H0 H v es) (h : ∀ b cap es', v = .grow b cap es' → H1 b = none) : Grown sz H1 H v es := by
  rcases g with ⟨rfl, rfl⟩ | ⟨b, cap, rfl, h0, h1⟩
  · exact .inl ⟨rfl, rfl⟩
  · exact .inr ⟨b, cap, rfl, h b cap es rfl, h1⟩
theorem Kept.other {sz : Nat} {H0 H H' : AHeap} {v : AV} {es : List (List AV)} (k : Kept H H' v) (g : Grown sz H0 H v es) {b : Nat} {o : AObj} (h : H b = some o) (ho : ∀ n s c, o ≠ .tail n s c) : H' b = some o := by
  refine k b _ h ?_
  rintro b' cap es' rfl rfl
  rcases g with ⟨h1, _⟩ | ⟨b', cap', h1, hb0, hb1⟩
  · cases h1
  · cases h1; rw [h] at hb1; cases hb1; exact ho _ _ _ rfl
theorem v_mapent {P : Program} {R : AV → AHeap → Prop} {H : AHeap} {b : Nat} {x y : Int} {z : AV} {es : List ((Int × Int) × AV)} (hb : H b = some (.map es none))
    (h : ∀ n : Nat, R (.tup [(findKey' (x, y) es).getD z, .int .i64 (n : Int)]) (updH H b (.map (setKey (x, y) ((findKey' (x, y) es).getD z) es) (some (n, (x, y)))))) : aopV P (.mapent z) [.mptr b, .agg [.int .i64 x, .int .i64 y]] H R := by
  simp only [aopV, pairOf, hb]; exact h
theorem v_entstore {P : Program} {R : AV → AHeap → Prop} {H : AHeap} {b n : Nat} {q : Int × Int} {v : AV} {es : List ((Int × Int) × AV)} (hb : H b = some (.map es (some (n, q)))) (h : R .any (updH H b (.map (setKey q v es) none))) :
    aopV P .entstore [.mptr b, .int .i64 (n : Int), v] H R := by
  simp only [aopV, hb]; exact ⟨trivial, h⟩
def lookO (z : AV) (q : Int × Int) : Option AObj → Option AV
  | some (.map es _) => some ((findKey' q es).getD z)
  | _ => none
theorem d_lookup_m {H : AHeap} (z : AV) (b : Nat) (x y : Int) : detV (.lookup z) [.mptr b, .agg [.int .i64 x, .int .i64 y]] H = lookO z (x, y) (H b) := by
  simp only [detV, pairOf, lookO]
  cases H b with
  | none => rfl
  | some o => cases o <;> rfl
theorem look_map (z : AV) (q : Int × Int) (es : List ((Int × Int) × AV)) (st : Option (Nat × (Int × Int))) : lookO z q (some (.map es st)) = some ((findKey' q es).getD z) := _root_.id rfl
theorem eqCells_int : ∀ xs ys : List Int, xs.length = ys.length → eqCells true (xs.map i6) (ys.map i6) = some (decide (xs = ys))
  | [], [], _ => rfl
  | x :: xs, y :: ys, h => by
    have ih := eqCells_int xs ys (by simpa using h)
    simp only [List.map_cons, eqCells, and_self, if_true, ih, Option.map_some, Option.some.injEq]
    by_cases h1 : x = y <;> by_cases h2 : xs = ys <;> simp [h1, h2]

theorem mem_enumO (t : Table) : ∀ (k : Nat) (pre o : List Int), o ∈ enumO t k pre ↔ ∃ suf, o = pre ++ suf ∧ suf.length = k ∧ ∀ i, i < k → suf.getD i 0 ∈ womenOf t.women (t.pieces.getD (pre.length + i) default).marks
  | 0, pre, o => by
    simp only [enumO, List.mem_singleton]
    constructor
    · rintro rfl; exact ⟨[], by simp, rfl, fun i h => by omega⟩
    · rintro ⟨suf, rfl, h, _⟩
      rw [List.length_eq_zero_iff.1 h]; simp
  | k + 1, pre, o => by
    simp only [enumO, List.mem_flatMap]
    constructor
    · rintro ⟨w, hw, ho⟩
      obtain ⟨suf, rfl, hl, hi⟩ := (mem_enumO t k _ o).1 ho
      refine ⟨w :: suf, by simp, by simp [hl], fun i h => ?_⟩
      cases i with
      | zero => simpa using hw
      | succ i =>
        have := hi i (by omega)
        simp only [List.length_append, List.length_singleton] at this
        rw [show pre.length + (i + 1) = pre.length + 1 + i by omega]
        simpa using this
    · rintro ⟨suf, rfl, hl, hi⟩
      cases suf with
      | nil => simp at hl
      | cons w suf =>
        refine ⟨w, by simpa using hi 0 (by omega), (mem_enumO t k _ _).2 ⟨suf, by simp, by simpa using hl, fun i h => ?_⟩⟩
        have := hi (i + 1) (by omega)
        simp only [List.length_append, List.length_singleton]
        rw [show pre.length + 1 + i = pre.length + (i + 1) by omega]
        simpa using this
/-- All owners. -/
def allO (t : Table) : List (List Int) := enumO t t.pieces.length []
theorem mem_allO (t : Table) (o : List Int) : o ∈ allO t ↔ ownersOK t o = true := by
  simp only [allO, mem_enumO, ownersOK, Bool.and_eq_true, decide_eq_true_eq, List.all_eq_true, List.mem_range]
  constructor
  · rintro ⟨suf, rfl, hl, hi⟩
    refine ⟨by simpa using hl, fun i h => ?_⟩
    simpa using hi i (by simpa [hl] using h)
  · rintro ⟨hl, hi⟩
    exact ⟨o, by simp, hl, fun i h => by simpa using hi i (by omega)⟩
theorem enumO_len (t : Table) (hw : t.women.length ≤ 5) : ∀ k pre, (enumO t k pre).length ≤ 5 ^ k
  | 0, pre => by simp [enumO]
  | k + 1, pre => by
    simp only [enumO, List.length_flatMap]
    have h1 := womenUpto_len t.women (t.pieces.getD pre.length default).marks t.women.length
    rw [show womenUpto t.women (t.pieces.getD pre.length default).marks t.women.length = womenOf t.women (t.pieces.getD pre.length default).marks from rfl] at h1
    generalize womenOf t.women (t.pieces.getD pre.length default).marks = l at h1
    have h2 : ∀ l : List Int, (l.map fun w => (enumO t k (pre ++ [w])).length).sum ≤ l.length * 5 ^ k := by
      intro l
      induction l with
      | nil => simp
      | cons w l ih =>
        have := enumO_len t hw k (pre ++ [w])
        simp only [List.map_cons, List.sum_cons, List.length_cons, Nat.add_mul, Nat.one_mul]
        omega
    have h3 := h2 l
    have h4 : l.length * 5 ^ k ≤ 5 * 5 ^ k := Nat.mul_le_mul_right _ (by omega)
    rw [Nat.pow_succ, Nat.mul_comm (5 ^ k) 5]
    omega
theorem allO_len (t : Table) (hc : checkTable t = 0) : (allO t).length ≤ 78125 := by
  obtain ⟨h1, h2⟩ := checkTable_len hc
  have := enumO_len t h1 t.pieces.length []
  have h3 : 5 ^ t.pieces.length ≤ 5 ^ 7 := Nat.pow_le_pow_right (by omega) h2
  simp only [allO]
  omega
theorem pad7_len (o : List Int) (h : o.length ≤ 7) : (pad7 o).length = 7 := padTo_len o o.length (Nat.le_refl _) h
theorem pad7_get (o : List Int) (i : Nat) (h : i < o.length) : (pad7 o).getD i 0 = o.getD i 0 := padTo_get o i h
theorem allO_owner {t : Table} (hp : t.pieces.length ≤ 7) {o : List Int} (ho : o ∈ allO t) : o.length = t.pieces.length ∧ (pad7 o).length = 7 ∧ ∀ i, i < t.pieces.length → ∃ w : Nat, (pad7 o).getD i 0 = (w : Int) ∧ w < t.women.length := by
  obtain ⟨h1, h2⟩ := agg_ok_owners t o ((mem_allO t o).1 ho)
  exact ⟨h1, pad7_len o (by omega), fun i hi => by rw [pad7_get o i (by omega)]; exact womenOf_mem (h2 i hi)⟩

def addTruth (t : Table) (acc : List (List Int)) (o : List Int) : List (List Int) := if t.wrong < ((wrongOf t (pad7 o)).length : Int) ∨ acc.getLast? = some (pad7 o) then acc else acc ++ [pad7 o]
def truthsUpto (t : Table) (s : List (List Int)) : List (List Int) := s.foldl (addTruth t) []
theorem truthsUpto_snoc (t : Table) (s : List (List Int)) (o : List Int) : truthsUpto t (s ++ [o]) = addTruth t (truthsUpto t s) o := by simp [truthsUpto]
def truthsT (t : Table) : List (List Int) := truthsUpto t (allO t)
theorem addTruth_mem (t : Table) (acc : List (List Int)) (o q : List Int) : q ∈ addTruth t acc o ↔ q ∈ acc ∨ (q = pad7 o ∧ ((wrongOf t (pad7 o)).length : Int) ≤ t.wrong) := by
  unfold addTruth
  split
  · rename_i h
    constructor
    · exact .inl
    · rintro (h1 | ⟨rfl, h1⟩)
      · exact h1
      · rcases h with h | h
        · omega
        · exact List.mem_of_getLast? h
  · rename_i h
    simp only [not_or] at h
    simp only [List.mem_append, List.mem_singleton]
    constructor
    · rintro (h1 | rfl)
      · exact .inl h1
      · exact .inr ⟨rfl, by omega⟩
    · rintro (h1 | ⟨rfl, _⟩)
      · exact .inl h1
      · exact .inr rfl
theorem truthsUpto_mem (t : Table) (s : List (List Int)) (q : List Int) : q ∈ truthsUpto t s ↔ ∃ o ∈ s, q = pad7 o ∧ ((wrongOf t (pad7 o)).length : Int) ≤ t.wrong := by
  have : ∀ (s acc : List (List Int)), q ∈ s.foldl (addTruth t) acc ↔ q ∈ acc ∨ ∃ o ∈ s, q = pad7 o ∧ ((wrongOf t (pad7 o)).length : Int) ≤ t.wrong := by
    intro s
    induction s with
    | nil => intro acc; simp
    | cons o s ih =>
      intro acc
      simp only [List.foldl_cons]
      rw [ih, addTruth_mem]
      simp only [List.mem_cons, exists_eq_or_imp, or_assoc]
  simpa [truthsUpto] using this s []
theorem truthsUpto_len (t : Table) (s : List (List Int)) : (truthsUpto t s).length ≤ s.length := by
  have : ∀ (s acc : List (List Int)), (s.foldl (addTruth t) acc).length ≤ acc.length + s.length := by
    intro s
    induction s with
    | nil => intro acc; simp
    | cons o s ih =>
      intro acc
      simp only [List.foldl_cons, List.length_cons]
      refine Nat.le_trans (ih _) ?_
      have : (addTruth t acc o).length ≤ acc.length + 1 := by unfold addTruth; split <;> simp
      omega
  simpa [truthsUpto] using this s []
def eTr (s : List (List Int)) : List (List AV) := s.map fun p => p.map i6
theorem eTr_good {s : List (List Int)} (h : ∀ p ∈ s, p.length = 7) : goodEls 7 (eTr s) := by
  intro e he
  simp only [eTr, List.mem_map] at he
  obtain ⟨p, hp, rfl⟩ := he
  simp [h p hp]
theorem map_i6_cell (p : List Int) : ∀ x ∈ p.map i6, AV.isCell x = true := by
  intro x hx; simp only [List.mem_map] at hx; obtain ⟨n, _, rfl⟩ := hx; rfl
/-- What a map of counts says: how many truths have an owner of a piece, and one more for the first j pieces of p. -/
def CntOK (n : Nat) (es : List ((Int × Int) × AV)) (tr : List (List Int)) (p : List Int) (j : Nat) : Prop :=
  ∀ i : Nat, i < n → ∀ k : Int, (findKey' ((i : Int), k) es).getD (i6 0) = i6 ((tr.countP fun q => decide (q.getD i 0 = k)) + (if i < j ∧ p.getD i 0 = k then 1 else 0) : Nat)
theorem CntOK.next {n : Nat} {es : List ((Int × Int) × AV)} {tr : List (List Int)} {p : List Int} {j : Nat} (hj : j < n) (h : CntOK n es tr p j) (v : AV) :
    CntOK n (setKey ((j : Int), p.getD j 0) (i6 ((tr.countP fun q => decide (q.getD j 0 = p.getD j 0)) + 1 : Nat)) (setKey ((j : Int), p.getD j 0) v es)) tr p (j + 1) := by
  intro i hi k
  rw [findKey_set, findKey_set]
  by_cases hij : i = j
  · subst hij
    by_cases hk : k = p.getD i 0
    · subst hk; simp
    · have h1 : ¬ ((i : Int), k) = ((i : Int), p.getD i 0) := fun h => hk (Prod.mk.inj h).2
      rw [if_neg h1, if_neg h1, h i hi k]
      have : ¬ (p.getD i 0 = k) := fun h => hk h.symm
      simp only [this, and_false, if_false]
  · have h1 : ¬ ((i : Int), k) = ((j : Int), p.getD j 0) := by simp; intro h; omega
    rw [if_neg h1, if_neg h1, h i hi k]
    have : (i < j + 1 ∧ p.getD i 0 = k) ↔ (i < j ∧ p.getD i 0 = k) := by constructor <;> rintro ⟨a, b⟩ <;> exact ⟨by omega, b⟩
    simp only [this]
theorem CntOK.val {n : Nat} {es : List ((Int × Int) × AV)} {tr : List (List Int)} {p : List Int} {j : Nat} (hj : j < n) (h : CntOK n es tr p j) : (findKey' ((j : Int), p.getD j 0) es).getD (i6 0) = i6 (tr.countP fun q => decide (q.getD j 0 = p.getD j 0)) := by
  rw [h j hj]; simp
theorem CntOK.done {n : Nat} {es : List ((Int × Int) × AV)} {tr : List (List Int)} {p : List Int} (h : CntOK n es tr p n) : CntOK n es (tr ++ [p]) [] 0 := by
  intro i hi k
  rw [h i hi k]
  by_cases hk : p.getD i 0 = k <;> simp [hi, hk, List.countP_append, List.countP_cons]
theorem CntOK.start {n : Nat} {es : List ((Int × Int) × AV)} {tr : List (List Int)} (p : List Int) (h : CntOK n es tr [] 0) : CntOK n es tr p 0 := by
  intro i hi k; rw [h i hi k]; simp
end Go.Lift

set_option linter.unusedSimpArgs false
set_option linter.unusedVariables false
namespace Go.Lift
open Go Go.Proofs
/-- What has been taken. -/
structure JA (t : Table) (ga gb : Code) (env0 : Env) (r l b1 b5 bw bm : Nat) (s : List (List Int)) (F : Nat → Prop) (H : AHeap) : Prop where
  dom : ∀ x, F x → ∃ o, H x = some o
  fl : F l
  fr : F r
  f1 : F b1
  f5 : F b5
  fw : F bw
  fm : F bm
  hl : H l = some (.loop .ready none 88 env0 #[19] ga gb r)
  hr : H r = some .deferd
  h1 : H b1 = some (.box [.slice (t.women.map eW), .slice (t.pieces.map eP), i6 t.wrong])
  h5 : H b5 = some (.box [.ptr bw 0])
  rest : ∃ v es, H bw = some (.box [.slice (t.women.map eW), .slice (t.pieces.map eP), i6 t.wrong, v, .mptr bm]) ∧ Grown 7 (fun _ => none) H v (eTr (truthsUpto t s)) ∧ (∀ b cap es', v = .grow b cap es' → F b) ∧
    H bm = some (.map es none) ∧ CntOK t.pieces.length es (truthsUpto t s) [] 0

theorem ask_taker (t : Table) (hs : TSm t) (hc : checkTable t = 0) (env0 : Env) (r l b1 b5 bw bm : Nat) (g1 : env0 1 = .ptr b1 0) (g5 : env0 5 = .ptr b5 0) :
    Taker Tryz.prog (.func (.yield l) [] []) eO (allO t) (JA t (rangeF Tryz.f103).1 (rangeF Tryz.f103).2 env0 r l b1 b5 bw bm) (fun _ _ _ => False) where
  dom := fun s F H J => J.dom
  edom := fun _ _ _ h => h.elim
  stable := fun s F H H' J h => by
    obtain ⟨v, es, k1, k2, k3, k4, k5⟩ := J.rest
    exact ⟨fun x hx => by rw [h x hx]; exact J.dom x hx, J.fl, J.fr, J.f1, J.f5, J.fw, J.fm, (h _ J.fl).trans J.hl, (h _ J.fr).trans J.hr, (h _ J.f1).trans J.h1, (h _ J.f5).trans J.h5, v, es, (h _ J.fw).trans k1,
      (by rcases k2 with ⟨rfl, h2⟩ | ⟨b, cap, rfl, h2, h3⟩
          · exact .inl ⟨rfl, h2⟩
          · exact .inr ⟨b, cap, rfl, rfl, (h b (k3 b _ _ rfl)).trans h3⟩), k3, (h _ J.fm).trans k4, k5⟩
  estable := fun _ _ _ _ h => h.elim
  step := by
    intro s F H o hpre J
    obtain ⟨hw5, hp7⟩ := checkTable_len hc
    have hmem : o ∈ allO t := hpre.subset (by simp)
    obtain ⟨hol, hp, hown⟩ := allO_owner hp7 hmem
    have hsl : s.length ≤ 78125 := by
      have h1 := hpre.length_le; have h2 := allO_len t hc; simp only [List.length_append, List.length_singleton] at h1; omega
    have htl := truthsUpto_len t s
    have htr7 : ∀ q ∈ truthsUpto t s, q.length = 7 := fun q hq => by
      obtain ⟨o', ho', rfl, _⟩ := (truthsUpto_mem t s q).1 hq
      exact (allO_owner hp7 (hpre.subset (by simp [ho']))).2.1
    obtain ⟨v, es, k1, k2, k3, k4, k5⟩ := J.rest
    generalize htr : truthsUpto t s = tr at *
    have hlw : l ≠ bw := fun h => by have := J.hl; rw [h, k1] at this; cases this
    have hl1 : l ≠ b1 := fun h => by have := J.hl; rw [h, J.h1] at this; cases this
    have hl5 : l ≠ b5 := fun h => by have := J.hl; rw [h, J.h5] at this; cases this
    have hlm : l ≠ bm := fun h => by have := J.hl; rw [h, k4] at this; cases this
    have hlr : l ≠ r := fun h => by have := J.hl; rw [h, J.hr] at this; cases this
    have h1w : b1 ≠ bw := fun h => by have := J.h1; rw [h, k1] at this; cases this
    have h5w : b5 ≠ bw := fun h => by have := J.h5; rw [h, k1] at this; cases this
    have hmw : bm ≠ bw := fun h => by have := k4; rw [h, k1] at this; cases this
    have hrw : r ≠ bw := fun h => by have := J.hr; rw [h, k1] at this; cases this
    have hrm : r ≠ bm := fun h => by have := J.hr; rw [h, k4] at this; cases this
    have h1m : b1 ≠ bm := fun h => by have := J.h1; rw [h, k4] at this; cases this
    have h5m : b5 ≠ bm := fun h => by have := J.h5; rw [h, k4] at this; cases this
    have hE0 := ext_outer F H
    have hG0 : Grown 7 (outer F H) H v (eTr tr) := k2.to fun b cap es' h => outer_in (k3 b cap es' h)
    -- how a round ends
    have close : ∀ (H' : AHeap) (v' : AV) (es' : List ((Int × Int) × AV)), Ext (outer F H) H' → H' l = some (.loop .busy none 88 env0 #[19] (rangeF Tryz.f103).1 (rangeF Tryz.f103).2 r) → H' r = some .deferd →
        H' b1 = some (.box [.slice (t.women.map eW), .slice (t.pieces.map eP), i6 t.wrong]) → H' b5 = some (.box [.ptr bw 0]) → H' bw = some (.box [.slice (t.women.map eW), .slice (t.pieces.map eP), i6 t.wrong, v', .mptr bm]) →
        Grown 7 (outer F H) H' v' (eTr (addTruth t tr o)) → H' bm = some (.map es' none) → CntOK t.pieces.length es' (addTruth t tr o) [] 0 →
        ∀ env, rfin 88 l (fun r_1 H_1 => ∃ F', (∀ x, F' x → F x ∨ H x = none) ∧ (∀ x, ¬ F x → (∃ o, H x = some o) → H_1 x = H x) ∧
          ((r_1 = .bool true ∧ JA t (rangeF Tryz.f103).1 (rangeF Tryz.f103).2 env0 r l b1 b5 bw bm (s ++ [o]) F' H_1) ∨ (r_1 = .bool false ∧ False))) .norm env H' := by
      intro H' v' es' e1 e2 e3 e4 e5 e6 e7 e8 e9 env
      refine ⟨_, _, _, _, _, _, _, e2, ?_⟩
      have eE := e1.upd (outer_in J.fl) (.loop .ready none 88 env0 #[19] (rangeF Tryz.f103).1 (rangeF Tryz.f103).2 r)
      refine ⟨fun x => (F x ∨ H x = none) ∧ ∃ o, updH H' l (.loop .ready none 88 env0 #[19] (rangeF Tryz.f103).1 (rangeF Tryz.f103).2 r) x = some o, fun x h => h.1, eE.kept, .inl ⟨rfl, ?_⟩⟩
      have m1 : updH H' l (.loop .ready none 88 env0 #[19] (rangeF Tryz.f103).1 (rangeF Tryz.f103).2 r) l = _ := updH_same _ _ _
      have m2 := (updH_ne H' (.loop .ready none 88 env0 #[19] (rangeF Tryz.f103).1 (rangeF Tryz.f103).2 r) hlr.symm).trans e3
      have m3 := (updH_ne H' (.loop .ready none 88 env0 #[19] (rangeF Tryz.f103).1 (rangeF Tryz.f103).2 r) hl1.symm).trans e4
      have m4 := (updH_ne H' (.loop .ready none 88 env0 #[19] (rangeF Tryz.f103).1 (rangeF Tryz.f103).2 r) hl5.symm).trans e5
      have m5 := (updH_ne H' (.loop .ready none 88 env0 #[19] (rangeF Tryz.f103).1 (rangeF Tryz.f103).2 r) hlw.symm).trans e6
      have m6 := (updH_ne H' (.loop .ready none 88 env0 #[19] (rangeF Tryz.f103).1 (rangeF Tryz.f103).2 r) hlm.symm).trans e8
      have m7 : Grown 7 (outer F H) (updH H' l (.loop .ready none 88 env0 #[19] (rangeF Tryz.f103).1 (rangeF Tryz.f103).2 r)) v' (eTr (addTruth t tr o)) := e7.of fun b n sz cap hb => by
        rw [updH_ne _ _ (fun h => by rw [h, e2] at hb; cases hb)]; exact hb
      refine ⟨fun x h => h.2, ⟨.inl J.fl, _, m1⟩, ⟨.inl J.fr, _, m2⟩, ⟨.inl J.f1, _, m3⟩, ⟨.inl J.f5, _, m4⟩, ⟨.inl J.fw, _, m5⟩, ⟨.inl J.fm, _, m6⟩, m1, m2, m3, m4, v', es', m5, ?_, ?_, m6, ?_⟩
      · rw [truthsUpto_snoc, htr]; exact m7.to fun _ _ _ _ => rfl
      · rintro b cap es'' rfl
        rcases m7 with ⟨h, _⟩ | ⟨b', cap', h, h0, h2⟩
        · cases h
        · cases h; exact ⟨outer_none h0, _, h2⟩
      · rw [truthsUpto_snoc, htr]; exact e9
    refine yield_of hmix cert103 J.hl rfl (by decide) tga103 tgb103 ?_
    simp only [setPs]
    have hp' : ((pad7 o).map i6).length = 7 := by simp [hp]
    simp only [go_sem, reduceIte, reduceCtorEq, Nat.reduceEqDiff, Nat.reduceBEq, Nat.reduceAdd, Nat.reduceMul, Nat.reduceLeDiff, aga103]
    refine v_alloc fun b6 hb6 => ?_
    simp only [go_sem, reduceIte, reduceCtorEq, Nat.reduceEqDiff, Nat.reduceBEq, Nat.reduceAdd, Nat.reduceMul, Nat.reduceLeDiff]
    rw [v_store]
    refine ⟨rfl, hp', map_i6_cell _, _, updH_same _ _ _, by simp, ?_⟩
    have n6 : ∀ {x o}, H x = some o → x ≠ b6 := fun hx h => by subst h; rw [hx] at hb6; cases hb6
    rw [show (eO o).cells = (pad7 o).map i6 from rfl, placeAll _ _ (by rw [hp']; rfl)]
    simp only [go_sem, reduceIte, reduceCtorEq, Nat.reduceEqDiff, Nat.reduceBEq, Nat.reduceAdd, Nat.reduceMul, Nat.reduceLeDiff]
    refine ⟨none, env0, _, _, _, r, by rw [updH_ne _ _ (n6 J.hl), updH_ne _ _ (n6 J.hl)]; exact J.hl, ?_⟩
    generalize hHH : updH (updH (updH H b6 (.box [AV.int .i64 0, AV.int .i64 0, AV.int .i64 0, AV.int .i64 0, AV.int .i64 0, AV.int .i64 0, AV.int .i64 0])) b6 (.box ((pad7 o).map i6))) l (.loop .busy none 88 env0 #[19] (rangeF Tryz.f103).1 (rangeF Tryz.f103).2 r) = HH
    have q1 : ∀ x o, x ≠ l → H x = some o → HH x = some o := fun x o hx h => by subst hHH; rw [updH_ne _ _ hx, updH_ne _ _ (n6 h), updH_ne _ _ (n6 h)]; exact h
    have q2 : HH l = some (.loop .busy none 88 env0 #[19] (rangeF Tryz.f103).1 (rangeF Tryz.f103).2 r) := by subst hHH; exact updH_same _ _ _
    have q6 : HH b6 = some (.box ((pad7 o).map i6)) := by subst hHH; rw [updH_ne _ _ (n6 J.hl).symm]; exact updH_same _ _ _
    have hEH : Ext (outer F H) HH := by subst hHH; exact ((hE0.new hb6 _).upd (hE0.isNone hb6) _).upd (outer_in J.fl) _
    have hB1 := q1 _ _ hl1.symm J.h1
    have hB5 := q1 _ _ hl5.symm J.h5
    have hBw := q1 _ _ hlw.symm k1
    have hBm := q1 _ _ hlm.symm k4
    have hBr := q1 _ _ hlr.symm J.hr
    have hGH : Grown 7 (outer F H) HH v (eTr tr) := hG0.of fun b n sz cap hb => q1 _ _ (fun h => by rw [h, J.hl] at hb; cases hb) hb
    clear hHH q1
    have hetl : (eTr tr).length = tr.length := by simp [eTr]
    have hlenv : ∀ H', detV .len [v] H' = some (i6 tr.length) := fun H' => by rw [hG0.len H', hetl]
    simp only [go_sem, reduceIte, reduceCtorEq, Nat.reduceEqDiff, Nat.reduceBEq, Nat.reduceAdd, Nat.reduceMul, Nat.reduceLeDiff, agb103, g1, g5, hB1, hB5, q6, hp', take_len hp', hp]
    refine pgo_call (wrong_c t (pad7 o) hs hp hp7 hown) ?_
    simp only [go_sem, reduceIte, reduceCtorEq, Nat.reduceEqDiff, Nat.reduceBEq, Nat.reduceAdd, Nat.reduceMul, Nat.reduceLeDiff, g1, hB1, take_f', List.getElem?_cons_zero, List.drop_succ_cons, List.drop_zero]
    by_cases c1 : t.wrong < ((wrongOf t (pad7 o)).length : Int)
    · simp only [go_sem, reduceIte, reduceCtorEq, Nat.reduceEqDiff, Nat.reduceBEq, Nat.reduceAdd, Nat.reduceMul, Nat.reduceLeDiff, c1, and_self, decide_true, decide_false, Bool.or_true, Bool.true_or, Bool.true_and, Bool.and_true, Bool.or_false, Bool.false_or, Bool.not_false, Bool.not_true, Bool.and_false, Bool.false_and, not_true_eq_false, not_false_eq_true, if_true, if_false, reduceIte, Bool.false_eq_true, eq_self, true_and, and_true]
      exact close HH v es hEH q2 hBr hB1 hB5 hBw (by rw [addTruth, if_pos (.inl c1)]; exact hGH) hBm (by rw [addTruth, if_pos (.inl c1)]; exact k5) _
    by_cases c2 : (0 : Int) < (tr.length : Int)
    have hm : tr.length - 1 < tr.length := by omega
    have hlast : tr.getLast? = some tr[tr.length - 1] := by rw [List.getLast?_eq_getElem?]; simp [hm]
    have hl7 : tr[tr.length - 1].length = 7 := htr7 _ (List.getElem_mem hm)
    have hidx : ∀ H', detV (.idxaddr 7) [v, .int .i64 ((tr.length - 1 : Nat) : Int)] H' = some (.elem (tr[tr.length - 1].map i6)) := fun H' => by
      rw [hG0.idx, if_pos (by omega), Int.toNat_natCast, eTr, map_get (f := fun p : List Int => p.map i6) hm, elemO_some, if_pos (by simp [hl7])]
    have heq := eqCells_int tr[tr.length - 1] (pad7 o) (by rw [hl7, hp])
    have hwp := wpred (show tr.length < 4611686018427387904 by omega) (show 0 < tr.length by omega)
    have hl7' : (tr[tr.length - 1].map i6).length = 7 := by simp [hl7]
    by_cases c3 : tr[tr.length - 1] = pad7 o
    · have heq' := eqCells_int (pad7 o) (pad7 o) rfl
      simp only [go_sem, reduceIte, reduceCtorEq, Nat.reduceEqDiff, Nat.reduceBEq, Nat.reduceAdd, Nat.reduceMul, Nat.reduceLeDiff, heq', c1, g1, g5, hB1, hB5, hBw, q6, hp', take_len hp', hp, take_f', drop_at, List.getElem?_cons_zero, List.getElem?_cons_succ, hlenv, c2, hwp, hidx, hl7, hl7', take_len hl7', heq, c3, Option.map_some]
      have hc : t.wrong < ((wrongOf t (pad7 o)).length : Int) ∨ tr.getLast? = some (pad7 o) := .inr (by rw [hlast, c3])
      exact close HH v es hEH q2 hBr hB1 hB5 hBw (by rw [addTruth, if_pos hc]; exact hGH) hBm (by rw [addTruth, if_pos hc]; exact k5) _
    have hadd : addTruth t tr o = tr ++ [pad7 o] := by
      rw [addTruth, if_neg]
      rintro (h | h)
      · exact c1 h
      · rw [hlast] at h; exact c3 (Option.some.inj h)
    simp only [go_sem, reduceIte, reduceCtorEq, Nat.reduceEqDiff, Nat.reduceBEq, Nat.reduceAdd, Nat.reduceMul, Nat.reduceLeDiff, c1, g1, g5, hB1, hB5, hBw, q6, hp', take_len hp', hp, take_f', drop_at, List.getElem?_cons_zero, List.getElem?_cons_succ, hlenv, c2, hwp, hidx, hl7, hl7', take_len hl7', heq, c3, Option.map_some, go_sem]
    rotate_left
    have hadd : addTruth t tr o = tr ++ [pad7 o] := by
      have : tr = [] := List.length_eq_zero_iff.1 (by omega)
      rw [addTruth, if_neg]
      rintro (h | h)
      · exact c1 h
      · rw [this] at h; simp at h
    simp only [go_sem, reduceIte, reduceCtorEq, Nat.reduceEqDiff, Nat.reduceBEq, Nat.reduceAdd, Nat.reduceMul, Nat.reduceLeDiff, c1, g1, g5, hB1, hB5, hBw, q6, hp', take_len hp', hp, take_f', drop_at, List.getElem?_cons_zero, List.getElem?_cons_succ, hlenv, c2, Option.map_some, go_sem]
    all_goals
      refine v_append hGH hEH rfl (eTr_good htr7) (by intro e he; simp at he; subst he; exact hp') (by intro e he; simp at he; subst he; exact map_i6_cell _) (by simp [hetl]; omega) (by simp [hetl]; omega) ?_
      intro v' H2 hg' he' hk'
      have B1 := hk'.box hGH hB1
      have B5 := hk'.box hGH hB5
      have Bw := hk'.box hGH hBw
      have B6 := hk'.box hGH q6
      have Bm := hk'.other hGH hBm (by intros; simp)
      have Br := hk'.other hGH hBr (by intros; simp)
      have Bl := hk'.other hGH q2 (by intros; simp)
      have nw6 : b6 ≠ bw := (n6 k1).symm
      have h56 : b5 ≠ b6 := n6 J.h5
      have h6m : b6 ≠ bm := (n6 k4).symm
      simp only [go_sem, reduceIte, reduceCtorEq, Nat.reduceEqDiff, Nat.reduceBEq, Nat.reduceAdd, Nat.reduceMul, Nat.reduceLeDiff, g1, g5, B1, B5, Bw, take_f', drop_at, List.getElem?_cons_zero, List.getElem?_cons_succ]
      rw [v_store]
      refine ⟨hg'.cellv.1, by rw [hg'.cellv.2.1]; rfl, by rw [hg'.cellv.2.1]; intro y hy; simp at hy; subst hy; exact hg'.cellv.2.2, _, Bw, by simp, ?_⟩
      rw [hg'.cellv.2.1, show placeAt [.slice (t.women.map eW), .slice (t.pieces.map eP), i6 t.wrong, v, .mptr bm] (0 + 3) [v'] = [.slice (t.women.map eW), .slice (t.pieces.map eP), i6 t.wrong, v', .mptr bm] from rfl]
      have hg2 : Grown 7 (outer F H) (updH H2 bw (.box [.slice (t.women.map eW), .slice (t.pieces.map eP), i6 t.wrong, v', .mptr bm])) v' (eTr (tr ++ [pad7 o])) := by
        rw [show eTr (tr ++ [pad7 o]) = eTr tr ++ [(pad7 o).map i6] by simp [eTr]]; exact hg'.store Bw _
      have hE2 := he'.upd (outer_in J.fw) (.box [.slice (t.women.map eW), .slice (t.pieces.map eP), i6 t.wrong, v', .mptr bm])
      simp only [go_sem, reduceIte, reduceCtorEq, Nat.reduceEqDiff, Nat.reduceBEq, Nat.reduceAdd, Nat.reduceMul, Nat.reduceLeDiff, g1, g5, updH_ne _ _ h1w, updH_ne _ _ h5w, B1, B5, take_f', drop_at, List.getElem?_cons_zero, List.getElem?_cons_succ]
      refine x_for t.pieces.length (fun j env H1 => Ext (outer F H) H1 ∧ H1 l = some (.loop .busy none 88 env0 #[19] (rangeF Tryz.f103).1 (rangeF Tryz.f103).2 r) ∧ H1 r = some .deferd ∧ H1 b1 = some (.box [.slice (t.women.map eW), .slice (t.pieces.map eP), i6 t.wrong]) ∧ H1 b5 = some (.box [.ptr bw 0]) ∧
          H1 bw = some (.box [.slice (t.women.map eW), .slice (t.pieces.map eP), i6 t.wrong, v', .mptr bm]) ∧ H1 b6 = some (.box ((pad7 o).map i6)) ∧ Grown 7 (outer F H) H1 v' (eTr (tr ++ [pad7 o])) ∧ (∃ es', H1 bm = some (.map es' none) ∧ CntOK t.pieces.length es' tr (pad7 o) j) ∧
          env 5 = .ptr b5 0 ∧ env 6 = .ptr b6 0 ∧ env 63 = i6 t.pieces.length ∧ env 64 = i6 j)
        ⟨hE2, by rw [updH_ne _ _ hlw]; exact Bl, by rw [updH_ne _ _ hrw]; exact Br, by rw [updH_ne _ _ h1w]; exact B1, by rw [updH_ne _ _ h5w]; exact B5, updH_same _ _ _, by rw [updH_ne _ _ nw6]; exact B6, hg2, ⟨es, by rw [updH_ne _ _ hmw]; exact Bm, k5.start _⟩, by simp [upd_at, g5], by simp [upd_at], by simp [upd_at], by simp [upd_at]⟩ ?_
      clear hE2 hg2 Bl Br B1 B5 Bw B6 Bm hk' he' hg' H2
      rintro j env H2 hj ⟨hE2, Bl, Br, B1, B5, Bw, B6, hg', ⟨es', Bm, hcnt⟩, f5, f6, f63, f64⟩
      by_cases hlt : (j : Int) < (t.pieces.length : Int)
      · have hlt' : j < t.pieces.length := by omega
        have hval := hcnt.val hlt'
        have hcl : (tr.countP fun q => decide (q.getD j 0 = (pad7 o).getD j 0)) ≤ tr.length := List.countP_le_length
        generalize hcc : (tr.countP fun q => decide (q.getD j 0 = (pad7 o).getD j 0)) = cc at hval hcl
        have hnext := fun v => hcnt.next hlt' v
        rw [hcc] at hnext
        have hget := iget (show j < (pad7 o).length by omega)
        simp only [go_sem, reduceIte, reduceCtorEq, Nat.reduceEqDiff, Nat.reduceBEq, Nat.reduceAdd, Nat.reduceMul, Nat.reduceLeDiff, f5, f6, f63, f64, hlt, B5, Bw, B6, hp', hp, take_f', drop_at, List.getElem?_cons_zero, List.getElem?_cons_succ, show (j : Int) < ((7 : Nat) : Int) by omega, Nat.mul_one, show j ≤ 7 by omega, hget, bc2, Option.map_some, d_lookup_m, Bm, look_map, hval, wsucc (show cc < 4611686018427387904 by omega)]
        refine v_mapent Bm fun n => ?_
        simp only [go_sem, reduceIte, reduceCtorEq, Nat.reduceEqDiff, Nat.reduceBEq, Nat.reduceAdd, Nat.reduceMul, Nat.reduceLeDiff, d_lookup_m, look_map, updH_same, findKey_set, if_true, Option.getD_some, hval, List.getElem?_cons_zero, List.getElem?_cons_succ]
        refine v_entstore (updH_same _ _ _) ?_
        simp only [go_sem, reduceIte, reduceCtorEq, Nat.reduceEqDiff, Nat.reduceBEq, Nat.reduceAdd, Nat.reduceMul, Nat.reduceLeDiff, f5, f6, f63, f64, wsucc (show j < 4611686018427387904 by omega), hlt', updH_ne _ _ hlm, updH_ne _ _ hrm, updH_ne _ _ h1m, updH_ne _ _ h5m, updH_ne _ _ hmw.symm, updH_ne _ _ h6m, Bl, Br, B1, B5, Bw, B6]
        refine ⟨(hE2.upd (outer_in J.fm) _).upd (outer_in J.fm) _, ?_, _, rfl, hnext _⟩
        refine hg'.of fun b n sz cap hb => ?_
        have : b ≠ bm := fun h => by rw [h, Bm] at hb; cases hb
        rw [updH_ne _ _ this, updH_ne _ _ this]; exact hb
      · have hj' : j = t.pieces.length := by omega
        subst hj'
        simp only [go_sem, reduceIte, reduceCtorEq, Nat.reduceEqDiff, Nat.reduceBEq, Nat.reduceAdd, Nat.reduceMul, Nat.reduceLeDiff, f5, f6, f63, f64, hlt]
        refine close H2 v' es' hE2 Bl Br B1 B5 Bw (by rw [hadd]; exact hg') Bm (by rw [hadd]; exact hcnt.done) _
end Go.Lift

set_option linter.unusedSimpArgs false
set_option linter.unusedVariables false
namespace Go.Lift
open Go Go.Proofs
theorem x_range {P : Program} {N : Nat} {Q : AEx → Env → AHeap → Prop} {env : Env} {H : AHeap} (g : Opd) (ps : Array Tmp) (ga gb : Code) : aexec P N (.range g ps ga gb) Q env H = arange P N g ps ga gb Q env H := _root_.id rfl
theorem fin_def2 {P : Program} {N : Nat} {env : Env} {H : AHeap} (t s r : Nat) (hN : env N = .ptr r 0) (hr : H r = some .deferd) {Rr : AV → AHeap → Prop} (h : ∃ r' H2, Settle (delH H r) (.tup [env t, env s]) H2 r' ∧ Rr r' H2) : fin P [.tmp t, .tmp s] N Rr .ret env H := by
  obtain ⟨r', H2, h1, h2⟩ := h
  exact ⟨delH H r, .inr ⟨r, hN, hr, rfl⟩, _, rfl, r', H2, h1, h2⟩
theorem rep_elem' {H1 H2 : AHeap} {w : World} {v : Value} {b : Nat} {cs cs' : List AV} (hH : HRel H1 w) (hb : H1 b = some (.box cs)) (hn : H2 b = none) (hl : cs'.length = cs.length)
    (hcs : ∀ (i : Nat) (x x' : AV), cs[i]? = some x → cs'[i]? = some x' → ∀ u, Rep H1 w u x → Rep H2 w u x') (hr : Rep H1 w v (.ptr b 0)) : Rep H2 w v (.elem cs') := by
  obtain ⟨b', off', hv, vs, hvs⟩ := cellsAt_rep hH hr (at_ptr hb (Nat.zero_le _))
  cases hr
  cases hv
  refine Rep.elem b 0 cs' vs (fun j hj => ?_) (fun j x hx => ?_)
  · have := (hvs j cs[j] (by simp [show j < cs.length by omega])).1
    exact ⟨.inl hn, this⟩
  · have hj : j < cs.length := by
      rcases Nat.lt_or_ge j cs.length with h | h
      · exact h
      · rw [List.getElem?_eq_none (by omega)] at hx; cases hx
    exact hcs j cs[j] x (by simp [hj]) hx _ ((hvs j cs[j] (by simp [hj])).2)
theorem settle_tup {H1 H2 : AHeap} {x x' : AV} {n : Int} (e : Ext H2 H1) (h : ∀ w v, HRel H1 w → Rep H1 w v x → Rep H2 w v x') : Settle H1 (.tup [x, i6 n]) H2 (.tup [x', i6 n]) := by
  refine ⟨e, fun w v hH hr => ?_⟩
  cases hr with
  | tup arr cs hs hx =>
    refine .tup arr _ (by simpa using hs) (fun i y hi => ?_)
    match i, hi with
    | 0, hi => cases hi; exact h w _ hH (hx 0 _ rfl)
    | 1, hi => cases hi; exact (hx 1 _ rfl).mono (Evolve.drop e)
def wCells (t : Table) (tr : List (List Int)) (es : List ((Int × Int) × AV)) : List AV := [.slice (t.women.map eW), .slice (t.pieces.map eP), i6 t.wrong, .slice (eTr tr), .amap es]
def askErr (t : Table) : Int := if checkTable t = 0 then (if truthsT t = [] then 11 else 0) else checkTable t
theorem bc103 (a b c : AV) (m : Nat) : buildCells [.emp, .emp, .int .i64 0, .emp, .any] [(0, 3), (3, 1), (4, 1)] [.agg [a, b, c], .emp, .mptr m] = some [a, b, c, .emp, .mptr m] := by
  simp [buildCells, placeAt, AV.ok, AV.cells]
theorem asked_c (t : Table) (hs : TSm t) (H : AHeap) : ACalls Tryz.prog 103 [eT t] H fun r H' => H' = H ∧ ((askErr t ≠ 0 ∧ r = .tup [.nilp, i6 (askErr t)]) ∨
    (askErr t = 0 ∧ ∃ es, CntOK t.pieces.length es (truthsT t) [] 0 ∧ r = .tup [.elem (wCells t (truthsT t) es), i6 0])) := by
  refine fn_of hmix fc103 (by simp) ?_
  rw [ienv1]
  simp only [go_sem, reduceIte, reduceCtorEq, Nat.reduceEqDiff, Nat.reduceBEq, Nat.reduceAdd, Nat.reduceMul, Nat.reduceLeDiff, ac103, eT]
  refine v_box _ rfl fun b1 hb1 => ?_
  simp only [go_sem, reduceIte, reduceCtorEq, Nat.reduceEqDiff, Nat.reduceBEq, Nat.reduceAdd, Nat.reduceMul, Nat.reduceLeDiff]
  refine (checkTable_c t hs).go ?_
  by_cases c1 : checkTable t = 0
  rotate_left
  · simp only [go_sem, reduceIte, reduceCtorEq, Nat.reduceEqDiff, Nat.reduceBEq, Nat.reduceAdd, Nat.reduceMul, Nat.reduceLeDiff, c1]
    refine fin_ret2 2 3 (by simp [upd_at]) ⟨_, H, Settle.refl ((Ext.refl H).new hb1 _), rfl, .inl ⟨by simp [askErr, c1], ?_⟩⟩
    simp [upd_at, askErr, c1]
  obtain ⟨hw5, hp7⟩ := checkTable_len c1
  simp only [go_sem, reduceIte, reduceCtorEq, Nat.reduceEqDiff, Nat.reduceBEq, Nat.reduceAdd, Nat.reduceMul, Nat.reduceLeDiff, c1]
  refine v_mkmap fun bm hbm => ?_
  have n1m : b1 ≠ bm := fun h => by subst h; simp at hbm
  simp only [go_sem, reduceIte, reduceCtorEq, Nat.reduceEqDiff, Nat.reduceBEq, Nat.reduceAdd, Nat.reduceMul, Nat.reduceLeDiff, bc103, Option.map_some]
  refine v_box _ rfl fun bw hbw => ?_
  have n1w : b1 ≠ bw := fun h => by subst h; simp [updH, n1m] at hbw
  have nmw : bm ≠ bw := fun h => by subst h; simp at hbw
  simp only [go_sem, reduceIte, reduceCtorEq, Nat.reduceEqDiff, Nat.reduceBEq, Nat.reduceAdd, Nat.reduceMul, Nat.reduceLeDiff]
  refine v_alloc fun b5 hb5 => ?_
  have n15 : b1 ≠ b5 := fun h => by subst h; simp [updH, n1m, n1w] at hb5
  have nm5 : bm ≠ b5 := fun h => by subst h; simp [updH, nmw] at hb5
  have nw5 : bw ≠ b5 := fun h => by subst h; simp at hb5
  simp only [go_sem, reduceIte, reduceCtorEq, Nat.reduceEqDiff, Nat.reduceBEq, Nat.reduceAdd, Nat.reduceMul, Nat.reduceLeDiff]
  rw [v_store]
  refine ⟨rfl, rfl, by simp [AV.cells, AV.isCell], _, updH_same _ _ _, by simp, ?_⟩
  rw [show (AV.ptr bw 0).cells = [.ptr bw 0] from rfl, placeAll [.nilp] [.ptr bw 0] rfl]
  simp only [go_sem, reduceIte, reduceCtorEq, Nat.reduceEqDiff, Nat.reduceBEq, Nat.reduceAdd, Nat.reduceMul, Nat.reduceLeDiff, updH_ne _ _ n1m, updH_ne _ _ n1w, updH_ne _ _ n15]
  have z1 : H b1 = none := hb1
  have e1 := (Ext.refl H).new hb1 (.box [.slice (t.women.map eW), .slice (t.pieces.map eP), i6 t.wrong])
  have zm : H bm = none := e1.isNone hbm
  have e2 := e1.new hbm (.map [] none)
  have zw : H bw = none := e2.isNone hbw
  have e3 := e2.new hbw (.box [.slice (t.women.map eW), .slice (t.pieces.map eP), i6 t.wrong, .emp, .mptr bm])
  have z5 : H b5 = none := e3.isNone hb5
  have e5 := (e3.new hb5 (.box [.nilp])).upd z5 (.box [.ptr bw 0])
  refine (lists_c t).go ?_
  simp only [go_sem, reduceIte, reduceCtorEq, Nat.reduceEqDiff, Nat.reduceBEq, Nat.reduceAdd, Nat.reduceMul, Nat.reduceLeDiff, x_range]
  generalize hHH : updH (updH (updH (updH (updH H b1 (.box [.slice (t.women.map eW), .slice (t.pieces.map eP), i6 t.wrong])) bm (.map [] none)) bw (.box [.slice (t.women.map eW), .slice (t.pieces.map eP), i6 t.wrong, .emp, .mptr bm])) b5 (.box [.nilp])) b5 (.box [.ptr bw 0]) = HH at e5 ⊢
  have B1 : HH b1 = some (.box [.slice (t.women.map eW), .slice (t.pieces.map eP), i6 t.wrong]) := by subst hHH; simp [updH, n1m, n1w, n15]
  have Bm : HH bm = some (.map [] none) := by subst hHH; simp [updH, nmw, nm5]
  have Bw : HH bw = some (.box [.slice (t.women.map eW), .slice (t.pieces.map eP), i6 t.wrong, .emp, .mptr bm]) := by subst hHH; simp [updH, nw5]
  have B5 : HH b5 = some (.box [.ptr bw 0]) := by subst hHH; simp [updH]
  clear hHH
  refine ⟨by simp [upd_at], 165, [], [.elem (tCells t)], by simp [upd_at, ev], fun r l hr hl hlr => ?_⟩
  have n1r : b1 ≠ r := fun h => by subst h; rw [B1] at hr; cases hr
  have nmr : bm ≠ r := fun h => by subst h; rw [Bm] at hr; cases hr
  have nwr : bw ≠ r := fun h => by subst h; rw [Bw] at hr; cases hr
  have n5r : b5 ≠ r := fun h => by subst h; rw [B5] at hr; cases hr
  have n1l : b1 ≠ l := fun h => by subst h; rw [B1] at hl; cases hl
  have nml : bm ≠ l := fun h => by subst h; rw [Bm] at hl; cases hl
  have nwl : bw ≠ l := fun h => by subst h; rw [Bw] at hl; cases hl
  have n5l : b5 ≠ l := fun h => by subst h; rw [B5] at hl; cases hl
  have zr : H r = none := e5.isNone hr
  have zl : H l = none := e5.isNone hl
  generalize henv : upd (upd _ _ _) 18 _ = env0
  have g1 : env0 1 = .ptr b1 0 := by subst henv; simp [upd_at]
  have g5 : env0 5 = .ptr b5 0 := by subst henv; simp [upd_at]
  have J0 : JA t (rangeF Tryz.f103).1 (rangeF Tryz.f103).2 env0 r l b1 b5 bw bm [] (fun x => x = l ∨ x = r ∨ x = b1 ∨ x = b5 ∨ x = bw ∨ x = bm) (updH (updH HH r .deferd) l (.loop .ready none 88 env0 #[19] (rangeF Tryz.f103).1 (rangeF Tryz.f103).2 r)) := by
    have m1 := (updH_ne (updH HH r .deferd) (.loop .ready none 88 env0 #[19] (rangeF Tryz.f103).1 (rangeF Tryz.f103).2 r) hlr.symm).trans (updH_same HH r .deferd)
    have m2 : ∀ x, x ≠ l → x ≠ r → updH (updH HH r .deferd) l (.loop .ready none 88 env0 #[19] (rangeF Tryz.f103).1 (rangeF Tryz.f103).2 r) x = HH x := fun x h1 h2 => by rw [updH_ne _ _ h1, updH_ne _ _ h2]
    refine ⟨?_, .inl rfl, .inr (.inl rfl), .inr (.inr (.inl rfl)), .inr (.inr (.inr (.inl rfl))), .inr (.inr (.inr (.inr (.inl rfl)))), .inr (.inr (.inr (.inr (.inr rfl)))), updH_same _ _ _, m1, (m2 _ n1l n1r).trans B1, (m2 _ n5l n5r).trans B5, .emp, [], (m2 _ nwl nwr).trans Bw, .inl ⟨rfl, rfl⟩, (by intro b cap es' h; cases h), (m2 _ nml nmr).trans Bm, ?_⟩
    · rintro x (rfl | rfl | rfl | rfl | rfl | rfl)
      · exact ⟨_, updH_same _ _ _⟩
      · exact ⟨_, m1⟩
      · exact ⟨_, (m2 _ n1l n1r).trans B1⟩
      · exact ⟨_, (m2 _ n5l n5r).trans B5⟩
      · exact ⟨_, (m2 _ nwl nwr).trans Bw⟩
      · exact ⟨_, (m2 _ nml nmr).trans Bm⟩
    · intro i hi k; simp [findKey', truthsUpto]
  have hcall := listsGo_c t hs hp7 (ask_taker t hs c1 env0 r l b1 b5 bw bm g1 g5) _ _ J0
  refine hcall.mono ?_
  rintro _ H2 ⟨rfl, F', hF, hkeep, hcase⟩
  rcases hcase with J | ⟨l1, l2, _, hf⟩
  rotate_left
  · exact hf.elim
  refine ⟨_, _, _, _, _, _, _, J.hl, by simp, .norm, rfl, ?_⟩
  have hFn : ∀ x, F' x → H x = none := fun x hx => by
    rcases hF x hx with h | h
    · rcases h with rfl | rfl | rfl | rfl | rfl | rfl <;> assumption
    · have h1 : x ≠ l := fun h' => by rw [h', updH_same] at h; cases h
      rw [updH_ne _ _ h1] at h
      have h2 : x ≠ r := fun h' => by rw [h', updH_same] at h; cases h
      rw [updH_ne _ _ h2] at h
      exact e5.isNone h
  have hExt : ∀ x o, H x = some o → H2 x = some o := fun x o hx => by
    have hne : ∀ y, H y = none → x ≠ y := fun y hy h => by rw [h, hy] at hx; cases hx
    rw [hkeep x (by rintro (h | h | h | h | h | h) <;> exact hne _ (by assumption) h) ⟨o, by rw [updH_ne _ _ (hne _ zl), updH_ne _ _ (hne _ zr)]; exact e5 x o hx⟩, updH_ne _ _ (hne _ zl), updH_ne _ _ (hne _ zr)]
    exact e5 x o hx
  have hExt2 : Ext H (delH (delH H2 l) r) := fun x o hx => by
    rw [delH_ne _ (fun h => by rw [h, zr] at hx; cases hx), delH_ne _ (fun h => by rw [h, zl] at hx; cases hx)]
    exact hExt x o hx
  obtain ⟨v, es, k1, k2, k3, k4, k5⟩ := J.rest
  have K5 : delH H2 l b5 = some (.box [.ptr bw 0]) := (delH_ne _ n5l).trans J.h5
  have Kw : delH H2 l bw = some (.box [.slice (t.women.map eW), .slice (t.pieces.map eP), i6 t.wrong, v, .mptr bm]) := (delH_ne _ nwl).trans k1
  have Kr : delH H2 l r = some .deferd := (delH_ne _ hlr.symm).trans J.hr
  have hlenv : ∀ H', detV .len [v] H' = some (i6 (truthsT t).length) := fun H' => by rw [k2.len H']; simp [eTr, truthsT, allO]
  have hz : askErr t = 0 ↔ (truthsT t).length ≠ 0 := by
    simp only [askErr, c1, if_true]
    by_cases h : truthsT t = []
    · simp [h]
    · simp [h, List.length_eq_zero_iff]
  by_cases c2 : ((truthsT t).length : Int) = 0
  · have hne : askErr t = 11 := by
      have : truthsT t = [] := List.length_eq_zero_iff.1 (by omega)
      simp [askErr, c1, this]
    simp only [go_sem, reduceIte, reduceCtorEq, Nat.reduceEqDiff, Nat.reduceBEq, Nat.reduceAdd, Nat.reduceMul, Nat.reduceLeDiff, g1, g5, K5, Kw, take_f', drop_at, List.getElem?_cons_zero, List.getElem?_cons_succ, hlenv, c2]
    refine fin_def2 2 3 r (by simp [upd_at]) Kr ⟨_, H, Settle.refl hExt2, rfl, .inl ⟨by rw [hne]; omega, ?_⟩⟩
    simp [upd_at, hne]
  · have hne : askErr t = 0 := hz.2 (by omega)
    simp only [go_sem, reduceIte, reduceCtorEq, Nat.reduceEqDiff, Nat.reduceBEq, Nat.reduceAdd, Nat.reduceMul, Nat.reduceLeDiff, g1, g5, K5, Kw, take_f', drop_at, List.getElem?_cons_zero, List.getElem?_cons_succ, hlenv, c2]
    refine fin_def2 2 3 r (by simp [upd_at]) Kr ⟨.tup [.elem (wCells t (truthsT t) es), i6 0], H, ?_, rfl, .inr ⟨hne, es, k5, rfl⟩⟩
    simp only [upd_at, if_true, Nat.reduceEqDiff, if_false]
    refine settle_tup hExt2 fun w u hH hr => ?_
    have Kw' : delH (delH H2 l) r bw = some (.box [.slice (t.women.map eW), .slice (t.pieces.map eP), i6 t.wrong, v, .mptr bm]) := (delH_ne _ nwr).trans Kw
    have Km' : delH (delH H2 l) r bm = some (.map es none) := ((delH_ne _ nmr).trans (delH_ne _ nml)).trans k4
    have hG : Grown 7 H (delH (delH H2 l) r) v (eTr (truthsT t)) := by
      have h1 : Grown 7 H H2 v (eTr (truthsT t)) := k2.to fun b cap es' h => hFn b (k3 b cap es' h)
      refine h1.of fun b n sz cap hb => ?_
      rw [delH_ne _ (fun h => by rw [h, J.hr] at hb; cases hb), delH_ne _ (fun h => by rw [h, J.hl] at hb; cases hb)]; exact hb
    refine rep_elem' hH Kw' zw rfl (fun i x x' hx hx' u hu => ?_) hr
    match i, hx, hx' with
    | 0, hx, hx' => cases hx; cases hx'; exact hu.mono (Evolve.drop hExt2)
    | 1, hx, hx' => cases hx; cases hx'; exact hu.mono (Evolve.drop hExt2)
    | 2, hx, hx' => cases hx; cases hx'; exact hu.mono (Evolve.drop hExt2)
    | 3, hx, hx' => cases hx; cases hx'; exact (hG.weaken hExt2).2 w u hH hu
    | 4, hx, hx' => cases hx; cases hx'; exact (settle_map Km' hExt2 zm).2 w u hH hu
end Go.Lift

set_option linter.unusedSimpArgs false
set_option linter.unusedVariables false
namespace Go.Lift
open Go Go.Proofs
/-- Rows that grow, each in a place of its own. -/
structure Rows (H0 H : AHeap) (vs : List AV) (rows : Nat → List Int) : Prop where
  row : ∀ (i : Nat) (v : AV), vs[i]? = some v → Grown 1 H0 H v (eI (rows i))
  apart : ∀ (i j b b' c c' : Nat) (e e' : List (List AV)), i ≠ j → vs[i]? = some (.grow b c e) → vs[j]? = some (.grow b' c' e') → b ≠ b'
theorem Rows.of {H0 H H' : AHeap} {vs : List AV} {rows : Nat → List Int} (r : Rows H0 H vs rows) (h : ∀ b n s c, H b = some (.tail n s c) → H' b = some (.tail n s c)) : Rows H0 H' vs rows :=
  ⟨fun i v hi => (r.row i v hi).of h, r.apart⟩
theorem v_append_row {P : Program} {R : AV → AHeap → Prop} {H0 H : AHeap} {vs : List AV} {rows : Nat → List Int} (r : Rows H0 H vs rows) (e : Ext H0 H) (i : Nat) (v : AV) (k : Int) (hv : vs[i]? = some v) (hl : (rows i).length ≤ 2147483648)
    (h : ∀ v' H', Rows H0 H' (vs.set i v') (fun j => if j = i then rows i ++ [k] else rows j) → Ext H0 H' → (∀ x o, H x = some o → (∀ n s c, o ≠ .tail n s c) → H' x = some o) → v'.ok = true ∧ v'.cells = [v'] ∧ v'.isCell = true → R v' H') : aopV P (.append 1 8) [v, .slice [[i6 k]]] H R := by
  have hg := r.row i v hv
  have hi : i < vs.length := by
    rcases Nat.lt_or_ge i vs.length with h | h
    · exact h
    · rw [List.getElem?_eq_none h] at hv; cases hv
  have hg2 : Grown 1 (outer (fun x => ∃ cap es, v = .grow x cap es) H) H v (eI (rows i)) := hg.to fun b cap es' h => outer_in ⟨cap, es', h⟩
  refine v_append hg2 (ext_outer _ _) rfl (eI_good _) (one_good k) (one_cell k) (by simp; omega) (by simp; omega) fun v' H' g' e' _ => ?_
  have keep : ∀ x o, H x = some o → (∀ n s c, o ≠ .tail n s c) → H' x = some o := fun x o hx ho => e' x o (by
    rw [outer_out]; exact hx
    rintro ⟨cap, es, rfl⟩
    rcases hg with ⟨h1, _⟩ | ⟨b', cap', h1, _, h3⟩
    · cases h1
    · cases h1; rw [hx] at h3; cases h3; exact ho _ _ _ rfl)
  have hE : Ext H0 H' := fun x o hx => e' x o (by
    rw [outer_out]; exact e x o hx
    rintro ⟨cap, es, rfl⟩
    rcases hg with ⟨h1, _⟩ | ⟨b', cap', h1, h2, _⟩
    · cases h1
    · cases h1; rw [hx] at h2; cases h2)
  have other : ∀ (j b c : Nat) (e : List (List AV)), j ≠ i → vs[j]? = some (.grow b c e) → H b = some (.tail e.length 1 c) ∧ outer (fun x => ∃ cap es, v = .grow x cap es) H b = H b := fun j b c e hj hb => by
    have h1 := r.row j _ hb
    rcases h1 with ⟨h1, _⟩ | ⟨b', cap', h1, h2, h3⟩
    · cases h1
    · cases h1
      refine ⟨h3, outer_out ?_⟩
      rintro ⟨cap, es, rfl⟩
      exact r.apart j i _ _ _ _ _ _ hj hb hv rfl
  refine h v' H' ⟨fun j u hu => ?_, fun j1 j2 b b' c c' e1 e2 hne h1 h2 => ?_⟩ hE keep g'.cellv
  · by_cases hj : j = i
    · subst hj
      rw [List.getElem?_set_self hi, Option.some.injEq] at hu
      subst hu
      simp only [if_true]
      rw [eI_app]
      refine Grown.to (H0 := outer (fun x => ∃ cap es, v = .grow x cap es) H) (show Grown 1 _ H' v' (eI (rows j) ++ eI [k]) from g') fun b cap es' hb => ?_
      subst hb
      rcases g' with ⟨h1, _⟩ | ⟨b', cap', h1, h2, _⟩
      · cases h1
      · cases h1
        rcases outer_none h2 with ⟨cap, es, rfl⟩ | h3
        · rcases hg with ⟨h4, _⟩ | ⟨b5, cap5, h4, h5, _⟩
          · cases h4
          · cases h4; exact h5
        · exact e.isNone h3
    · rw [List.getElem?_set_ne (fun h => hj h.symm)] at hu
      simp only [hj, if_false]
      rcases r.row j u hu with ⟨h1, h2⟩ | ⟨b, cap, rfl, h2, h3⟩
      · exact .inl ⟨h1, h2⟩
      · have := other j b cap _ hj hu
        exact .inr ⟨b, cap, rfl, h2, e' b _ (by rw [this.2]; exact h3)⟩
  · have fresh : ∀ (j b c b' c' : Nat) (e e1 : List (List AV)), j ≠ i → vs[j]? = some (.grow b c e) → v' = .grow b' c' e1 → b' ≠ b := by
      intro j b c b' c' e e1 hj hb hv' hbb
      subst hbb
      have ho := other j b' c e hj hb
      rcases g' with ⟨h1, _⟩ | ⟨b2, cap2, h1, h2, _⟩
      · rw [hv'] at h1; cases h1
      · rw [hv'] at h1; cases h1
        rw [ho.2, ho.1] at h2; cases h2
    by_cases hj1 : j1 = i
    · subst hj1
      rw [List.getElem?_set_self hi, Option.some.injEq] at h1
      rw [List.getElem?_set_ne hne] at h2
      exact fresh j2 b' c' b c e2 e1 (Ne.symm hne) h2 h1
    · by_cases hj2 : j2 = i
      · subst hj2
        rw [List.getElem?_set_self hi, Option.some.injEq] at h2
        rw [List.getElem?_set_ne (fun h => hj1 h.symm)] at h1
        exact (fresh j1 b c b' c' e1 e2 hj1 h1 h2).symm
      · rw [List.getElem?_set_ne (fun h => hj1 h.symm)] at h1
        rw [List.getElem?_set_ne (fun h => hj2 h.symm)] at h2
        exact r.apart j1 j2 b b' c c' e1 e2 hne h1 h2

/-- Who owns a piece in some truth, of the first so many women. -/
def whoIs (t : Table) (i m : Nat) : List Int := ((List.range m).filter fun k : Nat => (truthsT t).any fun q => decide (q.getD i 0 = (k : Int))).map Int.ofNat
theorem whoIs_succ (t : Table) (i m : Nat) : whoIs t i (m + 1) = whoIs t i m ++ (if ((truthsT t).any fun q => decide (q.getD i 0 = (m : Int))) = true then [(m : Int)] else []) := by
  simp only [whoIs, List.range_succ, List.filter_append, List.map_append]
  congr 1
  cases h : (truthsT t).any fun q => decide (q.getD i 0 = (m : Int)) <;> simp only [List.filter_cons, h, List.filter_nil] <;> simp
theorem whoIs_len (t : Table) (i m : Nat) : (whoIs t i m).length ≤ m := by
  simp only [whoIs, List.length_map]
  exact Nat.le_trans (List.length_filter_le _ _) (by simp)
def whoseT (t : Table) : List (List Int) := (List.range t.pieces.length).map fun i => whoIs t i t.women.length
def eII (l : List (List Int)) : AV := .slice (l.map fun x => [.slice (eI x)])
def whoseR (t : Table) : AV := if askErr t = 0 then .tup [eII (whoseT t), i6 0] else .tup [.emp, i6 (askErr t)]
def rowsAt (t : Table) (i j : Nat) : Nat → List Int := fun i' => if i' < i then whoIs t i' t.women.length else if i' = i then whoIs t i j else []
theorem settle_mslice' {H1 H2 : AHeap} {b n cap : Nat} {cs cs' : List AV} (hb : H1 b = some (.box cs)) (e : Ext H2 H1) (hn : H2 b = none) (hl : cs.length = n) (hl' : cs'.length = n) (hc : n ≤ cap)
    (hcs : ∀ (i : Nat) (x x' : AV), cs[i]? = some x → cs'[i]? = some x' → ∀ w u, HRel H1 w → Rep H1 w u x → Rep H2 w u x') :
    ∀ w v, HRel H1 w → Rep H1 w v (.mslice b 0 n cap) → Rep H2 w v (.slice (cs'.map fun x => [x])) := by
  intro w v hH hr
  cases hr
  obtain ⟨b', off', hv, vs, hvs⟩ := cellsAt_rep hH (Rep.ptr (w := w) b 0) (at_ptr hb (Nat.zero_le _))
  cases hv
  have hlen : n = (cs'.map fun x => [x]).length := by simp [hl']
  rw [hlen]
  refine Rep.slice b 0 cap 1 (cs'.map fun x => [x]) (fun i j => vs i) (by simp [hl', hc]) (by simp) (fun i j hi hj => ?_) (fun i j e' x he hx => ?_)
  · simp only [List.length_map] at hi
    have hj0 : j = 0 := by omega
    subst hj0
    have := (hvs i cs[i] (by simp [show i < cs.length by omega])).1
    refine ⟨.inl hn, ?_⟩
    simpa using this
  · rw [List.getElem?_map] at he
    cases hci : cs'[i]? with
    | none => rw [hci] at he; simp at he
    | some y =>
      rw [hci] at he
      simp only [Option.map_some, Option.some.injEq] at he
      subst he
      cases j with
      | zero =>
        simp only [List.getElem?_cons_zero, Option.some.injEq] at hx
        subst hx
        have hi : i < cs.length := by
          rcases Nat.lt_or_ge i cs.length with h | h
          · exact h
          · rw [List.getElem?_eq_none (by omega)] at hci; cases hci
        exact hcs i cs[i] y (by simp [hi]) hci w _ hH ((hvs i cs[i] (by simp [hi])).2)
      | succ j => simp at hx
end Go.Lift

set_option linter.unusedSimpArgs false
set_option linter.unusedVariables false
namespace Go.Lift
open Go Go.Proofs
theorem rowsAt_add {t : Table} {i j : Nat} (h : ((truthsT t).any fun q => decide (q.getD i 0 = (j : Int))) = true) : (fun i' => if i' = i then rowsAt t i j i ++ [(j : Int)] else rowsAt t i j i') = rowsAt t i (j + 1) := by
  funext i'
  by_cases h1 : i' = i
  · subst h1; simp only [if_true, rowsAt, Nat.lt_irrefl, if_false]; rw [whoIs_succ, if_pos h]
  · simp only [h1, if_false, rowsAt]
theorem rowsAt_same {t : Table} {i j : Nat} (h : ((truthsT t).any fun q => decide (q.getD i 0 = (j : Int))) = false) : rowsAt t i j = rowsAt t i (j + 1) := by
  funext i'
  by_cases h1 : i' = i
  · subst h1; simp only [if_true, rowsAt, Nat.lt_irrefl, if_false]; rw [whoIs_succ, if_neg (by rw [h]; simp), List.append_nil]
  · simp only [h1, if_false, rowsAt]
theorem rowsAt_next {t : Table} {i : Nat} : rowsAt t i t.women.length = rowsAt t (i + 1) 0 := by
  funext i'
  simp only [rowsAt]
  by_cases h1 : i' < i
  · rw [if_pos h1, if_pos (by omega)]
  · by_cases h2 : i' = i
    · subst h2; rw [if_neg h1, if_pos rfl, if_pos (by omega)]
    · rw [if_neg h1, if_neg h2, if_neg (by omega)]
      by_cases h3 : i' = i + 1
      · rw [if_pos h3]; simp [whoIs]
      · rw [if_neg h3]
theorem any_count (tr : List (List Int)) (i : Nat) (k : Int) : (0 : Int) < ((tr.countP fun q => decide (q.getD i 0 = k) : Nat) : Int) ↔ (tr.any fun q => decide (q.getD i 0 = k)) = true := by
  rw [List.any_eq_true]
  have : 0 < (tr.countP fun q => decide (q.getD i 0 = k)) ↔ ∃ x ∈ tr, decide (x.getD i 0 = k) = true := List.countP_pos_iff
  rw [← this]; omega
theorem whose_c (t : Table) (hs : TSm t) : Pure Tryz.prog 45 [eT t] (whoseR t) := by
  intro H
  refine fn_of hmix fc45 (by simp) ?_
  rw [ienv1]
  simp only [go_sem, reduceIte, reduceCtorEq, Nat.reduceEqDiff, Nat.reduceBEq, Nat.reduceAdd, Nat.reduceMul, Nat.reduceLeDiff, ac45, eT]
  refine v_box _ rfl fun b1 hb1 => ?_
  simp only [go_sem, reduceIte, reduceCtorEq, Nat.reduceEqDiff, Nat.reduceBEq, Nat.reduceAdd, Nat.reduceMul, Nat.reduceLeDiff]
  have e1 := (Ext.refl H).new hb1 (.box [.slice (t.women.map eW), .slice (t.pieces.map eP), i6 t.wrong])
  refine (asked_c t hs _).mono ?_
  rintro _ _ ⟨rfl, ⟨hne, rfl⟩ | ⟨heq, es, hcnt, rfl⟩⟩
  · simp only [go_sem, reduceIte, reduceCtorEq, Nat.reduceEqDiff, Nat.reduceBEq, Nat.reduceAdd, Nat.reduceMul, Nat.reduceLeDiff, List.getElem?_cons_zero, List.getElem?_cons_succ, hne]
    refine fin_ret2 2 3 (by simp [upd_at]) ⟨_, H, Settle.refl e1, ?_, rfl⟩
    simp [upd_at, whoseR, hne]
  have hc0 : checkTable t = 0 := by
    by_cases h : checkTable t = 0
    · exact h
    · simp only [askErr, h, if_false] at heq
  obtain ⟨hw5, hp7⟩ := checkTable_len hc0
  simp only [go_sem, reduceIte, reduceCtorEq, Nat.reduceEqDiff, Nat.reduceBEq, Nat.reduceAdd, Nat.reduceMul, Nat.reduceLeDiff, List.getElem?_cons_zero, List.getElem?_cons_succ, heq, wCells]
  refine ⟨by omega, by omega, by omega, fun b3 hb3 => ?_⟩
  have n13 : b1 ≠ b3 := fun h => by subst h; simp at hb3
  have z3 : H b3 = none := e1.isNone hb3
  simp only [go_sem, reduceIte, reduceCtorEq, Nat.reduceEqDiff, Nat.reduceBEq, Nat.reduceAdd, Nat.reduceMul, Nat.reduceLeDiff]
  have hfl : (List.replicate t.pieces.length [AV.emp]).flatten = List.replicate t.pieces.length AV.emp := by
    generalize t.pieces.length = n
    induction n with
    | zero => rfl
    | succ n ih => rw [List.replicate_succ, List.flatten_cons, ih]; rfl
  rw [hfl]
  refine x_for t.pieces.length (fun i env H1 => Ext H H1 ∧ H1 b1 = some (.box [.slice (t.women.map eW), .slice (t.pieces.map eP), i6 t.wrong]) ∧ (∃ vs, H1 b3 = some (.box vs) ∧ vs.length = t.pieces.length ∧ Rows H H1 vs (rowsAt t i 0)) ∧
      env 1 = .ptr b1 0 ∧ env 4 = .elem [.slice (t.women.map eW), .slice (t.pieces.map eP), i6 t.wrong, .slice (eTr (truthsT t)), .amap es] ∧ env 6 = .mslice b3 0 t.pieces.length t.pieces.length ∧ env 22 = i6 t.pieces.length ∧ env 23 = i6 i ∧ env 54 = .any)
    ⟨e1.new hb3 _, by rw [updH_ne _ _ n13]; exact updH_same _ _ _, ⟨_, updH_same _ _ _, by simp, ⟨fun i v hi => ?_, fun i j b b' c c' e e' _ hi => ?_⟩⟩, by simp [upd_at], by simp [upd_at], by simp [upd_at], by simp [upd_at], by simp [upd_at], by simp [upd_at]⟩ ?_
  · rw [List.getElem?_replicate] at hi
    split at hi
    · cases hi; refine .inl ⟨rfl, ?_⟩
      simp only [rowsAt, Nat.not_lt_zero, if_false, whoIs, List.range_zero, List.filter_nil, List.map_nil]; split <;> rfl
    · cases hi
  · rw [List.getElem?_replicate] at hi
    split at hi <;> cases hi
  rintro i env H1 hi ⟨hE, hB1, ⟨vs, hB3, hvl, hR⟩, g1, g4, g6, g22, g23, hN⟩
  by_cases hlt : (i : Int) < (t.pieces.length : Int)
  rotate_left
  · have hi' : i = t.pieces.length := by omega
    subst hi'
    simp only [go_sem, reduceIte, reduceCtorEq, Nat.reduceEqDiff, Nat.reduceBEq, Nat.reduceAdd, Nat.reduceMul, Nat.reduceLeDiff, g1, g4, g6, g22, g23, hN, hlt]
    refine fin_ret2 2 3 (by simp [upd_at, hN]) ⟨_, H, ?_, rfl, rfl⟩
    simp only [upd_at, if_true, Nat.reduceEqDiff, if_false, whoseR, heq]
    refine settle_tup hE fun w u hH hr => ?_
    have hcs := settle_mslice' (cs' := (whoseT t).map fun l => .slice (eI l)) hB3 hE z3 hvl (by simp [whoseT]) (Nat.le_refl _) (fun i x x' hx hx' w u hH hu => by
      have hi : i < t.pieces.length := by
        rcases Nat.lt_or_ge i t.pieces.length with h | h
        · exact h
        · rw [List.getElem?_eq_none (by omega)] at hx; cases hx
      simp only [whoseT, List.map_map, List.getElem?_map, List.getElem?_range hi, Option.map_some, Option.some.injEq] at hx'
      subst hx'
      have := hR.row i x hx
      simp only [rowsAt, hi, if_true] at this
      exact (this.weaken hE).2 w u hH hu) w u hH hr
    simpa [eII, List.map_map, Function.comp_def] using hcs
  have hlti : i < t.pieces.length := by omega
  simp only [go_sem, reduceIte, reduceCtorEq, Nat.reduceEqDiff, Nat.reduceBEq, Nat.reduceAdd, Nat.reduceMul, Nat.reduceLeDiff, g1, g4, g6, g22, g23, hN, hlt, hB1]
  refine x_for t.women.length (fun j env H1 => Ext H H1 ∧ H1 b1 = some (.box [.slice (t.women.map eW), .slice (t.pieces.map eP), i6 t.wrong]) ∧ (∃ vs, H1 b3 = some (.box vs) ∧ vs.length = t.pieces.length ∧ Rows H H1 vs (rowsAt t i j)) ∧
      env 1 = .ptr b1 0 ∧ env 4 = .elem [.slice (t.women.map eW), .slice (t.pieces.map eP), i6 t.wrong, .slice (eTr (truthsT t)), .amap es] ∧ env 6 = .mslice b3 0 t.pieces.length t.pieces.length ∧ env 7 = i6 i ∧ env 22 = i6 t.pieces.length ∧ env 23 = i6 i ∧ env 28 = i6 t.women.length ∧ env 29 = i6 j ∧ env 54 = .any)
    ⟨hE, hB1, ⟨vs, hB3, hvl, hR⟩, by simp [upd_at, g1], by simp [upd_at, g4], by simp [upd_at, g6], by simp [upd_at, g23], by simp [upd_at, g22], by simp [upd_at, g23], by simp [upd_at], by simp [upd_at], by simp [upd_at, hN]⟩ ?_
  clear hE hB1 hB3 hvl hR vs g1 g4 g6 g22 g23 hN hlt hi env H1
  rintro j env H1 hj ⟨hE, hB1, ⟨vs, hB3, hvl, hR⟩, g1, g4, g6, g7, g22, g23, g28, g29, hN⟩
  by_cases hlt : (j : Int) < (t.women.length : Int)
  rotate_left
  · have hj' : j = t.women.length := by omega
    subst hj'
    simp only [go_sem, reduceIte, reduceCtorEq, Nat.reduceEqDiff, Nat.reduceBEq, Nat.reduceAdd, Nat.reduceMul, Nat.reduceLeDiff, g1, g4, g6, g7, g22, g23, g28, g29, hN, hlt, wsucc (show i < 4611686018427387904 by omega), hlti]
    exact ⟨hE, hB1, vs, hB3, hvl, by rw [← rowsAt_next]; exact hR⟩
  have hltj : j < t.women.length := by omega
  have hval := hcnt i hlti (j : Int)
  have hany := any_count (truthsT t) i (j : Int)
  have h0 : (if i < 0 ∧ ([] : List Int).getD i 0 = (j : Int) then 1 else 0) = 0 := by simp
  rw [h0, Nat.add_zero] at hval
  cases hex : (truthsT t).any fun q => decide (q.getD i 0 = (j : Int))
  · have hnp : ¬ ((0 : Int) < ((truthsT t).countP fun q => decide (q.getD i 0 = (j : Int)) : Nat)) := fun h => by rw [hany.1 h] at hex; cases hex
    simp only [go_sem, reduceIte, reduceCtorEq, Nat.reduceEqDiff, Nat.reduceBEq, Nat.reduceAdd, Nat.reduceMul, Nat.reduceLeDiff, g1, g4, g6, g7, g22, g23, g28, g29, hN, hlt, bc2, Option.map_some, d_lookup, hval, hnp, wsucc (show j < 4611686018427387904 by omega), hltj, take_f', List.getElem?_cons_zero]
    exact ⟨hE, hB1, vs, hB3, hvl, by rw [← rowsAt_same hex]; exact hR⟩
  · have hnp : ((0 : Int) < ((truthsT t).countP fun q => decide (q.getD i 0 = (j : Int)) : Nat)) := hany.2 hex
    have hgv : vs[i]? = some (vs.getD i .any) := by simp [show i < vs.length by omega]
    simp only [go_sem, reduceIte, reduceCtorEq, Nat.reduceEqDiff, Nat.reduceBEq, Nat.reduceAdd, Nat.reduceMul, Nat.reduceLeDiff, g1, g4, g6, g7, g22, g23, g28, g29, hN, hlt, bc2, Option.map_some, d_lookup, hval, hnp, take_f', List.getElem?_cons_zero, show (i : Int) < (t.pieces.length : Int) by omega, Nat.mul_one, hB3, hvl, show i ≤ t.pieces.length by omega, drop_at, hgv]
    have hrl : (rowsAt t i j i).length ≤ 2147483648 := by
      have := whoIs_len t i j
      simp only [rowsAt, Nat.lt_irrefl, if_false, if_true]; omega
    refine v_append_row hR hE i _ j hgv hrl ?_
    intro v' H2 hR' hE' hkeep hcv
    have K1 := hkeep b1 _ hB1 (by intros; simp)
    have K3 := hkeep b3 _ hB3 (by intros; simp)
    simp only [go_sem, reduceIte, reduceCtorEq, Nat.reduceEqDiff, Nat.reduceBEq, Nat.reduceAdd, Nat.reduceMul, Nat.reduceLeDiff, g1, g4, g6, g7, g22, g23, g28, g29, hN, show (i : Int) < (t.pieces.length : Int) by omega, Nat.mul_one]
    rw [v_store]
    refine ⟨hcv.1, by rw [hcv.2.1]; rfl, by rw [hcv.2.1]; intro y hy; simp at hy; subst hy; exact hcv.2.2, _, K3, by omega, ?_⟩
    rw [hcv.2.1, placeAt_set _ _ _ (by omega)]
    simp only [go_sem, reduceIte, reduceCtorEq, Nat.reduceEqDiff, Nat.reduceBEq, Nat.reduceAdd, Nat.reduceMul, Nat.reduceLeDiff, g1, g4, g6, g7, g22, g23, g28, g29, hN, wsucc (show j < 4611686018427387904 by omega), hltj, updH_ne _ _ n13, K1]
    refine ⟨hE'.upd z3 _, _, rfl, by simp [hvl], ?_⟩
    rw [← rowsAt_add hex]
    refine hR'.of fun b n s c hb => ?_
    rw [updH_ne _ _ (fun h => by rw [h, K3] at hb; cases hb)]; exact hb
end Go.Lift

set_option linter.unusedSimpArgs false
set_option linter.unusedVariables false
namespace Go.Lift
open Go Go.Proofs
def bigH (h : House) : Prop := 5 < h.last ∨ 10 < h.others ∨ 6 < (h.touches.length : Int) ∨ 4 < (h.boiled.length : Int) ∨ 5 < (h.signs.length : Int)
instance (h : House) : Decidable (bigH h) := by unfold bigH; infer_instance
def badH (h : House) : Prop := h.last < 0 ∨ h.others < 0 ∨ 10 < thingsW h ∨ risingOK h.sick h.table.women.length = false
instance (h : House) : Decidable (badH h) := by unfold badH; infer_instance
def boilOK (h : House) (x : Boiling) : Bool := thingOK h x.thing && hourOK h x.hour
def allH (h : House) : Prop := h.touches.all (touchOK h) = true ∧ h.boiled.all (boilOK h) = true ∧ (h.signs.all fun s => thingOK h s.thing) = true
instance (h : House) : Decidable (allH h) := by unfold allH; infer_instance
def checkHouse (h : House) : Int :=
  if bigH h then 3 else if askErr h.table ≠ 0 then askErr h.table else if badH h then 1 else if ¬ allH h then 1 else if 2000 < manyH h then 3 else 0
theorem touches_ok {h : House} (h1 : h.touches.all (touchOK h) = true) (h2 : h.last ≤ 5) : ∀ x ∈ h.touches, 0 ≤ x.lo ∧ x.lo ≤ x.hi ∧ x.hi ≤ 5 := fun x hx => by
  have := List.all_eq_true.1 h1 x hx
  simp only [touchOK, hourOK, Bool.and_eq_true, decide_eq_true_eq] at this
  omega
theorem checkHouse_c (h : House) (hs : TSm h.table) (hsk : Sm h.sick.length) : Pure Tryz.prog 66 [eH h] (i6 (checkHouse h)) := by
  intro H
  refine fn_of hmix fc66 (by simp) ?_
  rw [ienv1]
  simp only [go_sem, reduceIte, reduceCtorEq, Nat.reduceEqDiff, Nat.reduceBEq, Nat.reduceAdd, Nat.reduceMul, Nat.reduceLeDiff, ac66, eH]
  refine v_box _ rfl fun b1 hb1 => ?_
  have e1 := (Ext.refl H).new hb1 (.box [.slice (h.table.women.map eW), .slice (h.table.pieces.map eP), i6 h.table.wrong, .slice (eI h.sick), i6 h.others, i6 h.last, .slice (h.touches.map eTo), .slice (h.boiled.map eB), .slice (h.signs.map eS)])
  simp only [go_sem, reduceIte, reduceCtorEq, Nat.reduceEqDiff, Nat.reduceBEq, Nat.reduceAdd, Nat.reduceMul, Nat.reduceLeDiff]
  by_cases c1 : bigH h
  · have hres : checkHouse h = 3 := by rw [checkHouse, if_pos c1]
    unfold bigH at c1
    by_cases d1 : 5 < h.last
    · simp only [go_sem, reduceIte, reduceCtorEq, Nat.reduceEqDiff, Nat.reduceBEq, Nat.reduceAdd, Nat.reduceMul, Nat.reduceLeDiff, d1]
      refine fin_ret 2 (by simp [upd_at]) ⟨_, H, Settle.refl e1, by simp [upd_at, hres], rfl⟩
    by_cases d2 : 10 < h.others
    · simp only [go_sem, reduceIte, reduceCtorEq, Nat.reduceEqDiff, Nat.reduceBEq, Nat.reduceAdd, Nat.reduceMul, Nat.reduceLeDiff, d1, d2]
      refine fin_ret 2 (by simp [upd_at]) ⟨_, H, Settle.refl e1, by simp [upd_at, hres], rfl⟩
    by_cases d3 : 6 < (h.touches.length : Int)
    · simp only [go_sem, reduceIte, reduceCtorEq, Nat.reduceEqDiff, Nat.reduceBEq, Nat.reduceAdd, Nat.reduceMul, Nat.reduceLeDiff, d1, d2, d3]
      refine fin_ret 2 (by simp [upd_at]) ⟨_, H, Settle.refl e1, by simp [upd_at, hres], rfl⟩
    by_cases d4 : 4 < (h.boiled.length : Int)
    · simp only [go_sem, reduceIte, reduceCtorEq, Nat.reduceEqDiff, Nat.reduceBEq, Nat.reduceAdd, Nat.reduceMul, Nat.reduceLeDiff, d1, d2, d3, d4]
      refine fin_ret 2 (by simp [upd_at]) ⟨_, H, Settle.refl e1, by simp [upd_at, hres], rfl⟩
    have d5 : 5 < (h.signs.length : Int) := by
      rcases c1 with c | c | c | c | c
      · exact absurd c d1
      · exact absurd c d2
      · exact absurd c d3
      · exact absurd c d4
      · exact c
    simp only [go_sem, reduceIte, reduceCtorEq, Nat.reduceEqDiff, Nat.reduceBEq, Nat.reduceAdd, Nat.reduceMul, Nat.reduceLeDiff, d1, d2, d3, d4, d5]
    refine fin_ret 2 (by simp [upd_at]) ⟨_, H, Settle.refl e1, by simp [upd_at, hres], rfl⟩
  have hc1 := c1
  unfold bigH at c1
  simp only [not_or] at c1
  obtain ⟨d1, d2, d3, d4, d5⟩ := c1
  simp only [go_sem, reduceIte, reduceCtorEq, Nat.reduceEqDiff, Nat.reduceBEq, Nat.reduceAdd, Nat.reduceMul, Nat.reduceLeDiff, d1, d2, d3, d4, d5]
  refine (whose_c h.table hs).go ?_
  by_cases c2 : askErr h.table = 0
  rotate_left
  · have hres : checkHouse h = askErr h.table := by rw [checkHouse, if_neg hc1, if_pos c2]
    simp only [go_sem, reduceIte, reduceCtorEq, Nat.reduceEqDiff, Nat.reduceBEq, Nat.reduceAdd, Nat.reduceMul, Nat.reduceLeDiff, whoseR, c2, List.getElem?_cons_zero, List.getElem?_cons_succ]
    refine fin_ret 2 (by simp [upd_at]) ⟨_, H, Settle.refl e1, by simp [upd_at, hres], rfl⟩
  simp only [go_sem, reduceIte, reduceCtorEq, Nat.reduceEqDiff, Nat.reduceBEq, Nat.reduceAdd, Nat.reduceMul, Nat.reduceLeDiff, whoseR, c2, List.getElem?_cons_zero, List.getElem?_cons_succ, List.drop_nil]
  have hc2 : ¬ (askErr h.table ≠ 0) := fun h => h c2
  by_cases c3 : badH h
  · have hres : checkHouse h = 1 := by rw [checkHouse, if_neg hc1, if_neg hc2, if_pos c3]
    unfold badH at c3
    by_cases f1 : h.last < 0
    · simp only [go_sem, reduceIte, reduceCtorEq, Nat.reduceEqDiff, Nat.reduceBEq, Nat.reduceAdd, Nat.reduceMul, Nat.reduceLeDiff, f1]
      refine fin_ret 2 (by simp [upd_at]) ⟨_, H, Settle.refl e1, by simp [upd_at, hres], rfl⟩
    by_cases f2 : h.others < 0
    · simp only [go_sem, reduceIte, reduceCtorEq, Nat.reduceEqDiff, Nat.reduceBEq, Nat.reduceAdd, Nat.reduceMul, Nat.reduceLeDiff, f1, f2]
      refine fin_ret 2 (by simp [upd_at]) ⟨_, H, Settle.refl e1, by simp [upd_at, hres], rfl⟩
    simp only [go_sem, reduceIte, reduceCtorEq, Nat.reduceEqDiff, Nat.reduceBEq, Nat.reduceAdd, Nat.reduceMul, Nat.reduceLeDiff, f1, f2]
    refine (things_c h).go ?_
    by_cases f3 : 10 < thingsW h
    · simp only [go_sem, reduceIte, reduceCtorEq, Nat.reduceEqDiff, Nat.reduceBEq, Nat.reduceAdd, Nat.reduceMul, Nat.reduceLeDiff, f3]
      refine fin_ret 2 (by simp [upd_at]) ⟨_, H, Settle.refl e1, by simp [upd_at, hres], rfl⟩
    have f4 : risingOK h.sick h.table.women.length = false := by
      rcases c3 with c | c | c | c
      · exact absurd c f1
      · exact absurd c f2
      · exact absurd c f3
      · exact c
    simp only [go_sem, reduceIte, reduceCtorEq, Nat.reduceEqDiff, Nat.reduceBEq, Nat.reduceAdd, Nat.reduceMul, Nat.reduceLeDiff, f3]
    refine (rising_c h.sick _ hsk).go ?_
    simp only [go_sem, reduceIte, reduceCtorEq, Nat.reduceEqDiff, Nat.reduceBEq, Nat.reduceAdd, Nat.reduceMul, Nat.reduceLeDiff, f4]
    refine fin_ret 2 (by simp [upd_at]) ⟨_, H, Settle.refl e1, by simp [upd_at, hres], rfl⟩
  have hc3 := c3
  unfold badH at c3
  simp only [not_or, Bool.not_eq_false] at c3
  obtain ⟨f1, f2, f3, f4⟩ := c3
  simp only [go_sem, reduceIte, reduceCtorEq, Nat.reduceEqDiff, Nat.reduceBEq, Nat.reduceAdd, Nat.reduceMul, Nat.reduceLeDiff, f1, f2]
  refine (things_c h).go ?_
  simp only [go_sem, reduceIte, reduceCtorEq, Nat.reduceEqDiff, Nat.reduceBEq, Nat.reduceAdd, Nat.reduceMul, Nat.reduceLeDiff, f3]
  refine (rising_c h.sick _ hsk).go ?_
  simp only [go_sem, reduceIte, reduceCtorEq, Nat.reduceEqDiff, Nat.reduceBEq, Nat.reduceAdd, Nat.reduceMul, Nat.reduceLeDiff, f4]
  refine (all_touch eTo (fun _ => rfl) h.touches (touchOK h) 115 [eH h] [] (by unfold Sm; omega) _ (fun x _ H1 _ => touch_c h x H1)).mono ?_
  rintro _ H' ⟨rfl, rfl⟩
  cases k1 : h.touches.all (touchOK h)
  · have hres : checkHouse h = 1 := by rw [checkHouse, if_neg hc1, if_neg hc2, if_neg hc3, if_pos]; rw [allH, k1]; simp
    simp only [go_sem, reduceIte, reduceCtorEq, Nat.reduceEqDiff, Nat.reduceBEq, Nat.reduceAdd, Nat.reduceMul, Nat.reduceLeDiff]
    refine fin_ret 2 (by simp [upd_at]) ⟨_, H, Settle.refl e1, by simp [upd_at, hres], rfl⟩
  simp only [go_sem, reduceIte, reduceCtorEq, Nat.reduceEqDiff, Nat.reduceBEq, Nat.reduceAdd, Nat.reduceMul, Nat.reduceLeDiff]
  refine (all_boiling eB (fun _ => rfl) h.boiled (boilOK h) 116 [eH h] [] (by unfold Sm; omega) _ (fun x _ H1 _ => boiling_c h x H1)).mono ?_
  rintro _ H' ⟨rfl, rfl⟩
  cases k2 : h.boiled.all (boilOK h)
  · have hres : checkHouse h = 1 := by rw [checkHouse, if_neg hc1, if_neg hc2, if_neg hc3, if_pos]; rw [allH, k2]; simp
    simp only [go_sem, reduceIte, reduceCtorEq, Nat.reduceEqDiff, Nat.reduceBEq, Nat.reduceAdd, Nat.reduceMul, Nat.reduceLeDiff]
    refine fin_ret 2 (by simp [upd_at]) ⟨_, H, Settle.refl e1, by simp [upd_at, hres], rfl⟩
  simp only [go_sem, reduceIte, reduceCtorEq, Nat.reduceEqDiff, Nat.reduceBEq, Nat.reduceAdd, Nat.reduceMul, Nat.reduceLeDiff]
  refine (all_sign eS (fun _ => rfl) h.signs (fun s => thingOK h s.thing) 117 [eH h] [] (by unfold Sm; omega) _ (fun x _ H1 _ => sign_c h x H1)).mono ?_
  rintro _ H' ⟨rfl, rfl⟩
  cases k3 : h.signs.all fun s => thingOK h s.thing
  · have hres : checkHouse h = 1 := by rw [checkHouse, if_neg hc1, if_neg hc2, if_neg hc3, if_pos]; rw [allH, k3]; simp
    simp only [go_sem, reduceIte, reduceCtorEq, Nat.reduceEqDiff, Nat.reduceBEq, Nat.reduceAdd, Nat.reduceMul, Nat.reduceLeDiff]
    refine fin_ret 2 (by simp [upd_at]) ⟨_, H, Settle.refl e1, by simp [upd_at, hres], rfl⟩
  simp only [go_sem, reduceIte, reduceCtorEq, Nat.reduceEqDiff, Nat.reduceBEq, Nat.reduceAdd, Nat.reduceMul, Nat.reduceLeDiff]
  have hc4 : ¬ ¬ allH h := fun h' => h' ⟨k1, k2, k3⟩
  refine (many_c h hs (by unfold Sm; omega) (touches_ok k1 (by omega))).go ?_
  by_cases c5 : 2000 < manyH h
  · have hres : checkHouse h = 3 := by rw [checkHouse, if_neg hc1, if_neg hc2, if_neg hc3, if_neg hc4, if_pos c5]
    simp only [go_sem, reduceIte, reduceCtorEq, Nat.reduceEqDiff, Nat.reduceBEq, Nat.reduceAdd, Nat.reduceMul, Nat.reduceLeDiff, c5]
    refine fin_ret 2 (by simp [upd_at]) ⟨_, H, Settle.refl e1, by simp [upd_at, hres], rfl⟩
  · have hres : checkHouse h = 0 := by rw [checkHouse, if_neg hc1, if_neg hc2, if_neg hc3, if_neg hc4, if_neg c5]
    simp only [go_sem, reduceIte, reduceCtorEq, Nat.reduceEqDiff, Nat.reduceBEq, Nat.reduceAdd, Nat.reduceMul, Nat.reduceLeDiff, c5]
    refine fin_ret 2 (by simp [upd_at]) ⟨_, H, Settle.refl e1, by simp [upd_at, hres], rfl⟩
end Go.Lift

set_option linter.unusedSimpArgs false
set_option linter.unusedVariables false
namespace Go.Lift
open Go Go.Proofs
theorem rep_lent {H : AHeap} {w : World} {v : Value} {b n cap : Nat} {l : List Int} (hH : HRel H w) (hb : H b = some (.box (l.map i6))) (hn : n ≤ l.length) (hc : n ≤ cap) (hr : Rep H w v (.mslice b 0 n cap)) : Rep (fun _ => none) w v (.slice (eI (l.take n))) := by
  cases hr
  obtain ⟨b', off', hv, vs, hvs⟩ := cellsAt_rep hH (Rep.ptr (w := w) b 0) (at_ptr hb (Nat.zero_le _))
  cases hv
  have hlen : n = (eI (l.take n)).length := by simp [hn]
  have key : Rep (fun _ => none) w (.slice (some ⟨b, 0, none⟩) (eI (l.take n)).length cap) (.slice (eI (l.take n))) := by
    refine Rep.slice b 0 cap 1 (eI (l.take n)) (fun i j => vs i) (by omega) (eI_good _) (fun i j hi hj => ?_) (fun i j e' x he hx => ?_)
    · have hj0 : j = 0 := by omega
      subst hj0
      have hi' : i < l.length := by omega
      have := (hvs i (i6 l[i]) (by simp [hi'])).1
      exact ⟨.inl rfl, by simpa using this⟩
    · have hi : i < n := by
        rcases Nat.lt_or_ge i n with h | h
        · exact h
        · rw [List.getElem?_eq_none (by omega)] at he; cases he
      have hi' : i < l.length := by omega
      rw [eI_get (by simp; omega), Option.some.injEq] at he
      subst he
      cases j with
      | zero =>
        simp only [List.getElem?_cons_zero, Option.some.injEq, List.getElem_take] at hx
        subst hx
        have := (hvs i (i6 l[i]) (by simp [hi'])).2
        generalize vs i = u at this ⊢
        cases this
        exact .int _ _
      | succ j => simp at hx
  rw [← hlen] at key
  exact key
theorem borrow {P : Program} {f : FuncId} {x : AV} {H : AHeap} {b n cap : Nat} {l : List Int} {r : Bool} (hb : H b = some (.box (l.map i6))) (hn : n ≤ l.length) (hc : n ≤ cap) (hp : Pure P f [x, .slice (eI (l.take n))] (.bool r)) :
    ACalls P f [x, .mslice b 0 n cap] H fun r' H' => r' = .bool r ∧ H' = H := by
  obtain ⟨h1, h2⟩ := hp (fun _ => none)
  refine ⟨h1, fun w vs hH hv => ?_⟩
  have hsub : ∀ (c : Nat) (o : AObj), (fun _ => none : AHeap) c = some o → H c = some o := fun c o h => by cases h
  have hv' : Reps (fun _ => none) w vs [x, .slice (eI (l.take n))] := by
    refine ⟨hv.1, fun i y hi => ?_⟩
    match i, hi with
    | 0, hi => cases hi; exact (hv.2 0 _ rfl).mono (Evolve.drop hsub)
    | 1, hi => cases hi; exact rep_lent hH hb hn hc (hv.2 1 _ rfl)
  refine (h2 w vs (hH.drop hsub) hv').mono ?_
  rintro e w' ⟨v, rfl, _, _, ⟨rfl, rfl⟩, g1, g2, g3⟩
  have hE : Evolve H w H w' := by
    refine ⟨g3.os, g3.tape, g3.output, g3.size, fun c hc hn => ⟨hn, (g3.block c hc rfl).2⟩, fun c n' sz cp off u hcH ho hu => ?_⟩
    exact ⟨.inr ⟨n', sz, cp, hcH, ho⟩, by rw [cell_congr (a := ⟨c, off, none⟩) (g3.block c (hH.lt hcH) rfl).2]; exact hu⟩
  refine ⟨v, rfl, .bool r, H, ⟨rfl, rfl⟩, hH.keep hE (fun c hc => (g3.block c hc rfl).2), ?_, hE⟩
  cases g2; exact .bool _

/-- A house without an error. -/
structure HV (h : House) : Prop where
  ok : HOK h
  tab : checkTable h.table = 0
  ask : askErr h.table = 0
  tim : ∀ x ∈ h.touches, 0 ≤ x.lo ∧ x.lo ≤ x.hi ∧ x.hi ≤ 5
  many : manyH h ≤ 2000
theorem hv_of {h : House} (hs : TSm h.table) (hsk : Sm h.sick.length) (hc : checkHouse h = 0) : HV h := by
  unfold checkHouse at hc
  by_cases c1 : bigH h
  · rw [if_pos c1] at hc; cases hc
  rw [if_neg c1] at hc
  by_cases c2 : askErr h.table = 0
  rotate_left
  · rw [if_pos c2] at hc; exact absurd hc c2
  rw [if_neg (fun h => h c2)] at hc
  by_cases c3 : badH h
  · rw [if_pos c3] at hc; cases hc
  rw [if_neg c3] at hc
  by_cases c4 : allH h
  rotate_left
  · rw [if_pos c4] at hc; cases hc
  rw [if_neg (fun h => h c4)] at hc
  have c5 : manyH h ≤ 2000 := by
    by_cases h1 : 2000 < manyH h
    · rw [if_pos h1] at hc; cases hc
    · omega
  have hc0 : checkTable h.table = 0 := by
    by_cases h1 : checkTable h.table = 0
    · exact h1
    · simp only [askErr, h1, if_false] at c2
  obtain ⟨hw5, hp7⟩ := checkTable_len hc0
  unfold bigH at c1
  unfold badH at c3
  simp only [not_or, Bool.not_eq_false] at c1 c3
  obtain ⟨d1, d2, d3, d4, d5⟩ := c1
  obtain ⟨f1, f2, f3, f4⟩ := c3
  obtain ⟨k1, k2, k3⟩ := c4
  have ht : thingsW h = (h.table.pieces.length : Int) + h.others := by rw [thingsW, w64 (by omega) (by omega)]
  have thing : ∀ n, thingOK h n = true → ∃ k : Nat, n = (k : Int) ∧ k < 10 := fun n hn => by
    simp only [thingOK, decide_eq_true_eq] at hn
    rw [w64 (by omega) (by omega)] at hn
    exact ⟨n.toNat, by omega, by omega⟩
  refine ⟨⟨hs, hp7, hsk, ⟨h.others.toNat, by omega, by omega⟩, ⟨h.last.toNat, by omega, by omega⟩, by omega, fun x hx => ?_, by omega, by omega, fun s hs => thing _ (List.all_eq_true.1 k3 s hs)⟩, hc0, c2, touches_ok k1 (by omega), c5⟩
  have := List.all_eq_true.1 k1 x hx
  simp only [touchOK, Bool.and_eq_true] at this
  obtain ⟨a, ha, ha'⟩ := thing _ this.1.1.1.1.1
  obtain ⟨b, hb, hb'⟩ := thing _ this.1.1.1.1.2
  exact ⟨a, b, ha, hb, ha', hb'⟩

/-- All owners out of lists, so many more behind the first ones. -/
def enumW (wh : List (List Int)) : Nat → List Int → List (List Int)
  | 0, pre => [pre]
  | k + 1, pre => (wh.getD pre.length []).flatMap fun w => enumW wh k (pre ++ [w])
/-- All hours of so many more touches. -/
def enumH (h : House) : Nat → List Int → List (List Int)
  | 0, pre => [pre]
  | k + 1, pre => ((List.range ((h.touches.getD pre.length default).hi - (h.touches.getD pre.length default).lo + 1).toNat).map fun j : Nat => (h.touches.getD pre.length default).lo + (j : Int)).flatMap fun n => enumH h k (pre ++ [n])
def coursesOf (h : House) (o : List Int) : List Course := if isTruthT h.table o = true then (enumH h h.touches.length []).map fun hs => ⟨o, hs⟩ else []
def allC (h : House) : List Course := (enumW (whoseT h.table) h.table.pieces.length []).flatMap (coursesOf h)
def eSc (c : Course) : AV := .agg ((pad7 c.owners ++ pad6 c.hours).map i6)
def hCells (h : House) : List AV := [.slice (h.table.women.map eW), .slice (h.table.pieces.map eP), i6 h.table.wrong, .slice (eI h.sick), i6 h.others, i6 h.last, .slice (h.touches.map eTo), .slice (h.boiled.map eB), .slice (h.signs.map eS)]
end Go.Lift

set_option linter.unusedSimpArgs false
set_option linter.unusedVariables false
namespace Go.Lift
open Go Go.Proofs
section
variable {yv : AV} {full : List Course} {J E : List Course → (Nat → Prop) → AHeap → Prop}
theorem touchGo_c (h : House) (hv : HV h) (T : Taker Tryz.prog yv eSc full J E) (by_ bs bt : Nat) (h1 : by_ ≠ bs) (h2 : bt ≠ bs) (o : List Int) (ho7 : (pad7 o).length = 7) :
    ∀ (k : Nat) (pre : List Int) (s : List Course) (F : Nat → Prop) (H : AHeap) (hs : List Int), pre.length + k = h.touches.length → hs.length = 6 → hs.take pre.length = pre → hs.drop h.touches.length = List.replicate (6 - h.touches.length) 0 →
      s ++ (enumH h k pre).map (fun x => ⟨o, x⟩) <+: full → J s F H → ¬ F by_ → ¬ F bs → ¬ F bt → H by_ = some (.box [yv]) → H bs = some (.box ((pad7 o ++ hs).map i6)) → H bt = some (.box [.func (.func 154) [] [.elem (hCells h), .ptr by_ 0, .ptr bs 0, .ptr bt 0]]) →
      ACalls Tryz.prog 154 [i6 pre.length, .elem (hCells h), .ptr by_ 0, .ptr bs 0, .ptr bt 0] H fun r H' => ∃ F' hs', Frame0 F H bs F' H' ∧ H' bs = some (.box (List.map i6 (pad7 o ++ hs'))) ∧ hs'.length = 6 ∧ hs'.take pre.length = pre ∧ hs'.drop h.touches.length = List.replicate (6 - h.touches.length) 0 ∧
        ((r = .bool true ∧ J (s ++ (enumH h k pre).map (fun x => ⟨o, x⟩)) F' H') ∨ (r = .bool false ∧ ∃ l1 l2, (enumH h k pre).map (fun x => (⟨o, x⟩ : Course)) = l1 ++ l2 ∧ E (s ++ l1) F' H')) := by
  have hm6 := hv.ok.touches
  intro k
  induction k with
  | zero =>
    intro pre s F H hs hk hs6 htake hdrop hfull hJ n1 n2 n3 hy hbo hbc
    refine fn_of hmix fc154 (by simp) ?_
    rw [ienv5]
    have hpl : pre.length = h.touches.length := by omega
    have hl13 : ((pad7 o ++ hs).map i6).length = 13 := by simp [ho7, hs6]
    simp only [go_sem, reduceIte, reduceCtorEq, Nat.reduceEqDiff, Nat.reduceBEq, Nat.reduceAdd, Nat.reduceMul, Nat.reduceLeDiff, ac154, hCells, hpl, hy, hbo, hl13, take_len hl13, take_f', List.getElem?_cons_zero, List.length_append, ho7, hs6]
    have hoe : AV.agg ((pad7 o ++ hs).map i6) = eSc ⟨o, pre⟩ := by
      simp only [eSc, AV.agg.injEq, pad6]
      congr 2
      conv => lhs; rw [← List.take_append_drop h.touches.length hs]
      rw [hdrop, ← hpl, htake]
    rw [hoe]
    refine aopV_mono ?_ (T.step s F H ⟨o, pre⟩ (by simpa [enumH] using hfull) hJ)
    rintro r H' ⟨F', hF, hK, hcase⟩
    simp only [go_sem, reduceIte, reduceCtorEq, Nat.reduceEqDiff, Nat.reduceBEq, Nat.reduceAdd, Nat.reduceMul, Nat.reduceLeDiff]
    refine fin_ret' 6 (by simp [upd_at]) ?_
    simp only [upd_at, if_true]
    refine ⟨F', hs, ⟨hF, fun x hx _ hh => hK x hx hh⟩, by rw [hK bs n2 ⟨_, hbo⟩]; exact hbo, hs6, by rw [← hpl]; exact htake, hdrop, ?_⟩
    rcases hcase with ⟨rfl, h⟩ | ⟨rfl, h⟩
    · exact .inl ⟨rfl, h⟩
    · exact .inr ⟨rfl, [⟨o, pre⟩], [], rfl, h⟩
  | succ k ih =>
    intro pre s F H hs hk hs6 htake hdrop hfull hJ n1 n2 n3 hy hbo hbc
    refine fn_of hmix fc154 (by simp) ?_
    rw [ienv5]
    have hpl : pre.length < h.touches.length := by omega
    have hne : ¬ ((pre.length : Int) = (h.touches.length : Int)) := by omega
    have hgp : h.touches.getD pre.length default = h.touches[pre.length] := by simp [hpl]
    obtain ⟨t1, t2, t3⟩ := hv.tim _ (List.getElem_mem hpl)
    have hcnt : ∃ cnt, cnt = (h.touches[pre.length].hi - h.touches[pre.length].lo + 1).toNat := ⟨_, rfl⟩
    obtain ⟨cnt, hcnt⟩ := hcnt
    obtain ⟨wl, hwl⟩ : ∃ wl, wl = (List.range cnt).map fun j : Nat => h.touches[pre.length].lo + (j : Int) := ⟨_, rfl⟩
    have hwll : wl.length = cnt := by simp [hwl]
    have henum : enumH h (k + 1) pre = wl.flatMap fun n => enumH h k (pre ++ [n]) := by simp only [enumH, hgp, hwl, hcnt]
    simp only [go_sem, reduceIte, reduceCtorEq, Nat.reduceEqDiff, Nat.reduceBEq, Nat.reduceAdd, Nat.reduceMul, Nat.reduceLeDiff, ac154, hCells, hne, map_get (f := eTo) hpl, eTo, take_f', List.getElem?_cons_zero]
    refine x_for cnt (fun m env H' => ∃ F' hs', Frame0 F H bs F' H' ∧ H' bs = some (.box (List.map i6 (pad7 o ++ hs'))) ∧ hs'.length = 6 ∧ hs'.take pre.length = pre ∧ hs'.drop h.touches.length = List.replicate (6 - h.touches.length) 0 ∧ J (s ++ (((wl.take m).flatMap fun n => enumH h k (pre ++ [n])).map fun x => ⟨o, x⟩)) F' H' ∧
        env 0 = i6 pre.length ∧ env 1 = .elem [.slice (h.table.women.map eW), .slice (h.table.pieces.map eP), i6 h.table.wrong, .slice (eI h.sick), i6 h.others, i6 h.last, .slice (h.touches.map eTo), .slice (h.boiled.map eB), .slice (h.signs.map eS)] ∧ env 3 = .ptr bs 0 ∧ env 4 = .ptr bt 0 ∧ env 7 = i6 (h.touches[pre.length].lo + (m : Int)) ∧ env 43 = .any)
      ⟨F, hs, Frame0.refl _ _ _, hbo, hs6, htake, hdrop, by simpa using hJ, by simp [upd_at], by simp [upd_at], by simp [upd_at], by simp [upd_at], by simp [upd_at], by simp [upd_at]⟩ ?_
    rintro m env H1 hm ⟨F1, hs1, hfr, hbo1, hs61, htake1, hdrop1, hJ1, g0, g1, g3, g4, g7, hN⟩
    have hy1 : H1 by_ = some (.box [yv]) := by rw [hfr.kept by_ n1 h1 ⟨_, hy⟩]; exact hy
    have hbc1 := (hfr.kept bt n3 h2 ⟨_, hbc⟩).trans hbc
    have m1 := hfr.out n1 ⟨_, hy⟩
    have m2 := hfr.out n2 ⟨_, hbo⟩
    have m3 := hfr.out n3 ⟨_, hbc⟩
    by_cases hlt : h.touches[pre.length].lo + (m : Int) ≤ h.touches[pre.length].hi
    · have hlt' : m < wl.length := by omega
      have hltc : m < cnt := by omega
      have hwm : wl[m] = h.touches[pre.length].lo + (m : Int) := by simp [hwl]
      have hinc := w64 (x := h.touches[pre.length].lo + (m : Int) + 1) (by omega) (by omega)
      have hinc2 : h.touches[pre.length].lo + (m : Int) + 1 = h.touches[pre.length].lo + ((m + 1 : Nat) : Int) := by omega
      simp only [go_sem, reduceIte, reduceCtorEq, Nat.reduceEqDiff, Nat.reduceBEq, Nat.reduceAdd, Nat.reduceMul, Nat.reduceLeDiff, g0, g1, g3, g4, g7, hN, hlt, map_get (f := eTo) hpl, eTo, take_f', List.getElem?_cons_zero, show (pre.length : Int) < ((6 : Nat) : Int) by omega, Nat.mul_one]
      rw [v_store]
      refine ⟨rfl, rfl, by simp [AV.cells, AV.isCell], _, hbo1, by simp [ho7, hs61]; omega, ?_⟩
      rw [show (AV.int .i64 (h.touches[pre.length].lo + (m : Int))).cells = [i6 (h.touches[pre.length].lo + (m : Int))] from rfl, iset _ _ _ (by simp [ho7, hs61]; omega)]
      have hset : (pad7 o ++ hs1).set (7 + pre.length) (h.touches[pre.length].lo + (m : Int)) = pad7 o ++ hs1.set pre.length (h.touches[pre.length].lo + (m : Int)) := by
        rw [List.set_append_right _ _ (by omega)]; congr 2; omega
      simp only [go_sem, reduceIte, reduceCtorEq, Nat.reduceEqDiff, Nat.reduceBEq, Nat.reduceAdd, Nat.reduceMul, Nat.reduceLeDiff, g0, g1, g3, g4, g7, hN, updH_ne _ _ h2, hbc1, wsucc (show pre.length < 4611686018427387904 by omega), List.nil_append, List.cons_append, hset, take_f', List.getElem?_cons_zero]
      have hlen : (pre ++ [wl[m]]).length = pre.length + 1 := by simp
      have hJ2 : J (s ++ (((wl.take m).flatMap fun n => enumH h k (pre ++ [n])).map fun x => ⟨o, x⟩)) F1 (updH H1 bs (.box ((pad7 o ++ hs1.set pre.length (h.touches[pre.length].lo + (m : Int))).map i6))) :=
        T.stable _ _ _ _ hJ1 (fun x hx => by rw [updH_ne _ _ (fun e => m2 (by rw [← e]; exact hx))])
      have hcall := ih (pre ++ [wl[m]]) (s ++ (((wl.take m).flatMap fun n => enumH h k (pre ++ [n])).map fun x => ⟨o, x⟩)) F1 (updH H1 bs (.box ((pad7 o ++ hs1.set pre.length (h.touches[pre.length].lo + (m : Int))).map i6))) (hs1.set pre.length wl[m]) (by rw [hlen]; omega) (by simp [hs61]) (by
          rw [hlen, List.take_add_one, List.take_set_of_le (Nat.le_refl _), htake1, List.getElem?_set_self (by omega)]; rfl)
        (by rw [List.drop_set_of_lt hpl]; exact hdrop1) (by
          refine List.IsPrefix.trans ?_ hfull
          rw [List.append_assoc]
          refine List.prefix_append_right_inj _ |>.2 ?_
          rw [henum, ← List.map_append]
          conv => rhs; rw [← List.take_append_drop m wl, List.drop_eq_getElem_cons hlt']
          rw [List.flatMap_append, List.flatMap_cons, ← List.append_assoc, List.map_append, List.map_append, List.map_append]
          exact List.prefix_append _ _) hJ2 m1 m2 m3 (by rw [updH_ne _ _ h1]; exact hy1) (by rw [hwm]; exact updH_same _ _ _) (by rw [updH_ne _ _ h2]; exact hbc1)
      rw [hlen] at hcall
      refine hcall.mono ?_
      rintro r H2 ⟨F2, hs2, hfr2, hbo2, hs62, htake2, hdrop2, hcase⟩
      have hfr12 : Frame0 F1 H1 bs F1 (updH H1 bs (.box ((pad7 o ++ hs1.set pre.length (h.touches[pre.length].lo + (m : Int))).map i6))) := ⟨fun x h => .inl h, fun x _ hx _ => updH_ne _ _ hx⟩
      have hfrA := (hfr.trans hfr12 ⟨_, hbo1⟩).trans hfr2 ⟨_, updH_same _ _ _⟩
      have htk : hs2.take pre.length = pre := by
        have := congrArg (List.take pre.length) htake2
        rw [List.take_take, List.take_left', Nat.min_eq_left (by simp)] at this
        · exact this
        · rfl
      rcases hcase with ⟨rfl, hJ3⟩ | ⟨rfl, l1, l2, hl, hE3⟩
      · simp only [go_sem, reduceIte, reduceCtorEq, Nat.reduceEqDiff, Nat.reduceBEq, Nat.reduceAdd, Nat.reduceMul, Nat.reduceLeDiff, g0, g1, g3, g4, g7, hN, hinc, hltc]
        refine ⟨F2, hs2, hfrA, hbo2, hs62, htk, hdrop2, ?_, by rw [hinc2]⟩
        rw [List.take_add_one, List.getElem?_eq_getElem hlt', Option.toList_some, List.flatMap_append, List.map_append, ← List.append_assoc]
        simpa using hJ3
      · simp only [go_sem, reduceIte, reduceCtorEq, Nat.reduceEqDiff, Nat.reduceBEq, Nat.reduceAdd, Nat.reduceMul, Nat.reduceLeDiff, g0, g1, g3, g4, g7, hN]
        refine fin_ret' 6 (by simp [upd_at, hN]) ?_
        simp only [upd_at, if_true]
        refine ⟨F2, hs2, hfrA, hbo2, hs62, htk, hdrop2, .inr ⟨trivial, (((wl.take m).flatMap fun n => enumH h k (pre ++ [n])).map fun x => ⟨o, x⟩) ++ l1, l2 ++ (((wl.drop (m + 1)).flatMap fun n => enumH h k (pre ++ [n])).map fun x => ⟨o, x⟩), ?_, by rw [← List.append_assoc]; exact hE3⟩⟩
        rw [henum]
        conv => lhs; rw [← List.take_append_drop m wl, List.drop_eq_getElem_cons hlt']
        rw [List.flatMap_append, List.flatMap_cons, List.map_append, List.map_append, hl]
        simp only [List.append_assoc]
    · simp only [go_sem, reduceIte, reduceCtorEq, Nat.reduceEqDiff, Nat.reduceBEq, Nat.reduceAdd, Nat.reduceMul, Nat.reduceLeDiff, g0, g1, g3, g4, g7, hN, hlt, map_get (f := eTo) hpl, eTo, take_f', List.getElem?_cons_zero]
      have : m = wl.length := by omega
      subst this
      refine fin_ret' 6 (by simp [upd_at, hN]) ?_
      simp only [upd_at, if_true]
      refine ⟨F1, hs1, hfr, hbo1, hs61, htake1, hdrop1, .inl ⟨trivial, ?_⟩⟩
      rw [henum]
      rw [List.take_length] at hJ1
      exact hJ1
end
end Go.Lift

