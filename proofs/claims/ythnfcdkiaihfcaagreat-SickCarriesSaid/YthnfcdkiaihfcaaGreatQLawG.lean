/- The truths that a law uses, or the error; SickCarries returns true. Conditions: none. -/
import Derived.Test.YthnfcdkiaihfcaaGreatQPurC
set_option linter.unusedSimpArgs false
set_option linter.unusedVariables false
namespace Go.Lift
open Go Go.Proofs
def withinR (h : House) (fine : Bool) : AV := if askErrH h fine = 0 then .tup [eCL (truthsH h), i6 0] else .tup [.emp, i6 (askErrH h fine)]
theorem thin_sm {h : House} (c1 : thinH h = true) : HSm h := by
  rw [thinH, Bool.and_eq_true] at c1; exact short_sm c1.1
theorem within_c' (h : House) (hm : HSm h) (k : Int) : Pure Tryz.prog 53 [eH h, i6 k] (withinR h (hourOK h k)) := by
  intro H
  refine fn_of hmix fc53 (by simp) ?_
  rw [ienv2]
  simp only [go_sem, reduceIte, reduceCtorEq, Nat.reduceEqDiff, Nat.reduceBEq, Nat.reduceAdd, Nat.reduceMul, Nat.reduceLeDiff, List.getElem?_cons_zero, List.getElem?_cons_succ, bne_self_eq_false, Int.reduceEq, ac53, eH]
  refine v_box _ rfl fun b2 hb2 => ?_
  have e1 := (Ext.refl H).new hb2 (.box [.slice (h.table.women.map eW), .slice (h.table.pieces.map eP), i6 h.table.wrong, .slice (eI h.sick), i6 h.others, i6 h.last, .slice (h.touches.map eTo), .slice (h.boiled.map eB), .slice (h.signs.map eS)])
  simp only [go_sem, reduceIte, reduceCtorEq, Nat.reduceEqDiff, Nat.reduceBEq, Nat.reduceAdd, Nat.reduceMul, Nat.reduceLeDiff, List.getElem?_cons_zero, List.getElem?_cons_succ, bne_self_eq_false, Int.reduceEq]
  refine (fault_c h hm).go ?_
  by_cases c1 : checkHouse h = 0
  rotate_left
  · simp only [go_sem, reduceIte, reduceCtorEq, Nat.reduceEqDiff, Nat.reduceBEq, Nat.reduceAdd, Nat.reduceMul, Nat.reduceLeDiff, List.getElem?_cons_zero, List.getElem?_cons_succ, bne_self_eq_false, Int.reduceEq, c1]
    refine fin_ret2 4 5 (by simp [upd_at]) ⟨withinR h (hourOK h k), H, ?_, rfl, rfl⟩
    have : askErrH h (hourOK h k) = checkHouse h := by rw [askErrH, if_neg c1]
    simp only [upd_at, if_true, Nat.reduceEqDiff, if_false, withinR, this, c1]
    exact Settle.refl e1
  have hv := hv_of hm.tsm hm.sk c1
  simp only [go_sem, reduceIte, reduceCtorEq, Nat.reduceEqDiff, Nat.reduceBEq, Nat.reduceAdd, Nat.reduceMul, Nat.reduceLeDiff, List.getElem?_cons_zero, List.getElem?_cons_succ, bne_self_eq_false, Int.reduceEq, c1]
  refine (isHour_c h k).go ?_
  cases c2 : hourOK h k
  · simp only [go_sem, reduceIte, reduceCtorEq, Nat.reduceEqDiff, Nat.reduceBEq, Nat.reduceAdd, Nat.reduceMul, Nat.reduceLeDiff, List.getElem?_cons_zero, List.getElem?_cons_succ, bne_self_eq_false, Int.reduceEq]
    refine fin_ret2 4 5 (by simp [upd_at]) ⟨withinR h false, H, ?_, rfl, rfl⟩
    have : askErrH h false = 2 := by rw [askErrH, if_pos c1]; rfl
    simp only [upd_at, if_true, Nat.reduceEqDiff, if_false, withinR, this, show ¬ (2 : Int) = 0 by omega]
    exact Settle.refl e1
  simp only [go_sem, reduceIte, reduceCtorEq, Nat.reduceEqDiff, Nat.reduceBEq, Nat.reduceAdd, Nat.reduceMul, Nat.reduceLeDiff, List.getElem?_cons_zero, List.getElem?_cons_succ, bne_self_eq_false, Int.reduceEq]
  refine (truthsH_c h hv).go ?_
  have hnil := perm_nil (truths_perm hv)
  by_cases c3 : truthsH h = []
  · simp only [go_sem, reduceIte, reduceCtorEq, Nat.reduceEqDiff, Nat.reduceBEq, Nat.reduceAdd, Nat.reduceMul, Nat.reduceLeDiff, List.getElem?_cons_zero, List.getElem?_cons_succ, bne_self_eq_false, Int.reduceEq, eCL, c3, show ((0 : Nat) : Int) = 0 from rfl]
    refine fin_ret2 4 5 (by simp [upd_at]) ⟨withinR h true, H, ?_, rfl, rfl⟩
    have : askErrH h true = 11 := by rw [askErrH, if_pos c1, if_pos rfl, if_pos (hnil.1 c3)]
    simp only [upd_at, if_true, Nat.reduceEqDiff, if_false, withinR, this, show ¬ (11 : Int) = 0 by omega]
    exact Settle.refl e1
  · have hp := List.length_pos_iff.2 c3
    simp only [go_sem, reduceIte, reduceCtorEq, Nat.reduceEqDiff, Nat.reduceBEq, Nat.reduceAdd, Nat.reduceMul, Nat.reduceLeDiff, List.getElem?_cons_zero, List.getElem?_cons_succ, bne_self_eq_false, Int.reduceEq, eCL, show ¬ ((truthsH h).length : Int) = 0 by omega]
    refine fin_ret2 4 5 (by simp [upd_at]) ⟨withinR h true, H, ?_, rfl, rfl⟩
    have : askErrH h true = 0 := by rw [askErrH, if_pos c1, if_pos rfl, if_neg (fun h => c3 (hnil.2 h))]
    simp only [upd_at, if_true, Nat.reduceEqDiff, if_false, withinR, this]
    exact Settle.refl e1
theorem hour0 {h : House} (hv : HV h) : hourOK h 0 = true := by
  obtain ⟨n, h1, h2⟩ := hv.ok.last
  simp only [hourOK, h1, decide_eq_true_eq]; omega
theorem sure_c (h : House) (hm : HSm h) : Pure Tryz.prog 24 [eH h] (withinR h true) := by
  intro H
  refine fn_of hmix fc24 (by simp) ?_
  rw [ienv1]
  simp only [go_sem, reduceIte, reduceCtorEq, Nat.reduceEqDiff, Nat.reduceBEq, Nat.reduceAdd, Nat.reduceMul, Nat.reduceLeDiff, List.getElem?_cons_zero, List.getElem?_cons_succ, bne_self_eq_false, Int.reduceEq, ac24, eH]
  refine v_box _ rfl fun b1 hb1 => ?_
  have e1 := (Ext.refl H).new hb1 (.box [.slice (h.table.women.map eW), .slice (h.table.pieces.map eP), i6 h.table.wrong, .slice (eI h.sick), i6 h.others, i6 h.last, .slice (h.touches.map eTo), .slice (h.boiled.map eB), .slice (h.signs.map eS)])
  simp only [go_sem, reduceIte, reduceCtorEq, Nat.reduceEqDiff, Nat.reduceBEq, Nat.reduceAdd, Nat.reduceMul, Nat.reduceLeDiff, List.getElem?_cons_zero, List.getElem?_cons_succ, bne_self_eq_false, Int.reduceEq]
  have hw : withinR h (hourOK h 0) = withinR h true := by
    by_cases c1 : checkHouse h = 0
    · rw [hour0 (hv_of hm.tsm hm.sk c1)]
    · simp only [withinR, askErrH, c1, if_false]
  refine (within_c' h hm 0).go ?_
  rw [hw]
  by_cases c2 : askErrH h true = 0
  · simp only [go_sem, reduceIte, reduceCtorEq, Nat.reduceEqDiff, Nat.reduceBEq, Nat.reduceAdd, Nat.reduceMul, Nat.reduceLeDiff, List.getElem?_cons_zero, List.getElem?_cons_succ, bne_self_eq_false, Int.reduceEq, withinR, c2]
    exact fin_ret2 2 3 (by simp [upd_at]) ⟨.tup [eCL (truthsH h), i6 0], H, Settle.refl e1, rfl, rfl⟩
  · simp only [go_sem, reduceIte, reduceCtorEq, Nat.reduceEqDiff, Nat.reduceBEq, Nat.reduceAdd, Nat.reduceMul, Nat.reduceLeDiff, List.getElem?_cons_zero, List.getElem?_cons_succ, bne_self_eq_false, Int.reduceEq, withinR, c2]
    exact fin_ret2 2 3 (by simp [upd_at]) ⟨.tup [.emp, i6 (askErrH h true)], H, Settle.refl e1, rfl, rfl⟩
theorem ACalls.argB {P : Program} {f : FuncId} {a x y : AV} {H : AHeap} {R : AV → AHeap → Prop} (h : ∀ w v, Rep H w v x → Rep H w v y) (hc : ACalls P f [a, y] H R) : ACalls P f [a, x] H R :=
  ACalls.weaken (xs := [a, x]) (ys := [a, y]) rfl (hc := hc) fun i p q hp hq w v hr => by
    match i, hp, hq with
    | 0, hp, hq => cases hp; cases hq; exact hr
    | 1, hp, hq => cases hp; cases hq; exact h w v hr
theorem whoseUpto_succ (h : House) (j : Nat) : whoseUpto h (j + 1) = whoseUpto h j ++ (if isWhose h j = true then [(j : Int)] else []) := by
  rw [whoseUpto, List.range_succ, List.filter_append, List.map_append, whoseUpto]
  congr 1
  cases hq : isWhose h j <;> simp [hq]
theorem wrap0 : IntKind.i64.wrap 0 = 0 := w64 (by omega) (by omega)
theorem carries_law (h : House) : Pure Tryz.prog 3 [eH h] (.bool true) := by
  intro H
  refine fn_of hmix fc3 (by simp) ?_
  rw [ienv1]
  simp only [go_sem, reduceIte, reduceCtorEq, Nat.reduceEqDiff, Nat.reduceBEq, Nat.reduceAdd, Nat.reduceMul, Nat.reduceLeDiff, List.getElem?_cons_zero, List.getElem?_cons_succ, bne_self_eq_false, Int.reduceEq, ac3, eH]
  refine v_box _ rfl fun b1 hb1 => ?_
  have e1 := (Ext.refl H).new hb1 (.box [.slice (h.table.women.map eW), .slice (h.table.pieces.map eP), i6 h.table.wrong, .slice (eI h.sick), i6 h.others, i6 h.last, .slice (h.touches.map eTo), .slice (h.boiled.map eB), .slice (h.signs.map eS)])
  simp only [go_sem, reduceIte, reduceCtorEq, Nat.reduceEqDiff, Nat.reduceBEq, Nat.reduceAdd, Nat.reduceMul, Nat.reduceLeDiff, List.getElem?_cons_zero, List.getElem?_cons_succ, bne_self_eq_false, Int.reduceEq]
  refine (thinH_c h).go ?_
  cases c1 : thinH h
  · simp only [go_sem, reduceIte, reduceCtorEq, Nat.reduceEqDiff, Nat.reduceBEq, Nat.reduceAdd, Nat.reduceMul, Nat.reduceLeDiff, List.getElem?_cons_zero, List.getElem?_cons_succ, bne_self_eq_false, Int.reduceEq]
    refine awake_c.go ?_
    simp only [go_sem, reduceIte, reduceCtorEq, Nat.reduceEqDiff, Nat.reduceBEq, Nat.reduceAdd, Nat.reduceMul, Nat.reduceLeDiff, List.getElem?_cons_zero, List.getElem?_cons_succ, bne_self_eq_false, Int.reduceEq]
    exact fin_ret 2 (by simp [upd_at]) ⟨_, H, Settle.refl e1, by simp [upd_at], rfl⟩
  have hm := thin_sm c1
  simp only [go_sem, reduceIte, reduceCtorEq, Nat.reduceEqDiff, Nat.reduceBEq, Nat.reduceAdd, Nat.reduceMul, Nat.reduceLeDiff, List.getElem?_cons_zero, List.getElem?_cons_succ, bne_self_eq_false, Int.reduceEq]
  refine (house_c h hm).go ?_
  simp only [go_sem, reduceIte, reduceCtorEq, Nat.reduceEqDiff, Nat.reduceBEq, Nat.reduceAdd, Nat.reduceMul, Nat.reduceLeDiff, List.getElem?_cons_zero, List.getElem?_cons_succ, bne_self_eq_false, Int.reduceEq]
  refine (carry_c h hm.tsm hm.sk).go ?_
  by_cases c2 : askErrH h true = 0
  rotate_left
  · simp only [go_sem, reduceIte, reduceCtorEq, Nat.reduceEqDiff, Nat.reduceBEq, Nat.reduceAdd, Nat.reduceMul, Nat.reduceLeDiff, List.getElem?_cons_zero, List.getElem?_cons_succ, bne_self_eq_false, Int.reduceEq, listR, c2]
    refine (house_c h hm).go ?_
    simp only [go_sem, reduceIte, reduceCtorEq, Nat.reduceEqDiff, Nat.reduceBEq, Nat.reduceAdd, Nat.reduceMul, Nat.reduceLeDiff, List.getElem?_cons_zero, List.getElem?_cons_succ, bne_self_eq_false, Int.reduceEq]
    refine (whoseS_c h hm.tsm hm.sk).go ?_
    simp only [go_sem, reduceIte, reduceCtorEq, Nat.reduceEqDiff, Nat.reduceBEq, Nat.reduceAdd, Nat.reduceMul, Nat.reduceLeDiff, List.getElem?_cons_zero, List.getElem?_cons_succ, bne_self_eq_false, Int.reduceEq, listR, c2]
    refine (sure_c h hm).go ?_
    simp only [go_sem, reduceIte, reduceCtorEq, Nat.reduceEqDiff, Nat.reduceBEq, Nat.reduceAdd, Nat.reduceMul, Nat.reduceLeDiff, List.getElem?_cons_zero, List.getElem?_cons_succ, bne_self_eq_false, Int.reduceEq, withinR, c2, List.length_nil, Int.natCast_zero, Int.add_zero, wrap0, show ((0 : Nat) : Int) = 0 from rfl]
    refine awake_c.go ?_
    simp only [go_sem, reduceIte, reduceCtorEq, Nat.reduceEqDiff, Nat.reduceBEq, Nat.reduceAdd, Nat.reduceMul, Nat.reduceLeDiff, List.getElem?_cons_zero, List.getElem?_cons_succ, bne_self_eq_false, Int.reduceEq]
    exact fin_ret 2 (by simp [upd_at]) ⟨_, H, Settle.refl e1, by simp [upd_at], rfl⟩
  have hv := hv_ask hm.tsm hm.sk c2
  have hne : truH h [] ≠ [] := by
    intro h0
    rw [askErrH] at c2
    split at c2
    · simp only [if_true, h0] at c2; omega
    · contradiction
  have hnt := nT_le hv.ok
  have hcl : (carryOf h).length = nT h := by simp [carryOf]
  have htl := truthsH_sm hv
  simp only [go_sem, reduceIte, reduceCtorEq, Nat.reduceEqDiff, Nat.reduceBEq, Nat.reduceAdd, Nat.reduceMul, Nat.reduceLeDiff, List.getElem?_cons_zero, List.getElem?_cons_succ, bne_self_eq_false, Int.reduceEq, listR, c2]
  refine (house_c h hm).go ?_
  simp only [go_sem, reduceIte, reduceCtorEq, Nat.reduceEqDiff, Nat.reduceBEq, Nat.reduceAdd, Nat.reduceMul, Nat.reduceLeDiff, List.getElem?_cons_zero, List.getElem?_cons_succ, bne_self_eq_false, Int.reduceEq]
  refine (whoseS_c h hm.tsm hm.sk).go ?_
  simp only [go_sem, reduceIte, reduceCtorEq, Nat.reduceEqDiff, Nat.reduceBEq, Nat.reduceAdd, Nat.reduceMul, Nat.reduceLeDiff, List.getElem?_cons_zero, List.getElem?_cons_succ, bne_self_eq_false, Int.reduceEq, listR, c2]
  refine (sure_c h hm).go ?_
  simp only [go_sem, reduceIte, reduceCtorEq, Nat.reduceEqDiff, Nat.reduceBEq, Nat.reduceAdd, Nat.reduceMul, Nat.reduceLeDiff, List.getElem?_cons_zero, List.getElem?_cons_succ, bne_self_eq_false, Int.reduceEq, withinR, c2]
  refine (thingsR_c h).go ?_
  rw [thingsW_ok hv.ok]
  simp only [go_sem, reduceIte, reduceCtorEq, Nat.reduceEqDiff, Nat.reduceBEq, Nat.reduceAdd, Nat.reduceMul, Nat.reduceLeDiff, List.getElem?_cons_zero, List.getElem?_cons_succ, bne_self_eq_false, Int.reduceEq, hcl]
  refine x_for (nT h) (fun j env H1 => Ext H H1 ∧ H1 b1 = some (.box [.slice (h.table.women.map eW), .slice (h.table.pieces.map eP), i6 h.table.wrong, .slice (eI h.sick), i6 h.others, i6 h.last, .slice (h.touches.map eTo), .slice (h.boiled.map eB), .slice (h.signs.map eS)]) ∧ env 1 = .ptr b1 0 ∧ env 3 = .slice (eI (carryOf h)) ∧ env 5 = .slice (eI (whoseS h)) ∧ env 7 = eCL (truthsH h) ∧ env 9 = i6 j ∧ env 104 = .any)
    ⟨e1, updH_same _ _ _, by simp [upd_at], by simp [upd_at], by simp [upd_at], by simp [upd_at], by simp [upd_at], by simp [upd_at]⟩ ?_
  rintro j env H1 hj ⟨hE, hB, g1, g3, g5, g7, g9, hN⟩
  by_cases hlt : (j : Int) < (nT h : Int)
  · have hlt' : j < nT h := by omega
    have hget : (carryOf h)[j]'(by omega) = carryAt h j := by simp [carryOf]
    simp only [go_sem, reduceIte, reduceCtorEq, Nat.reduceEqDiff, Nat.reduceBEq, Nat.reduceAdd, Nat.reduceMul, Nat.reduceLeDiff, List.getElem?_cons_zero, List.getElem?_cons_succ, bne_self_eq_false, Int.reduceEq, g1, g3, g5, g7, g9, hN, hB, hcl, hlt, eI_get (show j < (carryOf h).length by omega), hget]
    refine pgo_call (carryR_c h hv (truthsH h) (by unfold Sm; omega) (fun c hc => truthsH_clen hv hc) j (by omega)) ?_
    rw [carry_count hv]
    simp only [go_sem, reduceIte, reduceCtorEq, Nat.reduceEqDiff, Nat.reduceBEq, Nat.reduceAdd, Nat.reduceMul, Nat.reduceLeDiff, List.getElem?_cons_zero, List.getElem?_cons_succ, bne_self_eq_false, Int.reduceEq, g1, g3, g5, g7, g9, hN, hB, wsucc (show j < 4611686018427387904 by omega), hlt']
    exact hE
  · have : j = nT h := by omega
    subst this
    simp only [go_sem, reduceIte, reduceCtorEq, Nat.reduceEqDiff, Nat.reduceBEq, Nat.reduceAdd, Nat.reduceMul, Nat.reduceLeDiff, List.getElem?_cons_zero, List.getElem?_cons_succ, bne_self_eq_false, Int.reduceEq, g1, g3, g5, g7, g9, hN, hB, hcl, hlt]
    have hw30 : h.table.women.length ≤ 1073741824 := hm.women
    refine x_for h.table.women.length (fun j env H1 => Ext H H1 ∧ H1 b1 = some (.box [.slice (h.table.women.map eW), .slice (h.table.pieces.map eP), i6 h.table.wrong, .slice (eI h.sick), i6 h.others, i6 h.last, .slice (h.touches.map eTo), .slice (h.boiled.map eB), .slice (h.signs.map eS)]) ∧ Grown 1 H H1 (env 10) (eI (whoseUpto h j)) ∧ env 1 = .ptr b1 0 ∧ env 5 = .slice (eI (whoseS h)) ∧ env 7 = eCL (truthsH h) ∧ env 11 = i6 j ∧ env 104 = .any)
      ⟨hE, hB, .inl ⟨by simp [upd_at], rfl⟩, by simp [upd_at, g1], by simp [upd_at, g5], by simp [upd_at, g7], by simp [upd_at], by simp [upd_at, hN]⟩ ?_
    clear g1 g3 g5 g7 g9 hN hB hE
    rintro j env H1 hj ⟨hE, hB, hG, g1, g5, g7, g11, hN⟩
    by_cases hlt : (j : Int) < (h.table.women.length : Int)
    · have hlt' : j < h.table.women.length := by omega
      have hwl := whoseUpto_len h j
      simp only [go_sem, reduceIte, reduceCtorEq, Nat.reduceEqDiff, Nat.reduceBEq, Nat.reduceAdd, Nat.reduceMul, Nat.reduceLeDiff, List.getElem?_cons_zero, List.getElem?_cons_succ, bne_self_eq_false, Int.reduceEq, g1, g5, g7, g11, hN, hB, hlt, take_f']
      refine (harmedR_c h hv (truthsH h) (by unfold Sm; omega) (fun c hc => truthsH_clen hv hc) j).go ?_
      rw [whose_any hv hne]
      cases d : isWhose h j
      · simp only [go_sem, reduceIte, reduceCtorEq, Nat.reduceEqDiff, Nat.reduceBEq, Nat.reduceAdd, Nat.reduceMul, Nat.reduceLeDiff, List.getElem?_cons_zero, List.getElem?_cons_succ, bne_self_eq_false, Int.reduceEq, g1, g5, g7, g11, hN, hB, wsucc (show j < 4611686018427387904 by omega), hlt']
        refine ⟨hE, ?_⟩
        rw [whoseUpto_succ, d]; simpa using hG
      · simp only [go_sem, reduceIte, reduceCtorEq, Nat.reduceEqDiff, Nat.reduceBEq, Nat.reduceAdd, Nat.reduceMul, Nat.reduceLeDiff, List.getElem?_cons_zero, List.getElem?_cons_succ, bne_self_eq_false, Int.reduceEq, g1, g5, g7, g11, hN, hB, bsI1]
        refine v_append hG hE rfl (eI_good _) (one_good (j : Int)) (one_cell (j : Int)) (by simp; omega) (by simp; omega) ?_
        intro v' H2 hg' he' hk'
        have hb1' : ∀ x o, H1 x = some o → (∀ n s c, o ≠ .tail n s c) → H2 x = some o := fun x o hx ho => by
          refine hk' x o hx ?_
          intro b cap es hh hxb
          rcases hG with ⟨h1, _⟩ | ⟨b', cap', h1, h2, h3⟩
          · rw [h1] at hh; cases hh
          · rw [h1] at hh; cases hh; subst hxb; rw [h3] at hx; cases hx; exact ho _ _ _ rfl
        simp only [go_sem, reduceIte, reduceCtorEq, Nat.reduceEqDiff, Nat.reduceBEq, Nat.reduceAdd, Nat.reduceMul, Nat.reduceLeDiff, List.getElem?_cons_zero, List.getElem?_cons_succ, bne_self_eq_false, Int.reduceEq, g1, g5, g7, g11, hN, hb1' _ _ hB (by simp), wsucc (show j < 4611686018427387904 by omega), hlt']
        refine ⟨he', ?_⟩
        rw [whoseUpto_succ, d, if_pos rfl, eI_app]; exact hg'
    · have : j = h.table.women.length := by omega
      subst this
      have hwl := whoseUpto_len h h.table.women.length
      simp only [go_sem, reduceIte, reduceCtorEq, Nat.reduceEqDiff, Nat.reduceBEq, Nat.reduceAdd, Nat.reduceMul, Nat.reduceLeDiff, List.getElem?_cons_zero, List.getElem?_cons_succ, bne_self_eq_false, Int.reduceEq, g1, g5, g7, g11, hN, hB, hlt, take_f']
      refine ACalls.argB (y := .slice (eI (whoseS h))) (fun w v hr => hG.weakRep hr) ?_
      refine (same_c (whoseS h) (whoseS h) (by unfold Sm whoseS; omega)).go ?_
      simp only [go_sem, reduceIte, reduceCtorEq, Nat.reduceEqDiff, Nat.reduceBEq, Nat.reduceAdd, Nat.reduceMul, Nat.reduceLeDiff, List.getElem?_cons_zero, List.getElem?_cons_succ, bne_self_eq_false, Int.reduceEq]
      refine awake_c.go ?_
      simp only [go_sem, reduceIte, reduceCtorEq, Nat.reduceEqDiff, Nat.reduceBEq, Nat.reduceAdd, Nat.reduceMul, Nat.reduceLeDiff, List.getElem?_cons_zero, List.getElem?_cons_succ, bne_self_eq_false, Int.reduceEq]
      exact fin_ret 2 (by simp [upd_at, hN]) ⟨_, H, Settle.refl hE, by simp [upd_at], rfl⟩
end Go.Lift
