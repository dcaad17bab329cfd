/- Contracts of the reference of layer 6: verdicts, boilings, orders, the first wrong sign. Conditions: none. -/
import Derived.Test.YthnfcdkiaihfcaaGreatPcode
set_option linter.unusedSimpArgs false
set_option linter.unusedVariables false
namespace Go.Lift
open Go Go.Proofs
theorem verdictR_c (a b : Nat) : Pure Tryz.prog 81 [i6 a, i6 b] (i6 (verdictOf a b)) := by
  intro H
  refine fn_of hmix fc81 (by simp) ?_
  rw [ienv2]
  by_cases h1 : (a : Int) = (b : Int)
  · simp only [go_sem, reduceIte, reduceCtorEq, Nat.reduceEqDiff, Nat.reduceBEq, Nat.reduceAdd, Nat.reduceMul, Nat.reduceLeDiff, List.getElem?_cons_zero, List.getElem?_cons_succ, bne_self_eq_false, Int.reduceEq, ac81, h1]
    refine fin_ret' 4 (by simp [upd_at]) ?_
    simp [upd_at, verdictOf, show a = b by omega]
  · by_cases h2 : (a : Int) = 0
    · simp only [go_sem, reduceIte, reduceCtorEq, Nat.reduceEqDiff, Nat.reduceBEq, Nat.reduceAdd, Nat.reduceMul, Nat.reduceLeDiff, List.getElem?_cons_zero, List.getElem?_cons_succ, bne_self_eq_false, Int.reduceEq, ac81, h1, h2, show ¬ ((0 : Int) = (b : Int)) by omega]
      refine fin_ret' 4 (by simp [upd_at]) ?_
      simp [upd_at, verdictOf, show ¬ a = b by omega, show a = 0 by omega]; omega
    · simp only [go_sem, reduceIte, reduceCtorEq, Nat.reduceEqDiff, Nat.reduceBEq, Nat.reduceAdd, Nat.reduceMul, Nat.reduceLeDiff, List.getElem?_cons_zero, List.getElem?_cons_succ, bne_self_eq_false, Int.reduceEq, ac81, h1, h2]
      refine fin_ret' 4 (by simp [upd_at]) ?_
      simp [upd_at, verdictOf, show ¬ a = b by omega, show ¬ a = 0 by omega]
theorem carryR_c (h : House) (hv : HV h) (l : List Course) (hl : Sm l.length) (hc : ∀ c ∈ l, CLen h c) (i : Nat) (hi : i < 62) : Pure Tryz.prog 26 [eH h, eCL l, i6 i] (i6 (verdictOf (l.countP (carriesP h i)) l.length)) := by
  intro H
  unfold Sm at hl
  refine fn_of hmix fc26 (by simp) ?_
  rw [ienv3]
  simp only [go_sem, reduceIte, reduceCtorEq, Nat.reduceEqDiff, Nat.reduceBEq, Nat.reduceAdd, Nat.reduceMul, Nat.reduceLeDiff, List.getElem?_cons_zero, List.getElem?_cons_succ, bne_self_eq_false, Int.reduceEq, ac26, eH, eCL]
  refine v_box _ rfl fun b3 hb3 => ?_
  simp only [go_sem, reduceIte, reduceCtorEq, Nat.reduceEqDiff, Nat.reduceBEq, Nat.reduceAdd, Nat.reduceMul, Nat.reduceLeDiff, List.getElem?_cons_zero, List.getElem?_cons_succ, bne_self_eq_false, Int.reduceEq]
  refine x_for l.length (fun j env H1 => Ext H H1 ∧ H1 b3 = some (.box [.slice (h.table.women.map eW), .slice (h.table.pieces.map eP), i6 h.table.wrong, .slice (eI h.sick), i6 h.others, i6 h.last, .slice (h.touches.map eTo), .slice (h.boiled.map eB), .slice (h.signs.map eS)]) ∧ env 1 = .slice (l.map eCr) ∧ env 2 = i6 i ∧ env 3 = .ptr b3 0 ∧ env 7 = i6 ((l.take j).countP (carriesP h i) : Nat) ∧ env 8 = i6 j ∧ env 32 = .any)
    ⟨(Ext.refl H).new hb3 _, updH_same _ _ _, by simp [upd_at], by simp [upd_at], by simp [upd_at], by simp [upd_at], by simp [upd_at], by simp [upd_at]⟩ ?_
  rintro j env H1 hj ⟨hE, hB3, g1, g2, g3, g7, g8, hN⟩
  by_cases hlt : (j : Int) < (l.length : Int)
  · have hlt' : j < l.length := by omega
    have hll := lastOf_len h l[j] []
    have handp := w_and (natOf_lt62 (c := lastOf h l[j] []) (by omega)) (two_lt hi)
    have hne : (!decide (((natOf (lastOf h l[j] []) &&& 2 ^ i : Nat) : Int) = 0)) = carriesP h i l[j] := by
      rw [Bool.eq_iff_iff, carriesP, ← natOf_and]
      simp only [Bool.not_eq_true', decide_eq_false_iff_not]
      omega
    have hcl : (l.take j).countP (carriesP h i) ≤ j := Nat.le_trans (List.countP_le_length ..) (by simp; omega)
    simp only [go_sem, reduceIte, reduceCtorEq, Nat.reduceEqDiff, Nat.reduceBEq, Nat.reduceAdd, Nat.reduceMul, Nat.reduceLeDiff, List.getElem?_cons_zero, List.getElem?_cons_succ, bne_self_eq_false, Int.reduceEq, g1, g2, g3, g7, g8, hN, hlt, hB3, map_get (f := eCr) hlt', eCr]
    refine pgo_call (Pure.emp2 (last_c h hv l[j] (hc _ (List.getElem_mem hlt')) [] (by simp))) ?_
    simp only [↓aops_nil, ↓aops_go, ↓aops_go0, ↓aops_if, ↓k_cont, ↓k_cont0, g_tt, g_ff, g_tf, g_ft, g_u, ↓apre_nil, ↓apre_if, ↓apre_go, pgo_det, Tag.isCall, popt_some, gp_tt, gp_ff, gp_tf, gp_ft, gp_u, ↓k_draw, opt_some, List.map_cons, List.map_nil, ev, upd_at, ↓x_skip, ↓x_label, ↓x_ret, ↓x_exit, ↓x_seq, ↓x_block, ↓x_ops, ↓x_cond, x_sel_t, x_sel_f, ↓x_draw, ↓q_kseq_n, ↓q_kseq_r, ↓q_kseq_e, ↓q_block_n, ↓q_block_r, ↓q_block_e, ↓q_loop_n, ↓q_loop_r, ↓q_loop_e, ↓l_done, d_mov, d_pick, d_not, d_nilchk, d_nilchk', d_conv, d_add, d_sub, d_mul, d_quo, d_rem, d_shl, d_shr, d_and, d_or, d_andnot, d_eql, d_neq, d_lss, d_leq, d_gtr, d_geq, d_eqb, d_neqb, d_mkfunc, d_load, d_fieldaddr, d_fieldaddr', d_field_t, d_field_f, d_idxaddr, d_idxaddr_g, elemO_some, d_idxaddr_m, d_arraddr, d_arraddr', d_idx_f, d_sub_s, d_sub_g, d_arrsub, d_arrall, d_extract, d_len, d_len_g, d_len_e, d_len_m, d_min, d_build, d_bslice0, d_bs1, d_bs2, d_bsa, d_eqagg, v_mov, v_pick, v_not, v_nilchk, v_conv, v_bin, v_binb, v_eqagg, v_mkfunc, v_load, v_fieldaddr, v_field, v_idxaddr, v_arraddr, v_idx, v_sub, v_arrsub, v_arrall, v_extract, v_len, v_min, v_build, v_bslice, v_lookup, v_call, v_callv, Nat.reduceEqDiff, Nat.reduceBEq, reduceIte, ite_true, ite_false, Bool.false_eq_true, Bool.true_eq_false, if_true, if_false, decide_eq_true_eq, decide_eq_false_iff_not, decide_true, decide_false, Nat.zero_add, Nat.add_zero, Nat.reduceAdd, reduceCtorEq, eq_self, not_true_eq_false, not_false_eq_true, Bool.not_true, Bool.not_false, Nat.reduceMul, List.length_cons, List.length_nil, at_elem, take_f, take_tt, Int.toNat_natCast, Option.some.injEq, Option.bind_some, Int.natCast_nonneg, true_and, and_true, and_self, ↓q_for_n, ↓q_for_r, ↓q_for_e, eI_len, List.length_map, at_obj, obj_box, updH_same, Nat.reduceLeDiff, Nat.zero_le, Nat.le_refl, List.drop_zero, List.drop_succ_cons, List.take_succ_cons, List.take_zero, c_agg, c_int, c_bool, c_slice, c_emp, c_grow, ↓l_one0, ↓l_one1, ↓k_l0, ↓k_l1, stab_nil, stab_cons, stab_if, st_tt, st_ff, st_tf, st_ft, st_u, List.getElem?_cons_zero, List.getElem?_cons_succ, g1, g2, g3, g7, g8, hN, hB3, u64w (show i < 2 ^ 62 by omega), w_shl1 hi, show ¬ ((i : Int) < 0) by omega, handp, hne]
    cases d : carriesP h i l[j]
    · simp only [go_sem, reduceIte, reduceCtorEq, Nat.reduceEqDiff, Nat.reduceBEq, Nat.reduceAdd, Nat.reduceMul, Nat.reduceLeDiff, List.getElem?_cons_zero, List.getElem?_cons_succ, bne_self_eq_false, Int.reduceEq, g1, g2, g3, g7, g8, hN, hB3, wsucc (show j < 4611686018427387904 by omega), hlt']
      refine ⟨hE, ?_⟩
      rw [take_snoc hlt', List.countP_append, List.countP_singleton, d]; rfl
    · simp only [go_sem, reduceIte, reduceCtorEq, Nat.reduceEqDiff, Nat.reduceBEq, Nat.reduceAdd, Nat.reduceMul, Nat.reduceLeDiff, List.getElem?_cons_zero, List.getElem?_cons_succ, bne_self_eq_false, Int.reduceEq, g1, g2, g3, g7, g8, hN, hB3, wsucc (show j < 4611686018427387904 by omega), wsucc (show (l.take j).countP (carriesP h i) < 4611686018427387904 by omega), hlt']
      refine ⟨hE, ?_⟩
      rw [take_snoc hlt', List.countP_append, List.countP_singleton, d]; rfl
  · have : j = l.length := by omega
    subst this
    rw [List.take_length] at g7
    simp only [go_sem, reduceIte, reduceCtorEq, Nat.reduceEqDiff, Nat.reduceBEq, Nat.reduceAdd, Nat.reduceMul, Nat.reduceLeDiff, List.getElem?_cons_zero, List.getElem?_cons_succ, bne_self_eq_false, Int.reduceEq, g1, g2, g3, g7, g8, hN, hlt]
    refine (verdictR_c _ _).go ?_
    simp only [go_sem, reduceIte, reduceCtorEq, Nat.reduceEqDiff, Nat.reduceBEq, Nat.reduceAdd, Nat.reduceMul, Nat.reduceLeDiff, List.getElem?_cons_zero, List.getElem?_cons_succ, bne_self_eq_false, Int.reduceEq]
    exact fin_ret 6 (by simp [upd_at, hN]) ⟨_, H, Settle.refl hE, by simp [upd_at], rfl⟩
theorem harmedR_c (h : House) (hv : HV h) (l : List Course) (hl : Sm l.length) (hc : ∀ c ∈ l, CLen h c) (w : Int) : Pure Tryz.prog 27 [eH h, eCL l, i6 w] (.bool (l.any fun c => harmB h c (lastOf h c []) w)) := by
  intro H
  unfold Sm at hl
  refine fn_of hmix fc27 (by simp) ?_
  rw [ienv3]
  simp only [go_sem, reduceIte, reduceCtorEq, Nat.reduceEqDiff, Nat.reduceBEq, Nat.reduceAdd, Nat.reduceMul, Nat.reduceLeDiff, List.getElem?_cons_zero, List.getElem?_cons_succ, bne_self_eq_false, Int.reduceEq, ac27, eH, eCL]
  refine v_box _ rfl fun b3 hb3 => ?_
  simp only [go_sem, reduceIte, reduceCtorEq, Nat.reduceEqDiff, Nat.reduceBEq, Nat.reduceAdd, Nat.reduceMul, Nat.reduceLeDiff, List.getElem?_cons_zero, List.getElem?_cons_succ, bne_self_eq_false, Int.reduceEq]
  refine x_for l.length (fun j env H1 => Ext H H1 ∧ H1 b3 = some (.box [.slice (h.table.women.map eW), .slice (h.table.pieces.map eP), i6 h.table.wrong, .slice (eI h.sick), i6 h.others, i6 h.last, .slice (h.touches.map eTo), .slice (h.boiled.map eB), .slice (h.signs.map eS)]) ∧ env 1 = .slice (l.map eCr) ∧ env 2 = i6 w ∧ env 3 = .ptr b3 0 ∧ env 7 = i6 j ∧ env 27 = .any ∧ (l.take j).any (fun c => harmB h c (lastOf h c []) w) = false)
    ⟨(Ext.refl H).new hb3 _, updH_same _ _ _, by simp [upd_at], by simp [upd_at], by simp [upd_at], by simp [upd_at], by simp [upd_at], by simp⟩ ?_
  rintro j env H1 hj ⟨hE, hB3, g1, g2, g3, g7, hN, hq⟩
  by_cases hlt : (j : Int) < (l.length : Int)
  · have hlt' : j < l.length := by omega
    have hll := lastOf_len h l[j] []
    have hcl := hc _ (List.getElem_mem hlt')
    simp only [go_sem, reduceIte, reduceCtorEq, Nat.reduceEqDiff, Nat.reduceBEq, Nat.reduceAdd, Nat.reduceMul, Nat.reduceLeDiff, List.getElem?_cons_zero, List.getElem?_cons_succ, bne_self_eq_false, Int.reduceEq, g1, g2, g3, g7, hN, hlt, hB3, map_get (f := eCr) hlt', eCr]
    refine pgo_call (Pure.emp2 (last_c h hv l[j] hcl [] (by simp))) ?_
    simp only [go_sem, reduceIte, reduceCtorEq, Nat.reduceEqDiff, Nat.reduceBEq, Nat.reduceAdd, Nat.reduceMul, Nat.reduceLeDiff, List.getElem?_cons_zero, List.getElem?_cons_succ, bne_self_eq_false, Int.reduceEq, g1, g2, g3, g7, hN, hB3]
    have ho := hcl.1
    refine pgo_call (isHarmed_c h l[j] hv.ok.sk (by have := hv.ok.pcs; omega) _ (by omega) w) ?_
    cases d : harmB h l[j] (lastOf h l[j] []) w
    · simp only [go_sem, reduceIte, reduceCtorEq, Nat.reduceEqDiff, Nat.reduceBEq, Nat.reduceAdd, Nat.reduceMul, Nat.reduceLeDiff, List.getElem?_cons_zero, List.getElem?_cons_succ, bne_self_eq_false, Int.reduceEq, g1, g2, g3, g7, hN, hB3, wsucc (show j < 4611686018427387904 by omega), hlt']
      refine ⟨hE, ?_⟩
      rw [take_snoc hlt', List.any_append, hq, List.any_cons, d]; rfl
    · simp only [go_sem, reduceIte, reduceCtorEq, Nat.reduceEqDiff, Nat.reduceBEq, Nat.reduceAdd, Nat.reduceMul, Nat.reduceLeDiff, List.getElem?_cons_zero, List.getElem?_cons_succ, bne_self_eq_false, Int.reduceEq, hN]
      refine fin_ret 6 (by simp [upd_at, hN]) ⟨_, H, Settle.refl hE, ?_, rfl⟩
      have : l.any (fun c => harmB h c (lastOf h c []) w) = true := List.any_eq_true.2 ⟨_, List.getElem_mem hlt', d⟩
      simp [upd_at, this]
  · have : j = l.length := by omega
    subst this
    rw [List.take_length] at hq
    simp only [go_sem, reduceIte, reduceCtorEq, Nat.reduceEqDiff, Nat.reduceBEq, Nat.reduceAdd, Nat.reduceMul, Nat.reduceLeDiff, List.getElem?_cons_zero, List.getElem?_cons_succ, bne_self_eq_false, Int.reduceEq, g1, g2, g3, g7, hN, hlt]
    refine fin_ret 6 (by simp [upd_at, hN]) ⟨_, H, Settle.refl hE, ?_, rfl⟩
    simp [upd_at, hq]
theorem atR_c (l : List Int) (k : Int) (hl : Sm l.length) : Pure Tryz.prog 56 [.slice (eI l), i6 k] (.slice ((atOf l k).map eB)) := by
  intro H
  unfold Sm at hl
  refine fn_of hmix fc56 (by simp) ?_
  rw [ienv2]
  simp only [go_sem, reduceIte, reduceCtorEq, Nat.reduceEqDiff, Nat.reduceBEq, Nat.reduceAdd, Nat.reduceMul, Nat.reduceLeDiff, List.getElem?_cons_zero, List.getElem?_cons_succ, bne_self_eq_false, Int.reduceEq, ac56]
  refine x_for l.length (fun j env H1 => Ext H H1 ∧ Grown 2 H H1 (env 5) ((atOf (l.take j) k).map eB) ∧ env 0 = .slice (eI l) ∧ env 1 = i6 k ∧ env 6 = i6 j ∧ env 23 = .any)
    ⟨Ext.refl H, .inl ⟨by simp [upd_at], rfl⟩, by simp [upd_at], by simp [upd_at], by simp [upd_at], by simp [upd_at]⟩ ?_
  rintro j env H1 hj ⟨hE, hG, g0, g1, g6, hN⟩
  by_cases hlt : (j : Int) < (l.length : Int)
  · have hlt' : j < l.length := by omega
    simp only [go_sem, reduceIte, reduceCtorEq, Nat.reduceEqDiff, Nat.reduceBEq, Nat.reduceAdd, Nat.reduceMul, Nat.reduceLeDiff, List.getElem?_cons_zero, List.getElem?_cons_succ, bne_self_eq_false, Int.reduceEq, g0, g1, g6, hN, hlt, eI_get hlt', bc2, Option.map_some, d_bsa]
    refine v_append hG hE rfl (eB_good _) (eB_good [⟨l[j], k⟩]) (eB_cell [⟨l[j], k⟩]) (by simp [atOf]; omega) (by simp [atOf]; omega) ?_
    intro v' H2 hg' he' hk'
    simp only [go_sem, reduceIte, reduceCtorEq, Nat.reduceEqDiff, Nat.reduceBEq, Nat.reduceAdd, Nat.reduceMul, Nat.reduceLeDiff, List.getElem?_cons_zero, List.getElem?_cons_succ, bne_self_eq_false, Int.reduceEq, g0, g1, g6, hN, wsucc (show j < 4611686018427387904 by omega), hlt']
    refine ⟨he', ?_⟩
    rw [take_snoc hlt', atOf, List.map_append, List.map_append]; exact hg'
  · have : j = l.length := by omega
    subst this
    rw [List.take_length] at hG
    simp only [go_sem, reduceIte, reduceCtorEq, Nat.reduceEqDiff, Nat.reduceBEq, Nat.reduceAdd, Nat.reduceMul, Nat.reduceLeDiff, List.getElem?_cons_zero, List.getElem?_cons_succ, bne_self_eq_false, Int.reduceEq, g0, g1, g6, hN, hlt]
    refine fin_ret 4 (by simp [upd_at, hN]) ⟨_, H, ?_, rfl, rfl⟩
    simp only [upd_at, if_true]
    exact hG.weaken hE
theorem rowR_c (l : List Int) (k : Int) (hl : Sm l.length) : Pure Tryz.prog 61 [.slice (eI l), i6 k] (.slice ((rowOf l k).map eB)) := by
  intro H
  unfold Sm at hl
  refine fn_of hmix fc61 (by simp) ?_
  rw [ienv2]
  simp only [go_sem, reduceIte, reduceCtorEq, Nat.reduceEqDiff, Nat.reduceBEq, Nat.reduceAdd, Nat.reduceMul, Nat.reduceLeDiff, List.getElem?_cons_zero, List.getElem?_cons_succ, bne_self_eq_false, Int.reduceEq, ac61]
  refine x_for l.length (fun j env H1 => Ext H H1 ∧ Grown 2 H H1 (env 5) (((List.range j).map fun i : Nat => (⟨l.getD i 0, IntKind.i64.wrap (k + (i : Int))⟩ : Boiling)).map eB) ∧ env 0 = .slice (eI l) ∧ env 1 = i6 k ∧ env 6 = i6 j ∧ env 25 = .any)
    ⟨Ext.refl H, .inl ⟨by simp [upd_at], rfl⟩, by simp [upd_at], by simp [upd_at], by simp [upd_at], by simp [upd_at]⟩ ?_
  rintro j env H1 hj ⟨hE, hG, g0, g1, g6, hN⟩
  by_cases hlt : (j : Int) < (l.length : Int)
  · have hlt' : j < l.length := by omega
    have hgl : l.getD j 0 = l[j] := by simp [hlt']
    simp only [go_sem, reduceIte, reduceCtorEq, Nat.reduceEqDiff, Nat.reduceBEq, Nat.reduceAdd, Nat.reduceMul, Nat.reduceLeDiff, List.getElem?_cons_zero, List.getElem?_cons_succ, bne_self_eq_false, Int.reduceEq, g0, g1, g6, hN, hlt, eI_get hlt', bc2, Option.map_some, d_bsa]
    refine v_append hG hE rfl (eB_good _) (eB_good [⟨l[j], IntKind.i64.wrap (k + (j : Int))⟩]) (eB_cell [⟨l[j], IntKind.i64.wrap (k + (j : Int))⟩]) (by simp; omega) (by simp; omega) ?_
    intro v' H2 hg' he' hk'
    simp only [go_sem, reduceIte, reduceCtorEq, Nat.reduceEqDiff, Nat.reduceBEq, Nat.reduceAdd, Nat.reduceMul, Nat.reduceLeDiff, List.getElem?_cons_zero, List.getElem?_cons_succ, bne_self_eq_false, Int.reduceEq, g0, g1, g6, hN, wsucc (show j < 4611686018427387904 by omega), hlt']
    refine ⟨he', ?_⟩
    rw [List.map_append, List.map_append]
    simp only [List.map_cons, List.map_nil, hgl]; exact hg'
  · have : j = l.length := by omega
    subst this
    simp only [go_sem, reduceIte, reduceCtorEq, Nat.reduceEqDiff, Nat.reduceBEq, Nat.reduceAdd, Nat.reduceMul, Nat.reduceLeDiff, List.getElem?_cons_zero, List.getElem?_cons_succ, bne_self_eq_false, Int.reduceEq, g0, g1, g6, hN, hlt]
    refine fin_ret 4 (by simp [upd_at, hN]) ⟨_, H, ?_, rfl, rfl⟩
    simp only [upd_at, if_true]
    exact hG.weaken hE
def isOrd (h : House) (l : List Int) (k : Int) : Bool := l.all (thingOK h) && (decide ((l.length : Int) ≤ 3) && decide (IntKind.i64.wrap (IntKind.i64.wrap (k + (l.length : Int)) - 1) ≤ h.last))
theorem isOrd_c (h : House) (l : List Int) (k : Int) (hl : Sm l.length) : Pure Tryz.prog 60 [eH h, .slice (eI l), i6 k] (.bool (isOrd h l k)) := by
  intro H
  unfold Sm at hl
  refine fn_of hmix fc60 (by simp) ?_
  rw [ienv3]
  simp only [go_sem, reduceIte, reduceCtorEq, Nat.reduceEqDiff, Nat.reduceBEq, Nat.reduceAdd, Nat.reduceMul, Nat.reduceLeDiff, List.getElem?_cons_zero, List.getElem?_cons_succ, bne_self_eq_false, Int.reduceEq, ac60, eH]
  refine v_box _ rfl fun b3 hb3 => ?_
  simp only [go_sem, reduceIte, reduceCtorEq, Nat.reduceEqDiff, Nat.reduceBEq, Nat.reduceAdd, Nat.reduceMul, Nat.reduceLeDiff, List.getElem?_cons_zero, List.getElem?_cons_succ, bne_self_eq_false, Int.reduceEq]
  refine x_for l.length (fun j env H1 => Ext H H1 ∧ H1 b3 = some (.box [.slice (h.table.women.map eW), .slice (h.table.pieces.map eP), i6 h.table.wrong, .slice (eI h.sick), i6 h.others, i6 h.last, .slice (h.touches.map eTo), .slice (h.boiled.map eB), .slice (h.signs.map eS)]) ∧ env 1 = .slice (eI l) ∧ env 2 = i6 k ∧ env 3 = .ptr b3 0 ∧ env 7 = i6 j ∧ env 34 = .any ∧ (l.take j).all (thingOK h) = true)
    ⟨(Ext.refl H).new hb3 _, updH_same _ _ _, by simp [upd_at], by simp [upd_at], by simp [upd_at], by simp [upd_at], by simp [upd_at], by simp⟩ ?_
  rintro j env H1 hj ⟨hE, hB3, g1, g2, g3, g7, hN, hq⟩
  by_cases hlt : (j : Int) < (l.length : Int)
  · have hlt' : j < l.length := by omega
    simp only [go_sem, reduceIte, reduceCtorEq, Nat.reduceEqDiff, Nat.reduceBEq, Nat.reduceAdd, Nat.reduceMul, Nat.reduceLeDiff, List.getElem?_cons_zero, List.getElem?_cons_succ, bne_self_eq_false, Int.reduceEq, g1, g2, g3, g7, hN, hlt, hB3, eI_get hlt']
    refine pgo_call (isThing_c h l[j]) ?_
    cases d : thingOK h l[j]
    · simp only [go_sem, reduceIte, reduceCtorEq, Nat.reduceEqDiff, Nat.reduceBEq, Nat.reduceAdd, Nat.reduceMul, Nat.reduceLeDiff, List.getElem?_cons_zero, List.getElem?_cons_succ, bne_self_eq_false, Int.reduceEq, hN]
      refine fin_ret 6 (by simp [upd_at, hN]) ⟨_, H, Settle.refl hE, ?_, rfl⟩
      have : l.all (thingOK h) = false := by rw [List.all_eq_false]; exact ⟨l[j], List.getElem_mem _, by simp [d]⟩
      simp [upd_at, isOrd, this]
    · simp only [go_sem, reduceIte, reduceCtorEq, Nat.reduceEqDiff, Nat.reduceBEq, Nat.reduceAdd, Nat.reduceMul, Nat.reduceLeDiff, List.getElem?_cons_zero, List.getElem?_cons_succ, bne_self_eq_false, Int.reduceEq, g1, g2, g3, g7, hN, hB3, wsucc (show j < 4611686018427387904 by omega), hlt']
      refine ⟨hE, ?_⟩
      rw [take_snoc hlt', List.all_append, hq, List.all_cons, d]; rfl
  · have : j = l.length := by omega
    subst this
    rw [List.take_length] at hq
    by_cases h3 : (l.length : Int) ≤ 3
    · simp only [go_sem, reduceIte, reduceCtorEq, Nat.reduceEqDiff, Nat.reduceBEq, Nat.reduceAdd, Nat.reduceMul, Nat.reduceLeDiff, List.getElem?_cons_zero, List.getElem?_cons_succ, bne_self_eq_false, Int.reduceEq, g1, g2, g3, g7, hN, hlt, h3, hB3, take_f']
      refine fin_ret 6 (by simp [upd_at, hN]) ⟨_, H, Settle.refl hE, ?_, rfl⟩
      simp only [upd_at, if_true, isOrd, hq, Bool.true_and, decide_eq_true h3]
    · simp only [go_sem, reduceIte, reduceCtorEq, Nat.reduceEqDiff, Nat.reduceBEq, Nat.reduceAdd, Nat.reduceMul, Nat.reduceLeDiff, List.getElem?_cons_zero, List.getElem?_cons_succ, bne_self_eq_false, Int.reduceEq, g1, g2, g3, g7, hN, hlt, h3]
      refine fin_ret 6 (by simp [upd_at, hN]) ⟨_, H, Settle.refl hE, ?_, rfl⟩
      simp only [upd_at, if_true, isOrd, hq, Bool.true_and, decide_eq_false h3, Bool.false_and]
end Go.Lift
