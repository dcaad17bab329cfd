/- Common part 24 of the proof: the tools and contracts. Conditions: none. -/
import Derived.Test.YthnfcdkiaihfcaaGreatP23
import Derived.Deep.Slices
import Derived.ChangeShapes
import Derived.ChangeArms
import Derived.Test.YthnfcdkiaihfcaaGreatRows
import Derived.ProofKit
import Derived.ReadAgain
import Derived.Carry
set_option linter.unusedSimpArgs false
set_option linter.unusedVariables false
namespace Go.Lift
open Go Go.Proofs
theorem natOf_snoc (c : List Bool) (b : Bool) : natOf (c ++ [b]) = if b = true then natOf c ||| 2 ^ c.length else natOf c := by
  apply Nat.eq_of_testBit_eq
  intro i
  rw [natOf_bit, List.getD_eq_getElem?_getD]
  have hl := natOf_lt c
  rcases Nat.lt_trichotomy i c.length with h | h | h
  · rw [List.getElem?_append_left h, ← List.getD_eq_getElem?_getD, ← natOf_bit]
    cases b
    · simp
    · simp [Nat.testBit_or, Nat.testBit_two_pow, show ¬ c.length = i by omega]
  · subst h
    rw [List.getElem?_append_right (Nat.le_refl _)]
    have := Nat.testBit_lt_two_pow hl
    cases b <;> simp [Nat.testBit_or, Nat.testBit_two_pow, this]
  · rw [List.getElem?_append_right (by omega), List.getElem?_eq_none (by simp; omega)]
    have h1 : (natOf c).testBit i = false := Nat.testBit_lt_two_pow (Nat.lt_of_lt_of_le hl (Nat.pow_le_pow_right (by omega) (by omega)))
    cases b <;> simp [Nat.testBit_or, Nat.testBit_two_pow, h1]
    omega
theorem w_shl1 {i : Nat} (hi : i < 62) : IntKind.i64.wrap (1 * 2 ^ Nat.min i IntKind.i64.bits) = ((2 ^ i : Nat) : Int) := by
  have h := w_shl (a := 1) (i := i) (by omega) (by rw [Nat.one_mul]; exact Nat.pow_lt_pow_right (by omega) hi)
  rw [Nat.one_mul] at h
  exact h
theorem two_lt {i : Nat} (hi : i < 62) : 2 ^ i < 2 ^ 62 := Nat.pow_lt_pow_right (by omega) hi
theorem natOf_lt62 {c : List Bool} (hc : c.length ≤ 62) : natOf c < 2 ^ 62 := Nat.lt_of_lt_of_le (natOf_lt c) (Nat.pow_le_pow_right (by omega) hc)
def rightAt (t : Table) (l : List Int) (w : Nat) : Bool := decide ((t.women.getD w default).lo ≤ (l.count (w : Int) : Nat) ∧ ((l.count (w : Int) : Nat) : Int) ≤ (t.women.getD w default).hi)
def rightL (t : Table) (l : List Int) : List Bool := (List.range t.women.length).map (rightAt t l)
theorem rightR_c (t : Table) (l : List Int) (hw : t.women.length ≤ 5) (hl : Sm l.length) : Pure Tryz.prog 150 [eT t, .slice (eI l)] (i6 (natOf (rightL t l) : Nat)) := by
  intro H
  refine fn_of hmix fc150 (by simp) ?_
  rw [ienv2]
  simp only [go_sem, reduceIte, reduceCtorEq, Nat.reduceEqDiff, Nat.reduceBEq, Nat.reduceAdd, Nat.reduceMul, Nat.reduceLeDiff, ac150, eT]
  refine v_box _ rfl fun b1 hb1 => ?_
  simp only [go_sem, reduceIte, reduceCtorEq, Nat.reduceEqDiff, Nat.reduceBEq, Nat.reduceAdd, Nat.reduceMul, Nat.reduceLeDiff]
  refine x_for t.women.length (fun j env H1 => Ext H H1 ∧ H1 b1 = some (.box [.slice (t.women.map eW), .slice (t.pieces.map eP), i6 t.wrong]) ∧ env 1 = .slice (eI l) ∧ env 2 = .ptr b1 0 ∧ env 5 = i6 (natOf ((List.range j).map (rightAt t l)) : Nat) ∧ env 6 = i6 j ∧ env 38 = .any)
    ⟨(Ext.refl H).new hb1 _, updH_same _ _ _, by simp [upd_at], by simp [upd_at], by simp [upd_at, natOf], by simp [upd_at], by simp [upd_at]⟩ ?_
  rintro j env H1 hj ⟨hE, hB, g1, g2, g5, g6, hN⟩
  by_cases hlt : (j : Int) < (t.women.length : Int)
  · have hlt' : j < t.women.length := by omega
    have hget : t.women.getD j default = t.women[j] := by simp [hlt']
    have hsn : natOf ((List.range (j + 1)).map (rightAt t l)) = if rightAt t l j = true then natOf ((List.range j).map (rightAt t l)) ||| 2 ^ j else natOf ((List.range j).map (rightAt t l)) := by
      rw [List.range_succ, List.map_append, List.map_cons, List.map_nil, natOf_snoc]; simp
    simp only [go_sem, reduceIte, reduceCtorEq, Nat.reduceEqDiff, Nat.reduceBEq, Nat.reduceAdd, Nat.reduceMul, Nat.reduceLeDiff, g1, g2, g5, g6, hN, hB, hlt, take_f', List.getElem?_cons_zero]
    refine pgo_call (ownR_c l (j : Int) hl) ?_
    simp only [go_sem, reduceIte, reduceCtorEq, Nat.reduceEqDiff, Nat.reduceBEq, Nat.reduceAdd, Nat.reduceMul, Nat.reduceLeDiff, g1, g2, g5, g6, hN, hB, take_f', List.getElem?_cons_zero, map_get (f := eW) hlt', eW]
    refine pgo_call (in_c _ _ _) ?_
    by_cases hm : t.women[j].lo ≤ ((l.count (j : Int) : Nat) : Int) ∧ ((l.count (j : Int) : Nat) : Int) ≤ t.women[j].hi
    · have hr : rightAt t l j = true := by rw [rightAt, hget]; exact decide_eq_true hm
      have hor := w_or (natOf_lt62 (c := (List.range j).map (rightAt t l)) (by simp; omega)) (two_lt (show j < 62 by omega))
      simp only [↓aops_nil, ↓aops_go, ↓aops_go0, ↓aops_if, ↓k_cont, ↓k_cont0, g_tt, g_ff, g_tf, g_ft, g_u, ↓apre_nil, ↓apre_if, ↓apre_go, pgo_det, Tag.isCall, popt_some, gp_tt, gp_ff, gp_tf, gp_ft, gp_u, ↓k_draw, opt_some, List.map_cons, List.map_nil, ev, upd_at, ↓x_skip, ↓x_label, ↓x_ret, ↓x_exit, ↓x_seq, ↓x_block, ↓x_ops, ↓x_cond, x_sel_t, x_sel_f, ↓x_draw, ↓q_kseq_n, ↓q_kseq_r, ↓q_kseq_e, ↓q_block_n, ↓q_block_r, ↓q_block_e, ↓q_loop_n, ↓q_loop_r, ↓q_loop_e, ↓l_done, d_mov, d_pick, d_not, d_nilchk, d_nilchk', d_conv, d_add, d_sub, d_mul, d_quo, d_rem, d_shl, d_shr, d_and, d_or, d_andnot, d_eql, d_neq, d_lss, d_leq, d_gtr, d_geq, d_eqb, d_neqb, d_mkfunc, d_load, d_fieldaddr, d_fieldaddr', d_field_t, d_field_f, d_idxaddr, d_idxaddr_g, elemO_some, d_idxaddr_m, d_arraddr, d_arraddr', d_idx_f, d_sub_s, d_sub_g, d_arrsub, d_arrall, d_extract, d_len, d_len_g, d_len_e, d_len_m, d_min, d_build, d_bslice0, d_bs1, d_bs2, d_bsa, d_eqagg, v_mov, v_pick, v_not, v_nilchk, v_conv, v_bin, v_binb, v_eqagg, v_mkfunc, v_load, v_fieldaddr, v_field, v_idxaddr, v_arraddr, v_idx, v_sub, v_arrsub, v_arrall, v_extract, v_len, v_min, v_build, v_bslice, v_lookup, v_call, v_callv, Nat.reduceEqDiff, Nat.reduceBEq, reduceIte, ite_true, ite_false, Bool.false_eq_true, Bool.true_eq_false, if_true, if_false, decide_eq_true_eq, decide_eq_false_iff_not, decide_true, decide_false, Nat.zero_add, Nat.add_zero, Nat.reduceAdd, reduceCtorEq, eq_self, not_true_eq_false, not_false_eq_true, Bool.not_true, Bool.not_false, Nat.reduceMul, List.length_cons, List.length_nil, at_elem, take_f, take_tt, Int.toNat_natCast, Option.some.injEq, Option.bind_some, Int.natCast_nonneg, true_and, and_true, and_self, ↓q_for_n, ↓q_for_r, ↓q_for_e, eI_len, List.length_map, at_obj, obj_box, updH_same, Nat.reduceLeDiff, Nat.zero_le, Nat.le_refl, List.drop_zero, List.drop_succ_cons, List.take_succ_cons, List.take_zero, c_agg, c_int, c_bool, c_slice, c_emp, c_grow, ↓l_one0, ↓l_one1, ↓k_l0, ↓k_l1, stab_nil, stab_cons, stab_if, st_tt, st_ff, st_tf, st_ft, st_u, hm, g1, g2, g5, g6, hN, u64w (show j < 2 ^ 62 by omega), w_shl1 (show j < 62 by omega), show ¬ ((j : Int) < 0) by omega, hor, wsucc (show j < 4611686018427387904 by omega), hlt', hB]
      refine ⟨hE, ?_⟩
      rw [hsn, if_pos hr]
    · have hr : rightAt t l j = false := by rw [rightAt, hget]; exact decide_eq_false hm
      simp only [↓aops_nil, ↓aops_go, ↓aops_go0, ↓aops_if, ↓k_cont, ↓k_cont0, g_tt, g_ff, g_tf, g_ft, g_u, ↓apre_nil, ↓apre_if, ↓apre_go, pgo_det, Tag.isCall, popt_some, gp_tt, gp_ff, gp_tf, gp_ft, gp_u, ↓k_draw, opt_some, List.map_cons, List.map_nil, ev, upd_at, ↓x_skip, ↓x_label, ↓x_ret, ↓x_exit, ↓x_seq, ↓x_block, ↓x_ops, ↓x_cond, x_sel_t, x_sel_f, ↓x_draw, ↓q_kseq_n, ↓q_kseq_r, ↓q_kseq_e, ↓q_block_n, ↓q_block_r, ↓q_block_e, ↓q_loop_n, ↓q_loop_r, ↓q_loop_e, ↓l_done, d_mov, d_pick, d_not, d_nilchk, d_nilchk', d_conv, d_add, d_sub, d_mul, d_quo, d_rem, d_shl, d_shr, d_and, d_or, d_andnot, d_eql, d_neq, d_lss, d_leq, d_gtr, d_geq, d_eqb, d_neqb, d_mkfunc, d_load, d_fieldaddr, d_fieldaddr', d_field_t, d_field_f, d_idxaddr, d_idxaddr_g, elemO_some, d_idxaddr_m, d_arraddr, d_arraddr', d_idx_f, d_sub_s, d_sub_g, d_arrsub, d_arrall, d_extract, d_len, d_len_g, d_len_e, d_len_m, d_min, d_build, d_bslice0, d_bs1, d_bs2, d_bsa, d_eqagg, v_mov, v_pick, v_not, v_nilchk, v_conv, v_bin, v_binb, v_eqagg, v_mkfunc, v_load, v_fieldaddr, v_field, v_idxaddr, v_arraddr, v_idx, v_sub, v_arrsub, v_arrall, v_extract, v_len, v_min, v_build, v_bslice, v_lookup, v_call, v_callv, Nat.reduceEqDiff, Nat.reduceBEq, reduceIte, ite_true, ite_false, Bool.false_eq_true, Bool.true_eq_false, if_true, if_false, decide_eq_true_eq, decide_eq_false_iff_not, decide_true, decide_false, Nat.zero_add, Nat.add_zero, Nat.reduceAdd, reduceCtorEq, eq_self, not_true_eq_false, not_false_eq_true, Bool.not_true, Bool.not_false, Nat.reduceMul, List.length_cons, List.length_nil, at_elem, take_f, take_tt, Int.toNat_natCast, Option.some.injEq, Option.bind_some, Int.natCast_nonneg, true_and, and_true, and_self, ↓q_for_n, ↓q_for_r, ↓q_for_e, eI_len, List.length_map, at_obj, obj_box, updH_same, Nat.reduceLeDiff, Nat.zero_le, Nat.le_refl, List.drop_zero, List.drop_succ_cons, List.take_succ_cons, List.take_zero, c_agg, c_int, c_bool, c_slice, c_emp, c_grow, ↓l_one0, ↓l_one1, ↓k_l0, ↓k_l1, stab_nil, stab_cons, stab_if, st_tt, st_ff, st_tf, st_ft, st_u, hm, g1, g2, g5, g6, hN, wsucc (show j < 4611686018427387904 by omega), hlt', hB]
      refine ⟨hE, ?_⟩
      rw [hsn, hr]; rfl
  · simp only [go_sem, reduceIte, reduceCtorEq, Nat.reduceEqDiff, Nat.reduceBEq, Nat.reduceAdd, Nat.reduceMul, Nat.reduceLeDiff, g1, g2, g5, g6, hN, hB, hlt, take_f', List.getElem?_cons_zero]
    have : j = t.women.length := by omega
    subst this
    refine fin_ret 4 (by simp [upd_at, hN]) ⟨_, H, Settle.refl hE, ?_, rfl⟩
    simp [upd_at, rightL]
theorem fullR_c (t : Table) (hw : t.women.length ≤ 5) : Pure Tryz.prog 149 [eT t] (i6 ((2 ^ t.women.length - 1 : Nat) : Int)) := by
  intro H
  refine fn_of hmix fc149 (by simp) ?_
  rw [ienv1]
  simp only [go_sem, reduceIte, reduceCtorEq, Nat.reduceEqDiff, Nat.reduceBEq, Nat.reduceAdd, Nat.reduceMul, Nat.reduceLeDiff, ac149, eT]
  refine v_box _ rfl fun b1 hb1 => ?_
  have hp : 1 ≤ 2 ^ t.women.length := Nat.one_le_two_pow
  have hp2 := two_lt (show t.women.length < 62 by omega)
  have hs : IntKind.i64.wrap (((2 ^ t.women.length : Nat) : Int) - 1) = ((2 ^ t.women.length - 1 : Nat) : Int) := by
    generalize 2 ^ t.women.length = q at hp hp2
    rw [w64 (by omega) (by omega)]; omega
  simp only [↓aops_nil, ↓aops_go, ↓aops_go0, ↓aops_if, ↓k_cont, ↓k_cont0, g_tt, g_ff, g_tf, g_ft, g_u, ↓apre_nil, ↓apre_if, ↓apre_go, pgo_det, Tag.isCall, popt_some, gp_tt, gp_ff, gp_tf, gp_ft, gp_u, ↓k_draw, opt_some, List.map_cons, List.map_nil, ev, upd_at, ↓x_skip, ↓x_label, ↓x_ret, ↓x_exit, ↓x_seq, ↓x_block, ↓x_ops, ↓x_cond, x_sel_t, x_sel_f, ↓x_draw, ↓q_kseq_n, ↓q_kseq_r, ↓q_kseq_e, ↓q_block_n, ↓q_block_r, ↓q_block_e, ↓q_loop_n, ↓q_loop_r, ↓q_loop_e, ↓l_done, d_mov, d_pick, d_not, d_nilchk, d_nilchk', d_conv, d_add, d_sub, d_mul, d_quo, d_rem, d_shl, d_shr, d_and, d_or, d_andnot, d_eql, d_neq, d_lss, d_leq, d_gtr, d_geq, d_eqb, d_neqb, d_mkfunc, d_load, d_fieldaddr, d_fieldaddr', d_field_t, d_field_f, d_idxaddr, d_idxaddr_g, elemO_some, d_idxaddr_m, d_arraddr, d_arraddr', d_idx_f, d_sub_s, d_sub_g, d_arrsub, d_arrall, d_extract, d_len, d_len_g, d_len_e, d_len_m, d_min, d_build, d_bslice0, d_bs1, d_bs2, d_bsa, d_eqagg, v_mov, v_pick, v_not, v_nilchk, v_conv, v_bin, v_binb, v_eqagg, v_mkfunc, v_load, v_fieldaddr, v_field, v_idxaddr, v_arraddr, v_idx, v_sub, v_arrsub, v_arrall, v_extract, v_len, v_min, v_build, v_bslice, v_lookup, v_call, v_callv, Nat.reduceEqDiff, Nat.reduceBEq, reduceIte, ite_true, ite_false, Bool.false_eq_true, Bool.true_eq_false, if_true, if_false, decide_eq_true_eq, decide_eq_false_iff_not, decide_true, decide_false, Nat.zero_add, Nat.add_zero, Nat.reduceAdd, reduceCtorEq, eq_self, not_true_eq_false, not_false_eq_true, Bool.not_true, Bool.not_false, Nat.reduceMul, List.length_cons, List.length_nil, at_elem, take_f, take_tt, Int.toNat_natCast, Option.some.injEq, Option.bind_some, Int.natCast_nonneg, true_and, and_true, and_self, ↓q_for_n, ↓q_for_r, ↓q_for_e, eI_len, List.length_map, at_obj, obj_box, updH_same, Nat.reduceLeDiff, Nat.zero_le, Nat.le_refl, List.drop_zero, List.drop_succ_cons, List.take_succ_cons, List.take_zero, c_agg, c_int, c_bool, c_slice, c_emp, c_grow, take_f', List.getElem?_cons_zero, u64w (show t.women.length < 2 ^ 62 by omega), w_shl1 (show t.women.length < 62 by omega), show ¬ ((t.women.length : Int) < 0) by omega, hs]
  refine fin_ret 2 (by simp [upd_at]) ⟨_, H, Settle.refl ((Ext.refl H).new hb1 _), ?_, rfl⟩
  simp [upd_at]
theorem wrong_bits (t : Table) (l : List Int) (hw : t.women.length ≤ 5) (hp : t.pieces.length ≤ 7) (hl : l.length = t.pieces.length) : bitsL (andN (2 ^ t.women.length - 1) (natOf (rightL t l))) = wrongOf t (pad7 l) := by
  have hlt : andN (2 ^ t.women.length - 1) (natOf (rightL t l)) < 2 ^ t.women.length := by
    apply Nat.lt_pow_two_of_testBit
    intro i hi
    rw [andN_bit, Nat.testBit_two_pow_sub_one]
    simp; omega
  rw [bitsL_of (by omega) hlt, bitsUpto, wrongOf, wrongUpto]
  congr 1
  apply List.filter_congr
  intro w hww
  have hww' : w < t.women.length := by simpa using hww
  rw [andN_bit, Nat.testBit_two_pow_sub_one, natOf_bit]
  have h1 : (rightL t l).getD w false = rightAt t l w := by simp [rightL, hww']
  have h2 : (pad7 l).take t.pieces.length = l := by
    rw [pad7, padTo, List.take_length, ← hl, List.take_left']; rfl
  rw [h1, rightAt, h2]
  simp [hww']
theorem isTruthR_c (t : Table) (hs : TSm t) (hw : t.women.length ≤ 5) (hp : t.pieces.length ≤ 7) (l : List Int) (hl : Sm l.length) : Pure Tryz.prog 122 [eT t, .slice (eI l)] (.bool (isTruthR t l)) := by
  intro H
  refine fn_of hmix fc122 (by simp) ?_
  rw [ienv2]
  simp only [go_sem, reduceIte, reduceCtorEq, Nat.reduceEqDiff, Nat.reduceBEq, Nat.reduceAdd, Nat.reduceMul, Nat.reduceLeDiff, ac122, eT]
  refine v_box _ rfl fun b1 hb1 => ?_
  have e1 := (Ext.refl H).new hb1 (.box [.slice (t.women.map eW), .slice (t.pieces.map eP), i6 t.wrong])
  simp only [go_sem, reduceIte, reduceCtorEq, Nat.reduceEqDiff, Nat.reduceBEq, Nat.reduceAdd, Nat.reduceMul, Nat.reduceLeDiff]
  refine pgo_call (ownersR_c t hs l hl) ?_
  cases c1 : ownersOK t l
  · simp only [go_sem, reduceIte, reduceCtorEq, Nat.reduceEqDiff, Nat.reduceBEq, Nat.reduceAdd, Nat.reduceMul, Nat.reduceLeDiff]
    refine fin_ret 4 (by simp [upd_at]) ⟨_, H, Settle.refl e1, ?_, rfl⟩
    simp [upd_at, isTruthR, c1]
  have hll := (agg_ok_owners t l c1).1
  have hpw := two_lt (show t.women.length < 62 by omega)
  have hrl : (rightL t l).length ≤ 62 := by simp [rightL]; omega
  simp only [go_sem, reduceIte, reduceCtorEq, Nat.reduceEqDiff, Nat.reduceBEq, Nat.reduceAdd, Nat.reduceMul, Nat.reduceLeDiff]
  refine pgo_call (fullR_c t hw) ?_
  simp only [go_sem, reduceIte, reduceCtorEq, Nat.reduceEqDiff, Nat.reduceBEq, Nat.reduceAdd, Nat.reduceMul, Nat.reduceLeDiff]
  refine pgo_call (rightR_c t l hw hl) ?_
  have handn := w_andN (a := 2 ^ t.women.length - 1) (b := natOf (rightL t l)) (by omega) (natOf_lt62 hrl)
  have hlt : andN (2 ^ t.women.length - 1) (natOf (rightL t l)) < 2 ^ 62 := by
    apply Nat.lt_pow_two_of_testBit
    intro i hi
    rw [andN_bit, Nat.testBit_two_pow_sub_one]
    simp; omega
  simp only [↓aops_nil, ↓aops_go, ↓aops_go0, ↓aops_if, ↓k_cont, ↓k_cont0, g_tt, g_ff, g_tf, g_ft, g_u, ↓apre_nil, ↓apre_if, ↓apre_go, pgo_det, Tag.isCall, popt_some, gp_tt, gp_ff, gp_tf, gp_ft, gp_u, ↓k_draw, opt_some, List.map_cons, List.map_nil, ev, upd_at, ↓x_skip, ↓x_label, ↓x_ret, ↓x_exit, ↓x_seq, ↓x_block, ↓x_ops, ↓x_cond, x_sel_t, x_sel_f, ↓x_draw, ↓q_kseq_n, ↓q_kseq_r, ↓q_kseq_e, ↓q_block_n, ↓q_block_r, ↓q_block_e, ↓q_loop_n, ↓q_loop_r, ↓q_loop_e, ↓l_done, d_mov, d_pick, d_not, d_nilchk, d_nilchk', d_conv, d_add, d_sub, d_mul, d_quo, d_rem, d_shl, d_shr, d_and, d_or, d_andnot, d_eql, d_neq, d_lss, d_leq, d_gtr, d_geq, d_eqb, d_neqb, d_mkfunc, d_load, d_fieldaddr, d_fieldaddr', d_field_t, d_field_f, d_idxaddr, d_idxaddr_g, elemO_some, d_idxaddr_m, d_arraddr, d_arraddr', d_idx_f, d_sub_s, d_sub_g, d_arrsub, d_arrall, d_extract, d_len, d_len_g, d_len_e, d_len_m, d_min, d_build, d_bslice0, d_bs1, d_bs2, d_bsa, d_eqagg, v_mov, v_pick, v_not, v_nilchk, v_conv, v_bin, v_binb, v_eqagg, v_mkfunc, v_load, v_fieldaddr, v_field, v_idxaddr, v_arraddr, v_idx, v_sub, v_arrsub, v_arrall, v_extract, v_len, v_min, v_build, v_bslice, v_lookup, v_call, v_callv, Nat.reduceEqDiff, Nat.reduceBEq, reduceIte, ite_true, ite_false, Bool.false_eq_true, Bool.true_eq_false, if_true, if_false, decide_eq_true_eq, decide_eq_false_iff_not, decide_true, decide_false, Nat.zero_add, Nat.add_zero, Nat.reduceAdd, reduceCtorEq, eq_self, not_true_eq_false, not_false_eq_true, Bool.not_true, Bool.not_false, Nat.reduceMul, List.length_cons, List.length_nil, at_elem, take_f, take_tt, Int.toNat_natCast, Option.some.injEq, Option.bind_some, Int.natCast_nonneg, true_and, and_true, and_self, ↓q_for_n, ↓q_for_r, ↓q_for_e, eI_len, List.length_map, at_obj, obj_box, updH_same, Nat.reduceLeDiff, Nat.zero_le, Nat.le_refl, List.drop_zero, List.drop_succ_cons, List.take_succ_cons, List.take_zero, c_agg, c_int, c_bool, c_slice, c_emp, c_grow, ↓l_one0, ↓l_one1, ↓k_l0, ↓k_l1, stab_nil, stab_cons, stab_if, st_tt, st_ff, st_tf, st_ft, st_u, handn]
  refine pgo_call (bits_c _ hlt) ?_
  rw [wrong_bits t l hw hp hll]
  simp only [go_sem, reduceIte, reduceCtorEq, Nat.reduceEqDiff, Nat.reduceBEq, Nat.reduceAdd, Nat.reduceMul, Nat.reduceLeDiff, take_f', List.getElem?_cons_zero]
  refine fin_ret 4 (by simp [upd_at]) ⟨_, H, Settle.refl e1, ?_, rfl⟩
  simp [upd_at, isTruthR, c1]
end Go.Lift
set_option linter.unusedSimpArgs false
set_option linter.unusedVariables false
namespace Go.Lift
open Go Go.Proofs
def nthL (t : Table) : Nat → Nat → List Int
  | 0, _ => []
  | i + 1, n => nthL t i (n / womN t i) ++ [(ofAt t i).getD (n % womN t i) 0]
theorem nthL_len (t : Table) : ∀ (k n : Nat), (nthL t k n).length = k
  | 0, _ => rfl
  | k + 1, n => by rw [nthL, List.length_append, nthL_len t k]; rfl
theorem nth_c (t : Table) (hs : TSm t) (hpos : ∀ i, i < t.pieces.length → 1 ≤ womN t i) (n : Nat) (hn : n < 2 ^ 62) : Pure Tryz.prog 129 [eT t, i6 n] (.slice (eI (nthL t t.pieces.length n))) := by
  intro H
  have h2 := hs.pieces
  unfold Sm at h2
  refine fn_of hmix fc129 (by simp) ?_
  rw [ienv2]
  have hsub : IntKind.i64.wrap ((t.pieces.length : Int) - 1) = (t.pieces.length : Int) - 1 := w64 (by omega) (by omega)
  simp only [go_sem, reduceIte, reduceCtorEq, Nat.reduceEqDiff, Nat.reduceBEq, Nat.reduceAdd, Nat.reduceMul, Nat.reduceLeDiff, ac129, eT]
  refine v_box _ rfl fun b1 hb1 => ?_
  simp only [go_sem, reduceIte, reduceCtorEq, Nat.reduceEqDiff, Nat.reduceBEq, Nat.reduceAdd, Nat.reduceMul, Nat.reduceLeDiff, take_f', List.getElem?_cons_zero]
  refine ⟨by omega, by omega, by omega, fun b3 hb3 => ?_⟩
  have n13 : b1 ≠ b3 := fun h => by subst h; simp at hb3
  have e1 := (Ext.refl H).new hb1 (.box [.slice (t.women.map eW), .slice (t.pieces.map eP), i6 t.wrong])
  have z3 : H b3 = none := e1.isNone hb3
  have hfl : (List.replicate t.pieces.length [AV.int .i64 0]).flatten = (List.replicate t.pieces.length (0 : Int)).map i6 := by
    generalize t.pieces.length = m
    induction m with
    | zero => rfl
    | succ n ih => rw [List.replicate_succ, List.flatten_cons, ih]; rfl
  simp only [go_sem, reduceIte, reduceCtorEq, Nat.reduceEqDiff, Nat.reduceBEq, Nat.reduceAdd, Nat.reduceMul, Nat.reduceLeDiff, updH_ne _ _ n13, take_f', List.getElem?_cons_zero, hsub]
  rw [hfl]
  refine x_for t.pieces.length (fun s env H1 => Ext H H1 ∧ H1 b1 = some (.box [.slice (t.women.map eW), .slice (t.pieces.map eP), i6 t.wrong]) ∧ (∃ (k nk : Nat) (suf : List Int), s + k = t.pieces.length ∧ nk < 2 ^ 62 ∧ suf.length = s ∧ nthL t t.pieces.length n = nthL t k nk ++ suf ∧ H1 b3 = some (.box ((List.replicate k (0 : Int) ++ suf).map i6)) ∧ env 1 = i6 nk ∧ env 6 = i6 ((k : Int) - 1)) ∧
      env 2 = .ptr b1 0 ∧ env 5 = .mslice b3 0 t.pieces.length t.pieces.length ∧ env 38 = .any)
    ⟨e1.new hb3 _, by rw [updH_ne _ _ n13]; exact updH_same _ _ _, ⟨t.pieces.length, n, [], by omega, hn, rfl, by simp, by rw [List.append_nil]; exact updH_same _ _ _, by simp [upd_at], by simp [upd_at]⟩, by simp [upd_at], by simp [upd_at], by simp [upd_at]⟩ ?_
  rintro s env H1 hsj ⟨hE, hB, ⟨k, nk, suf, hk, hnk, hsuf, heq, hB3, g1, g6⟩, g2, g5, hN⟩
  by_cases hlt : (0 : Int) ≤ (k : Int) - 1
  · obtain ⟨i, rfl⟩ : ∃ i, k = i + 1 := ⟨k - 1, by omega⟩
    have hi : i < t.pieces.length := by omega
    have hcast : ((i + 1 : Nat) : Int) - 1 = (i : Int) := by omega
    rw [hcast] at g6 hlt
    have hp := hpos i hi
    have hlen : (ofAt t i).length = womN t i := rfl
    have hwn : womN t i < 2147483648 := by
      have := womenUpto_len t.women (t.pieces.getD i default).marks t.women.length; have := hs.women; unfold Sm at this; rw [← hlen]; simp only [ofAt, womenOf]; omega
    have hne : ¬ ((womN t i : Nat) : Int) = 0 := by omega
    have hrem : (nk : Int).tmod ((womN t i : Nat) : Int) = ((nk % womN t i : Nat) : Int) := (Int.ofNat_tmod nk (womN t i)).symm
    have hquo : (nk : Int).tdiv ((womN t i : Nat) : Int) = ((nk / womN t i : Nat) : Int) := (Int.ofNat_tdiv nk (womN t i)).symm
    have hml : nk % womN t i < (ofAt t i).length := Nat.mod_lt _ hp
    have hdl : nk / womN t i < 2 ^ 62 := Nat.lt_of_le_of_lt (Nat.div_le_self _ _) hnk
    have hwd : IntKind.i64.wrap ((nk / womN t i : Nat) : Int) = ((nk / womN t i : Nat) : Int) := by
      generalize nk / womN t i = q at hdl
      exact w64 (by omega) (by omega)
    have hdec : IntKind.i64.wrap ((i : Int) - 1) = (i : Int) - 1 := w64 (by omega) (by omega)
    simp only [go_sem, reduceIte, reduceCtorEq, Nat.reduceEqDiff, Nat.reduceBEq, Nat.reduceAdd, Nat.reduceMul, Nat.reduceLeDiff, g1, g2, g5, g6, hN, hB, hlt]
    refine (womenR_c t hs i hi).go ?_
    simp only [go_sem, reduceIte, reduceCtorEq, Nat.reduceEqDiff, Nat.reduceBEq, Nat.reduceAdd, Nat.reduceMul, Nat.reduceLeDiff, g1, g2, g5, g6, hN, hlen, hne, hrem, hquo, hwd, eI_get hml, take_f', List.getElem?_cons_zero, show (i : Int) < (t.pieces.length : Int) by omega, Nat.mul_one]
    rw [v_store]
    refine ⟨rfl, rfl, by simp [AV.cells, AV.isCell], _, hB3, by simp, ?_⟩
    rw [show (AV.int .i64 (ofAt t i)[nk % womN t i]).cells = [i6 (ofAt t i)[nk % womN t i]] from rfl, iset _ _ _ (by simp; omega)]
    have hset : (List.replicate (i + 1) (0 : Int) ++ suf).set i (ofAt t i)[nk % womN t i] = List.replicate i 0 ++ ((ofAt t i)[nk % womN t i] :: suf) := by
      rw [List.replicate_succ', List.append_assoc, List.set_append_right _ _ (by simp)]
      simp
    rw [hset]
    simp only [go_sem, reduceIte, reduceCtorEq, Nat.reduceEqDiff, Nat.reduceBEq, Nat.reduceAdd, Nat.reduceMul, Nat.reduceLeDiff, g1, g2, g5, g6, hN, hdec, show s < t.pieces.length by omega, updH_ne _ _ n13, hB]
    refine ⟨hE.upd z3 _, i, nk / womN t i, (ofAt t i)[nk % womN t i] :: suf, by omega, hdl, by simp [hsuf], ?_, rfl, rfl, rfl⟩
    rw [heq, nthL, List.append_assoc]
    congr 1
    simp [hml]
  · simp only [go_sem, reduceIte, reduceCtorEq, Nat.reduceEqDiff, Nat.reduceBEq, Nat.reduceAdd, Nat.reduceMul, Nat.reduceLeDiff, g1, g2, g5, g6, hN, hlt]
    have hk0 : k = 0 := by omega
    subst hk0
    have hsl : suf.length = t.pieces.length := by omega
    rw [heq]
    simp only [nthL, List.nil_append, List.replicate_zero] at hB3 ⊢
    refine fin_ret 4 (by simp [upd_at, hN]) ⟨_, H, ?_, rfl, rfl⟩
    simp only [upd_at, if_true]
    have := settle_mslice (n := t.pieces.length) (cap := t.pieces.length) hB3 hE z3 (by simp [hsl]) (Nat.le_refl _)
    simpa [eI, List.map_map, Function.comp_def] using this
theorem d_bs_s {H : AHeap} (es : List (List AV)) : detV (.bslice 1) [.slice es] H = some (.slice [[.slice es]]) := by simp [detV, AV.ok, AV.cells]
theorem eII_good (l : List (List Int)) : goodEls 1 (l.map fun x => [AV.slice (eI x)]) := by
  intro e he; rw [List.mem_map] at he; obtain ⟨x, _, rfl⟩ := he; rfl
theorem eII_cell (l : List (List Int)) : cellEls (l.map fun x => [AV.slice (eI x)]) := by
  intro e he x hx; rw [List.mem_map] at he; obtain ⟨y, _, rfl⟩ := he
  simp only [List.mem_singleton] at hx; subst hx; rfl
def ownersUpto (t : Table) (j : Nat) : List (List Int) := ((List.range j).map (nthL t t.pieces.length)).filter (isTruthR t)
def truthsR (t : Table) : List (List Int) := ownersUpto t (manyR t t.pieces.length)
theorem ownersUpto_succ (t : Table) (j : Nat) : ownersUpto t (j + 1) = ownersUpto t j ++ (if isTruthR t (nthL t t.pieces.length j) = true then [nthL t t.pieces.length j] else []) := by
  simp only [ownersUpto, List.range_succ, List.map_append, List.filter_append, List.map_cons, List.map_nil]
  congr 1
  cases h : isTruthR t (nthL t t.pieces.length j) <;> simp only [List.filter_cons, h, List.filter_nil] <;> simp
theorem ownersUpto_len (t : Table) (j : Nat) : (ownersUpto t j).length ≤ j := by
  simp only [ownersUpto]
  exact Nat.le_trans (List.length_filter_le _ _) (by simp)
theorem truthsR_c (t : Table) (hs : TSm t) (hc : checkTable t = 0) : Pure Tryz.prog 88 [eT t] (eII (truthsR t)) := by
  intro H
  obtain ⟨hw5, hp7⟩ := checkTable_len hc
  have hpos := womN_pos hc
  have hmr : manyR t t.pieces.length ≤ 3000 := Nat.min_le_left _ _
  refine fn_of hmix fc88 (by simp) ?_
  rw [ienv1]
  simp only [go_sem, reduceIte, reduceCtorEq, Nat.reduceEqDiff, Nat.reduceBEq, Nat.reduceAdd, Nat.reduceMul, Nat.reduceLeDiff, ac88, eT]
  refine v_box _ rfl fun b1 hb1 => ?_
  simp only [go_sem, reduceIte, reduceCtorEq, Nat.reduceEqDiff, Nat.reduceBEq, Nat.reduceAdd, Nat.reduceMul, Nat.reduceLeDiff]
  refine x_for (manyR t t.pieces.length) (fun j env H1 => Ext H H1 ∧ H1 b1 = some (.box [.slice (t.women.map eW), .slice (t.pieces.map eP), i6 t.wrong]) ∧ Grown 1 H H1 (env 3) ((ownersUpto t j).map fun x => [AV.slice (eI x)]) ∧ env 1 = .ptr b1 0 ∧ env 4 = i6 j ∧ env 23 = .any)
    ⟨(Ext.refl H).new hb1 _, updH_same _ _ _, .inl ⟨by simp [upd_at], rfl⟩, by simp [upd_at], by simp [upd_at], by simp [upd_at]⟩ ?_
  rintro j env H1 hj ⟨hE, hB, hG, g1, g4, hN⟩
  have hul := ownersUpto_len t j
  simp only [go_sem, reduceIte, reduceCtorEq, Nat.reduceEqDiff, Nat.reduceBEq, Nat.reduceAdd, Nat.reduceMul, Nat.reduceLeDiff, g1, g4, hN, hB]
  refine (manyR_c t hs).go ?_
  by_cases hlt : (j : Int) < ((manyR t t.pieces.length : Nat) : Int)
  · have hlt' : j < manyR t t.pieces.length := by omega
    simp only [go_sem, reduceIte, reduceCtorEq, Nat.reduceEqDiff, Nat.reduceBEq, Nat.reduceAdd, Nat.reduceMul, Nat.reduceLeDiff, g1, g4, hN, hB, hlt]
    refine (nth_c t hs hpos j (by omega)).go ?_
    simp only [go_sem, reduceIte, reduceCtorEq, Nat.reduceEqDiff, Nat.reduceBEq, Nat.reduceAdd, Nat.reduceMul, Nat.reduceLeDiff, g1, g4, hN, hB]
    refine (isTruthR_c t hs hw5 hp7 _ (by unfold Sm; rw [nthL_len]; omega)).go ?_
    cases hT : isTruthR t (nthL t t.pieces.length j)
    · simp only [go_sem, reduceIte, reduceCtorEq, Nat.reduceEqDiff, Nat.reduceBEq, Nat.reduceAdd, Nat.reduceMul, Nat.reduceLeDiff, g1, g4, hN, hB, wsucc (show j < 4611686018427387904 by omega), hlt']
      refine ⟨hE, ?_⟩
      rw [ownersUpto_succ, hT]; simpa using hG
    · simp only [go_sem, reduceIte, reduceCtorEq, Nat.reduceEqDiff, Nat.reduceBEq, Nat.reduceAdd, Nat.reduceMul, Nat.reduceLeDiff, g1, g4, hN, d_bs_s]
      refine v_append hG hE rfl (eII_good _) (eII_good [nthL t t.pieces.length j]) (eII_cell [nthL t t.pieces.length j]) (by simp; omega) (by simp; omega) ?_
      intro v' H2 hg' he' hk'
      simp only [go_sem, reduceIte, reduceCtorEq, Nat.reduceEqDiff, Nat.reduceBEq, Nat.reduceAdd, Nat.reduceMul, Nat.reduceLeDiff, g1, g4, hN, wsucc (show j < 4611686018427387904 by omega), hlt']
      refine ⟨he', hk'.box hG hB, ?_⟩
      rw [ownersUpto_succ, hT, if_pos rfl, List.map_append]; exact hg'
  · simp only [go_sem, reduceIte, reduceCtorEq, Nat.reduceEqDiff, Nat.reduceBEq, Nat.reduceAdd, Nat.reduceMul, Nat.reduceLeDiff, g1, g4, hN, hlt]
    have : j = manyR t t.pieces.length := by omega
    subst this
    refine fin_ret 2 (by simp [upd_at, hN]) ⟨_, H, ?_, rfl, rfl⟩
    simp only [upd_at, if_true]
    exact hG.weaken hE
end Go.Lift
set_option linter.unusedSimpArgs false
set_option linter.unusedVariables false
namespace Go.Lift
open Go Go.Proofs
theorem thingsR_c (h : House) : Pure Tryz.prog 25 [eH h] (i6 (thingsW h)) := by
  intro H
  refine fn_of hmix fc25 (by simp) ?_
  rw [ienv1]
  simp only [go_sem, reduceIte, reduceCtorEq, Nat.reduceEqDiff, Nat.reduceBEq, Nat.reduceAdd, Nat.reduceMul, Nat.reduceLeDiff, ac25, eH]
  refine v_box _ rfl fun b1 hb1 => ?_
  simp only [go_sem, reduceIte, reduceCtorEq, Nat.reduceEqDiff, Nat.reduceBEq, Nat.reduceAdd, Nat.reduceMul, Nat.reduceLeDiff, take_f', List.getElem?_cons_zero]
  refine fin_ret 2 (by simp [upd_at]) ⟨_, H, Settle.refl ((Ext.refl H).new hb1 _), ?_⟩
  simp [upd_at, thingsW]
theorem isThing_c (h : House) (n : Int) : Pure Tryz.prog 96 [eH h, i6 n] (.bool (thingOK h n)) := by
  intro H
  refine fn_of hmix fc96 (by simp) ?_
  rw [ienv2]
  simp only [go_sem, reduceIte, reduceCtorEq, Nat.reduceEqDiff, Nat.reduceBEq, Nat.reduceAdd, Nat.reduceMul, Nat.reduceLeDiff, ac96, eH]
  refine v_box _ rfl fun b1 hb1 => ?_
  simp only [go_sem, reduceIte, reduceCtorEq, Nat.reduceEqDiff, Nat.reduceBEq, Nat.reduceAdd, Nat.reduceMul, Nat.reduceLeDiff]
  refine (thingsR_c h).go ?_
  simp only [go_sem, reduceIte, reduceCtorEq, Nat.reduceEqDiff, Nat.reduceBEq, Nat.reduceAdd, Nat.reduceMul, Nat.reduceLeDiff]
  refine (in_c n 0 _).go ?_
  simp only [go_sem, reduceIte, reduceCtorEq, Nat.reduceEqDiff, Nat.reduceBEq, Nat.reduceAdd, Nat.reduceMul, Nat.reduceLeDiff]
  refine fin_ret 4 (by simp [upd_at]) ⟨_, H, Settle.refl ((Ext.refl H).new hb1 _), ?_⟩
  simp [upd_at, thingOK]
theorem isHour_c (h : House) (n : Int) : Pure Tryz.prog 97 [eH h, i6 n] (.bool (hourOK h n)) := by
  intro H
  refine fn_of hmix fc97 (by simp) ?_
  rw [ienv2]
  simp only [go_sem, reduceIte, reduceCtorEq, Nat.reduceEqDiff, Nat.reduceBEq, Nat.reduceAdd, Nat.reduceMul, Nat.reduceLeDiff, ac97, eH]
  refine v_box _ rfl fun b1 hb1 => ?_
  simp only [go_sem, reduceIte, reduceCtorEq, Nat.reduceEqDiff, Nat.reduceBEq, Nat.reduceAdd, Nat.reduceMul, Nat.reduceLeDiff, take_f', List.getElem?_cons_zero]
  refine (in_c n 0 _).go ?_
  simp only [go_sem, reduceIte, reduceCtorEq, Nat.reduceEqDiff, Nat.reduceBEq, Nat.reduceAdd, Nat.reduceMul, Nat.reduceLeDiff]
  refine fin_ret 4 (by simp [upd_at]) ⟨_, H, Settle.refl ((Ext.refl H).new hb1 _), ?_⟩
  simp [upd_at, hourOK]
def risingRAt (l : List Int) (limit : Int) (i : Nat) : Bool := decide (0 ≤ l.getD i 0 ∧ l.getD i 0 ≤ IntKind.i64.wrap (limit - 1)) && (decide (i = 0) || !decide (l.getD i 0 ≤ l.getD (i - 1) 0))
def risingR (l : List Int) (limit : Int) : Bool := (List.range l.length).all (risingRAt l limit)
theorem risingR_c (l : List Int) (limit : Int) (hl : Sm l.length) : Pure Tryz.prog 54 [.slice (eI l), i6 limit] (.bool (risingR l limit)) := by
  intro H
  unfold Sm at hl
  refine fn_of hmix fc54 (by simp) ?_
  rw [ienv2]
  simp only [go_sem, reduceIte, reduceCtorEq, Nat.reduceEqDiff, Nat.reduceBEq, Nat.reduceAdd, Nat.reduceMul, Nat.reduceLeDiff, ac54]
  refine x_for l.length (fun k env H1 => H1 = H ∧ env 0 = .slice (eI l) ∧ env 1 = i6 limit ∧ env 5 = i6 k ∧ env 36 = .any ∧ ∀ i, i < k → risingRAt l limit i = true) (by simp [upd_at]) ?_
  rintro k env H1 hk ⟨rfl, g0, g1, g5, hN, hm⟩
  by_cases hlt : (k : Int) < (l.length : Int)
  · have hltk : k < l.length := by omega
    have hgk : l.getD k 0 = l[k] := by simp [hltk]
    have hbad : risingRAt l limit k = false → risingR l limit = false := fun h => by
      rw [risingR, List.all_eq_false]; exact ⟨k, by simp [hltk], by simp [h]⟩
    simp only [go_sem, reduceIte, reduceCtorEq, Nat.reduceEqDiff, Nat.reduceBEq, Nat.reduceAdd, Nat.reduceMul, Nat.reduceLeDiff, g0, g1, g5, hN, hlt, eI_get hltk]
    refine pgo_call (in_c l[k] 0 _) ?_
    by_cases d1 : 0 ≤ l[k] ∧ l[k] ≤ IntKind.i64.wrap (limit - 1)
    rotate_left
    · simp only [go_sem, reduceIte, reduceCtorEq, Nat.reduceEqDiff, Nat.reduceBEq, Nat.reduceAdd, Nat.reduceMul, Nat.reduceLeDiff, d1, hN]
      refine fin_ret' 4 (by simp [upd_at, hN]) ?_
      rw [hbad (by rw [risingRAt, hgk, decide_eq_false d1]; rfl)]; simp [upd_at]
    by_cases d2 : (0 : Int) < (k : Int)
    rotate_left
    · have hk0 : k = 0 := by omega
      simp only [go_sem, reduceIte, reduceCtorEq, Nat.reduceEqDiff, Nat.reduceBEq, Nat.reduceAdd, Nat.reduceMul, Nat.reduceLeDiff, d1, d2, g0, g1, g5, hN, wsucc (show k < 4611686018427387904 by omega), hltk]
      intro i hi
      rcases Nat.lt_or_ge i k with h | h
      · exact hm i h
      · have : i = k := by omega
        subst this; rw [risingRAt, hgk, decide_eq_true d1]; simp [hk0]
    have hgk1 : l.getD (k - 1) 0 = l[k - 1] := by simp [show k - 1 < l.length by omega]
    have hk0 : ¬ k = 0 := by omega
    by_cases d3 : l[k] ≤ l[k - 1]
    · simp only [go_sem, reduceIte, reduceCtorEq, Nat.reduceEqDiff, Nat.reduceBEq, Nat.reduceAdd, Nat.reduceMul, Nat.reduceLeDiff, d1, d2, d3, g0, g1, g5, hN, wpred (show k < 4611686018427387904 by omega) (show 0 < k by omega), eI_get hltk, eI_get (show k - 1 < l.length by omega)]
      refine fin_ret' 4 (by simp [upd_at, hN]) ?_
      rw [hbad (by rw [risingRAt, hgk, hgk1, decide_eq_true d3, decide_eq_false hk0]; simp)]; simp [upd_at]
    · simp only [go_sem, reduceIte, reduceCtorEq, Nat.reduceEqDiff, Nat.reduceBEq, Nat.reduceAdd, Nat.reduceMul, Nat.reduceLeDiff, d1, d2, d3, g0, g1, g5, hN, wpred (show k < 4611686018427387904 by omega) (show 0 < k by omega), eI_get hltk, eI_get (show k - 1 < l.length by omega), wsucc (show k < 4611686018427387904 by omega), hltk]
      intro i hi
      rcases Nat.lt_or_ge i k with h | h
      · exact hm i h
      · have : i = k := by omega
        subst this; rw [risingRAt, hgk, hgk1, decide_eq_true d1, decide_eq_false d3]; simp
  · simp only [go_sem, reduceIte, reduceCtorEq, Nat.reduceEqDiff, Nat.reduceBEq, Nat.reduceAdd, Nat.reduceMul, Nat.reduceLeDiff, g0, g1, g5, hN, hlt]
    have : k = l.length := by omega
    subst this
    refine fin_ret' 4 (by simp [upd_at, hN]) ?_
    have : risingR l limit = true := by rw [risingR, List.all_eq_true]; intro i hi; exact hm i (by simpa using hi)
    simp [upd_at, this]
theorem rising_eq (l : List Int) (limit : Int) (h0 : 0 ≤ limit) (h1 : limit < 4611686018427387904) : risingOK l limit = risingR l limit := by
  have hw := w64 (x := limit - 1) (by omega) (by omega)
  have key : ∀ n, (∀ i, i < n → risingAt l limit i = true) ↔ (∀ i, i < n → risingRAt l limit i = true) := by
    intro n
    induction n with
    | zero => constructor <;> intro _ i hi <;> omega
    | succ n ih =>
      have step : (∀ i, i < n → risingRAt l limit i = true) → (risingAt l limit n = true ↔ risingRAt l limit n = true) := by
        intro hp
        simp only [risingAt, risingRAt, hw, lastAt]
        cases n with
        | zero => simp [w64]
        | succ m =>
          have hm := hp m (by omega)
          simp only [risingRAt, hw, Bool.and_eq_true, decide_eq_true_eq] at hm
          have h2 := hm.1
          have hw2 := w64 (x := l.getD m 0 + 1) (by omega) (by omega)
          simp only [Nat.add_one_ne_zero, if_false, Nat.add_sub_cancel, hw2, decide_eq_true_eq, Bool.and_eq_true, decide_false, Bool.false_or, Bool.not_eq_true', decide_eq_false_iff_not]
          omega
      constructor
      · intro h i hi
        have h' := ih.1 fun i hi => h i (by omega)
        rcases Nat.lt_or_ge i n with h2 | h2
        · exact h' i h2
        · have : i = n := by omega
          subst this; exact (step h').1 (h i (by omega))
      · intro h i hi
        have h' : ∀ i, i < n → risingRAt l limit i = true := fun i hi => h i (by omega)
        rcases Nat.lt_or_ge i n with h2 | h2
        · exact ih.2 h' i h2
        · have : i = n := by omega
          subst this; exact (step h').2 (h i (by omega))
  have := key l.length
  rw [Bool.eq_iff_iff]
  simp only [risingOK, risingR, List.all_eq_true, List.mem_range]
  exact this
/-! all owners are those with a number, in order -/
theorem enumG_snoc (f : Nat → List Int) : ∀ (k : Nat) (pre : List Int), enumG f (k + 1) pre = (enumG f k pre).flatMap fun o => (f (pre.length + k)).map fun w => o ++ [w]
  | 0, pre => by simp [enumG, List.map_eq_flatMap]
  | k + 1, pre => by
    rw [enumG]
    conv => rhs; rw [enumG, List.flatMap_assoc]
    congr 1
    funext w
    rw [enumG_snoc f k (pre ++ [w])]
    congr 1
    funext o
    rw [List.length_append, List.length_singleton, show pre.length + 1 + k = pre.length + (k + 1) by omega]
theorem range_mul (b : Nat) : ∀ a, List.range (a * b) = (List.range a).flatMap fun q => (List.range b).map fun r => q * b + r
  | 0 => by simp
  | a + 1 => by
    rw [Nat.add_mul, Nat.one_mul, List.range_add, range_mul b a, List.range_succ, List.flatMap_append]
    simp
theorem allO_nth (t : Table) : ∀ k, (∀ i, i < k → 1 ≤ womN t i) → enumO t k [] = (List.range (prodL (womN t) 0 k)).map (nthL t k)
  | 0, _ => rfl
  | k + 1, hp => by
    have hk := hp k (by omega)
    rw [enumO_eq, enumG_snoc, ← enumO_eq, allO_nth t k (fun i hi => hp i (by omega)), prodL_snoc, range_mul, List.map_flatMap, List.flatMap_map]
    simp only [List.length_nil, Nat.zero_add]
    congr 1
    funext q
    rw [List.map_map]
    have hof : womenOf t.women (t.pieces.getD k default).marks = ofAt t k := rfl
    rw [hof]
    apply List.ext_getElem
    · simp [womN, ofAt]
    · intro i h1 h2
      simp only [List.length_map, List.length_range] at h1 h2
      simp only [List.getElem_map, List.getElem_range, Function.comp]
      rw [nthL]
      have e1 : (q * womN t k + i) / womN t k = q := by
        rw [Nat.mul_comm, Nat.mul_add_div hk, Nat.div_eq_of_lt h2, Nat.add_zero]
      have e2 : (q * womN t k + i) % womN t k = i := by
        rw [Nat.mul_comm, Nat.mul_add_mod, Nat.mod_eq_of_lt h2]
      rw [e1, e2]
      simp [h1]
theorem truthsR_eq {t : Table} (hc : checkTable t = 0) : truthsR t = (allO t).filter (isTruthR t) := by
  have hp := prodO_le hc
  rw [truthsR, ownersUpto, manyR, Nat.min_eq_right (by omega), allO, allO_nth t _ (womN_pos hc)]
theorem truths_nil {t : Table} (hc : checkTable t = 0) : truthsR t = [] ↔ truthsT t = [] := by
  constructor
  · intro h
    rw [truthsT]
    cases hq : truthsUpto t (allO t) with
    | nil => rfl
    | cons q l =>
      obtain ⟨o, ho, _, hw⟩ := (truthsUpto_mem t (allO t) q).1 (by rw [hq]; exact List.mem_cons_self)
      have : o ∈ truthsR t := by
        rw [truthsR_eq hc, List.mem_filter]
        exact ⟨ho, by rw [isTruthR, (mem_allO t o).1 ho, decide_eq_true hw]; rfl⟩
      rw [h] at this; cases this
  · intro h
    cases hq : truthsR t with
    | nil => rfl
    | cons o l =>
      have : o ∈ truthsR t := by rw [hq]; exact List.mem_cons_self
      rw [truthsR_eq hc, List.mem_filter] at this
      simp only [isTruthR, Bool.and_eq_true, decide_eq_true_eq] at this
      have h2 := (truthsUpto_mem t (allO t) (pad7 o)).2 ⟨o, this.1, rfl, this.2.2⟩
      rw [show truthsUpto t (allO t) = truthsT t from rfl, h] at h2; cases h2
end Go.Lift
set_option linter.unusedSimpArgs false
set_option linter.unusedVariables false
namespace Go.Lift
open Go Go.Proofs
def timesR (h : House) (j : Nat) : Nat := min 3000 (prodL (hourN h) 0 j)
theorem timesR_c (h : House) (htl : h.touches.length ≤ 6) (ht : ∀ x ∈ h.touches, 0 ≤ x.lo ∧ x.lo ≤ x.hi ∧ x.hi ≤ 5) : Pure Tryz.prog 89 [eH h] (i6 (timesR h h.touches.length : Nat)) := by
  intro H
  refine fn_of hmix fc89 (by simp) ?_
  rw [ienv1]
  simp only [go_sem, reduceIte, reduceCtorEq, Nat.reduceEqDiff, Nat.reduceBEq, Nat.reduceAdd, Nat.reduceMul, Nat.reduceLeDiff, ac89, eH]
  refine v_box _ rfl fun b1 hb1 => ?_
  simp only [go_sem, reduceIte, reduceCtorEq, Nat.reduceEqDiff, Nat.reduceBEq, Nat.reduceAdd, Nat.reduceMul, Nat.reduceLeDiff]
  refine x_for h.touches.length (fun j env H1 => Ext H H1 ∧ H1 b1 = some (.box [.slice (h.table.women.map eW), .slice (h.table.pieces.map eP), i6 h.table.wrong, .slice (eI h.sick), i6 h.others, i6 h.last, .slice (h.touches.map eTo), .slice (h.boiled.map eB), .slice (h.signs.map eS)]) ∧ env 1 = .ptr b1 0 ∧ env 3 = i6 (timesR h j : Nat) ∧ env 4 = i6 j ∧ env 32 = .any)
    ⟨(Ext.refl H).new hb1 _, updH_same _ _ _, by simp [upd_at], by simp [upd_at, timesR, prodL], by simp [upd_at], by simp [upd_at]⟩ ?_
  rintro j env H1 hj ⟨hE, hB, g1, g3, g4, hN⟩
  by_cases hlt : (j : Int) < (h.touches.length : Int)
  · have hlt' : j < h.touches.length := by omega
    have hget : h.touches.getD j default = h.touches[j] := by simp [hlt']
    have hx := ht _ (List.getElem_mem hlt')
    have hsz : h.touches[j].hi - h.touches[j].lo + 1 = ((hourN h j : Nat) : Int) := by rw [hourN, hget]; omega
    have hw1 := w64 (x := h.touches[j].hi - h.touches[j].lo) (by omega) (by omega)
    have hw2 : IntKind.i64.wrap (h.touches[j].hi - h.touches[j].lo + 1) = ((hourN h j : Nat) : Int) := by rw [w64 (by omega) (by omega), hsz]
    have hn6 : hourN h j ≤ 6 := by omega
    have hmr : timesR h j ≤ 3000 := Nat.min_le_left _ _
    have hmul : timesR h j * hourN h j ≤ 3000 * 6 := Nat.mul_le_mul hmr hn6
    have hcast : ((timesR h j : Nat) : Int) * ((hourN h j : Nat) : Int) = ((timesR h j * hourN h j : Nat) : Int) := by simp
    have hw : IntKind.i64.wrap (((timesR h j : Nat) : Int) * ((hourN h j : Nat) : Int)) = ((timesR h j : Nat) : Int) * ((hourN h j : Nat) : Int) := by
      rw [hcast]; exact w64 (by omega) (by omega)
    have hcap : (if ((timesR h j : Nat) : Int) * ((hourN h j : Nat) : Int) < 3000 then ((timesR h j : Nat) : Int) * ((hourN h j : Nat) : Int) else 3000) = ((timesR h (j + 1) : Nat) : Int) := by
      rw [show timesR h (j + 1) = min 3000 (prodL (hourN h) 0 j * hourN h j) by rw [timesR, prodL_snoc, Nat.zero_add]]
      exact capmin 3000 (prodL (hourN h) 0 j) (hourN h j)
    simp only [go_sem, reduceIte, reduceCtorEq, Nat.reduceEqDiff, Nat.reduceBEq, Nat.reduceAdd, Nat.reduceMul, Nat.reduceLeDiff, g1, g3, g4, hN, hB, hlt, take_f', List.getElem?_cons_zero, map_get (f := eTo) hlt', eTo, hw1, hw2, hw, hcap, wsucc (show j < 4611686018427387904 by omega), hlt']
    exact hE
  · simp only [go_sem, reduceIte, reduceCtorEq, Nat.reduceEqDiff, Nat.reduceBEq, Nat.reduceAdd, Nat.reduceMul, Nat.reduceLeDiff, g1, g3, g4, hN, hB, hlt, take_f', List.getElem?_cons_zero]
    have : j = h.touches.length := by omega
    subst this
    refine fin_ret 2 (by simp [upd_at, hN]) ⟨_, H, Settle.refl hE, ?_, rfl⟩
    simp [upd_at]
theorem manyH_iff (h : House) (hc : checkTable h.table = 0) (ht : ∀ x ∈ h.touches, 0 ≤ x.lo ∧ x.lo ≤ x.hi ∧ x.hi ≤ 5) :
    2000 < manyH h ↔ 2000 < (manyR h.table h.table.pieces.length) * (timesR h h.touches.length) := by
  have hpos : ∀ i, i < h.touches.length → 1 ≤ hourN h i := fun i hi => by
    have := ht _ (List.getElem_mem hi)
    have hg : h.touches.getD i default = h.touches[i] := by simp [hi]
    rw [hourN, hg]; omega
  have hP := prodO_le hc
  rw [manyH, manyUpto_eq h.table (womN_pos hc) _ (Nat.le_refl _), timesUpto_eq h _ hpos _ (Nat.le_refl _), manyR, timesR]
  generalize prodL (womN h.table) 0 h.table.pieces.length = p at hP ⊢
  generalize prodL (hourN h) 0 h.touches.length = q
  rw [Nat.min_eq_right (show p ≤ 3000 by omega)]
  rcases Nat.lt_or_ge 3000 q with hq | hq
  · rw [Nat.min_eq_left (show 3000 ≤ q by omega)]
    rcases Nat.eq_zero_or_pos p with rfl | hp
    · simp
    · have h1 : 3000 ≤ p * 3000 := by omega
      have h2 : p * 3000 ≤ p * q := Nat.mul_le_mul_left p (by omega)
      omega
  · rw [Nat.min_eq_right hq]; omega
theorem faultH_c (h : House) (hs : TSm h.table) (hsk : Sm h.sick.length) : Pure Tryz.prog 42 [eH h] (i6 (checkHouse h)) := by
  intro H
  refine fn_of hmix fc42 (by simp) ?_
  rw [ienv1]
  simp only [go_sem, reduceIte, reduceCtorEq, Nat.reduceEqDiff, Nat.reduceBEq, Nat.reduceAdd, Nat.reduceMul, Nat.reduceLeDiff, ac42, eH]
  refine v_box _ rfl fun b1 hb1 => ?_
  have e1 := (Ext.refl H).new hb1 (.box [.slice (h.table.women.map eW), .slice (h.table.pieces.map eP), i6 h.table.wrong, .slice (eI h.sick), i6 h.others, i6 h.last, .slice (h.touches.map eTo), .slice (h.boiled.map eB), .slice (h.signs.map eS)])
  simp only [go_sem, reduceIte, reduceCtorEq, Nat.reduceEqDiff, Nat.reduceBEq, Nat.reduceAdd, Nat.reduceMul, Nat.reduceLeDiff]
  by_cases c1 : bigH h
  · have hres : checkHouse h = 3 := by rw [checkHouse, if_pos c1]
    unfold bigH at c1
    by_cases d1 : 5 < h.last
    · simp only [go_sem, reduceIte, reduceCtorEq, Nat.reduceEqDiff, Nat.reduceBEq, Nat.reduceAdd, Nat.reduceMul, Nat.reduceLeDiff, d1]
      refine fin_ret 2 (by simp [upd_at]) ⟨_, H, Settle.refl e1, by simp [upd_at, hres], rfl⟩
    by_cases d2 : 10 < h.others
    · simp only [go_sem, reduceIte, reduceCtorEq, Nat.reduceEqDiff, Nat.reduceBEq, Nat.reduceAdd, Nat.reduceMul, Nat.reduceLeDiff, d1, d2]
      refine fin_ret 2 (by simp [upd_at]) ⟨_, H, Settle.refl e1, by simp [upd_at, hres], rfl⟩
    by_cases d3 : 6 < (h.touches.length : Int)
    · simp only [go_sem, reduceIte, reduceCtorEq, Nat.reduceEqDiff, Nat.reduceBEq, Nat.reduceAdd, Nat.reduceMul, Nat.reduceLeDiff, d1, d2, d3]
      refine fin_ret 2 (by simp [upd_at]) ⟨_, H, Settle.refl e1, by simp [upd_at, hres], rfl⟩
    by_cases d4 : 4 < (h.boiled.length : Int)
    · simp only [go_sem, reduceIte, reduceCtorEq, Nat.reduceEqDiff, Nat.reduceBEq, Nat.reduceAdd, Nat.reduceMul, Nat.reduceLeDiff, d1, d2, d3, d4]
      refine fin_ret 2 (by simp [upd_at]) ⟨_, H, Settle.refl e1, by simp [upd_at, hres], rfl⟩
    have d5 : 5 < (h.signs.length : Int) := by
      rcases c1 with c | c | c | c | c
      · exact absurd c d1
      · exact absurd c d2
      · exact absurd c d3
      · exact absurd c d4
      · exact c
    simp only [go_sem, reduceIte, reduceCtorEq, Nat.reduceEqDiff, Nat.reduceBEq, Nat.reduceAdd, Nat.reduceMul, Nat.reduceLeDiff, d1, d2, d3, d4, d5]
    refine fin_ret 2 (by simp [upd_at]) ⟨_, H, Settle.refl e1, by simp [upd_at, hres], rfl⟩
  have hc1 := c1
  unfold bigH at c1
  simp only [not_or] at c1
  obtain ⟨d1, d2, d3, d4, d5⟩ := c1
  simp only [go_sem, reduceIte, reduceCtorEq, Nat.reduceEqDiff, Nat.reduceBEq, Nat.reduceAdd, Nat.reduceMul, Nat.reduceLeDiff, d1, d2, d3, d4, d5]
  refine (faultT_c h.table hs).go ?_
  by_cases c0 : checkTable h.table = 0
  rotate_left
  · have hask : askErr h.table = checkTable h.table := by rw [askErr, if_neg c0]
    have hres : checkHouse h = checkTable h.table := by rw [checkHouse, if_neg hc1, if_pos (by rw [hask]; exact c0), hask]
    simp only [go_sem, reduceIte, reduceCtorEq, Nat.reduceEqDiff, Nat.reduceBEq, Nat.reduceAdd, Nat.reduceMul, Nat.reduceLeDiff, c0]
    refine fin_ret 2 (by simp [upd_at]) ⟨_, H, Settle.refl e1, by simp [upd_at, hres], rfl⟩
  obtain ⟨hw5, hp7⟩ := checkTable_len c0
  simp only [go_sem, reduceIte, reduceCtorEq, Nat.reduceEqDiff, Nat.reduceBEq, Nat.reduceAdd, Nat.reduceMul, Nat.reduceLeDiff, c0]
  refine (truthsR_c h.table hs c0).go ?_
  have hnil := truths_nil c0
  by_cases c2 : ((truthsR h.table).length : Int) = 0
  · have hask : askErr h.table = 11 := by rw [askErr, if_pos c0, if_pos (hnil.1 (List.length_eq_zero_iff.1 (by omega)))]
    have hres : checkHouse h = 11 := by rw [checkHouse, if_neg hc1, if_pos (by rw [hask]; omega), hask]
    simp only [go_sem, reduceIte, reduceCtorEq, Nat.reduceEqDiff, Nat.reduceBEq, Nat.reduceAdd, Nat.reduceMul, Nat.reduceLeDiff, eII, c2]
    refine fin_ret 2 (by simp [upd_at]) ⟨_, H, Settle.refl e1, by simp [upd_at, hres], rfl⟩
  have hask : askErr h.table = 0 := by
    rw [askErr, if_pos c0, if_neg]
    intro h0; exact c2 (by rw [hnil.2 h0]; rfl)
  have hc2 : ¬ (askErr h.table ≠ 0) := fun h => h hask
  have hreq := rising_eq h.sick h.table.women.length (by omega) (by omega)
  simp only [go_sem, reduceIte, reduceCtorEq, Nat.reduceEqDiff, Nat.reduceBEq, Nat.reduceAdd, Nat.reduceMul, Nat.reduceLeDiff, eII, c2]
  by_cases c3 : badH h
  · have hres : checkHouse h = 1 := by rw [checkHouse, if_neg hc1, if_neg hc2, if_pos c3]
    unfold badH at c3
    by_cases f1 : h.last < 0
    · simp only [go_sem, reduceIte, reduceCtorEq, Nat.reduceEqDiff, Nat.reduceBEq, Nat.reduceAdd, Nat.reduceMul, Nat.reduceLeDiff, f1]
      refine fin_ret 2 (by simp [upd_at]) ⟨_, H, Settle.refl e1, by simp [upd_at, hres], rfl⟩
    by_cases f2 : h.others < 0
    · simp only [go_sem, reduceIte, reduceCtorEq, Nat.reduceEqDiff, Nat.reduceBEq, Nat.reduceAdd, Nat.reduceMul, Nat.reduceLeDiff, f1, f2]
      refine fin_ret 2 (by simp [upd_at]) ⟨_, H, Settle.refl e1, by simp [upd_at, hres], rfl⟩
    simp only [go_sem, reduceIte, reduceCtorEq, Nat.reduceEqDiff, Nat.reduceBEq, Nat.reduceAdd, Nat.reduceMul, Nat.reduceLeDiff, f1, f2]
    refine (thingsR_c h).go ?_
    by_cases f3 : 10 < thingsW h
    · simp only [go_sem, reduceIte, reduceCtorEq, Nat.reduceEqDiff, Nat.reduceBEq, Nat.reduceAdd, Nat.reduceMul, Nat.reduceLeDiff, f3]
      refine fin_ret 2 (by simp [upd_at]) ⟨_, H, Settle.refl e1, by simp [upd_at, hres], rfl⟩
    have f4 : risingR h.sick h.table.women.length = false := by
      rw [← hreq]
      rcases c3 with c | c | c | c
      · exact absurd c f1
      · exact absurd c f2
      · exact absurd c f3
      · exact c
    simp only [go_sem, reduceIte, reduceCtorEq, Nat.reduceEqDiff, Nat.reduceBEq, Nat.reduceAdd, Nat.reduceMul, Nat.reduceLeDiff, f3]
    refine (risingR_c h.sick _ hsk).go ?_
    simp only [go_sem, reduceIte, reduceCtorEq, Nat.reduceEqDiff, Nat.reduceBEq, Nat.reduceAdd, Nat.reduceMul, Nat.reduceLeDiff, f4]
    refine fin_ret 2 (by simp [upd_at]) ⟨_, H, Settle.refl e1, by simp [upd_at, hres], rfl⟩
  have hc3 := c3
  unfold badH at c3
  simp only [not_or, Bool.not_eq_false] at c3
  obtain ⟨f1, f2, f3, f4⟩ := c3
  have f4' : risingR h.sick h.table.women.length = true := by rw [← hreq]; exact f4
  simp only [go_sem, reduceIte, reduceCtorEq, Nat.reduceEqDiff, Nat.reduceBEq, Nat.reduceAdd, Nat.reduceMul, Nat.reduceLeDiff, f1, f2]
  refine (thingsR_c h).go ?_
  simp only [go_sem, reduceIte, reduceCtorEq, Nat.reduceEqDiff, Nat.reduceBEq, Nat.reduceAdd, Nat.reduceMul, Nat.reduceLeDiff, f3]
  refine (risingR_c h.sick _ hsk).go ?_
  simp only [go_sem, reduceIte, reduceCtorEq, Nat.reduceEqDiff, Nat.reduceBEq, Nat.reduceAdd, Nat.reduceMul, Nat.reduceLeDiff, f4']
  -- the touches
  refine x_for h.touches.length (fun j env H1 => Ext H H1 ∧ H1 b1 = some (.box [.slice (h.table.women.map eW), .slice (h.table.pieces.map eP), i6 h.table.wrong, .slice (eI h.sick), i6 h.others, i6 h.last, .slice (h.touches.map eTo), .slice (h.boiled.map eB), .slice (h.signs.map eS)]) ∧ env 1 = .ptr b1 0 ∧ env 4 = i6 j ∧ env 175 = .any ∧ ∀ i, i < j → touchOK h (h.touches.getD i default) = true)
    ⟨e1, updH_same _ _ _, by simp [upd_at], by simp [upd_at], by simp [upd_at], by simp⟩ ?_
  rintro j env H1 hj ⟨hE, hB, g1, g4, hN, hq⟩
  by_cases hlt : (j : Int) < (h.touches.length : Int)
  · have hlt' : j < h.touches.length := by omega
    have hget : h.touches.getD j default = h.touches[j] := by simp [hlt']
    obtain ⟨x, hx⟩ : ∃ x, x = h.touches[j] := ⟨_, rfl⟩
    have hbad : touchOK h x = false → checkHouse h = 1 := fun hw => by
      have : ¬ allH h := fun ha => by
        have := List.all_eq_true.1 ha.1 _ (List.getElem_mem hlt')
        rw [← hx, hw] at this; cases this
      rw [checkHouse, if_neg hc1, if_neg hc2, if_neg hc3, if_pos this]
    simp only [go_sem, reduceIte, reduceCtorEq, Nat.reduceEqDiff, Nat.reduceBEq, Nat.reduceAdd, Nat.reduceMul, Nat.reduceLeDiff, g1, g4, hN, hlt, hB, take_f', List.getElem?_cons_zero, map_get (f := eTo) hlt', ← hx, eTo]
    refine v_alloc fun b5 hb5 => ?_
    have n15 : b1 ≠ b5 := fun h => by subst h; rw [hB] at hb5; cases hb5
    simp only [go_sem, reduceIte, reduceCtorEq, Nat.reduceEqDiff, Nat.reduceBEq, Nat.reduceAdd, Nat.reduceMul, Nat.reduceLeDiff, g1, g4, hN]
    rw [v_store]
    refine ⟨rfl, rfl, by simp [AV.cells, AV.isCell], _, updH_same _ _ _, by simp, ?_⟩
    have hE5 : ∀ o1 o2, Ext H (updH (updH H1 b5 o1) b5 o2) := fun o1 o2 => (hE.new hb5 _).upd (hE.isNone hb5) _
    simp only [go_sem, reduceIte, reduceCtorEq, Nat.reduceEqDiff, Nat.reduceBEq, Nat.reduceAdd, Nat.reduceMul, Nat.reduceLeDiff, g1, g4, hN, placeAt, List.append_nil, List.nil_append, List.drop_nil, updH_ne _ _ n15, hB, take_f', List.getElem?_cons_zero]
    refine (isThing_c h x.a).go ?_
    cases k1 : thingOK h x.a
    · simp only [go_sem, reduceIte, reduceCtorEq, Nat.reduceEqDiff, Nat.reduceBEq, Nat.reduceAdd, Nat.reduceMul, Nat.reduceLeDiff, hN]
      refine fin_ret 2 (by simp [upd_at, hN]) ⟨_, H, Settle.refl (hE5 _ _), ?_, rfl⟩
      rw [hbad (by rw [touchOK, k1]; rfl)]; simp [upd_at]
    simp only [go_sem, reduceIte, reduceCtorEq, Nat.reduceEqDiff, Nat.reduceBEq, Nat.reduceAdd, Nat.reduceMul, Nat.reduceLeDiff, g1, g4, hN, updH_ne _ _ n15, hB, take_f', List.getElem?_cons_zero]
    refine (isThing_c h x.b).go ?_
    cases k2 : thingOK h x.b
    · simp only [go_sem, reduceIte, reduceCtorEq, Nat.reduceEqDiff, Nat.reduceBEq, Nat.reduceAdd, Nat.reduceMul, Nat.reduceLeDiff, hN]
      refine fin_ret 2 (by simp [upd_at, hN]) ⟨_, H, Settle.refl (hE5 _ _), ?_, rfl⟩
      rw [hbad (by rw [touchOK, k1, k2]; rfl)]; simp [upd_at]
    by_cases k3 : x.a = x.b
    · simp only [go_sem, reduceIte, reduceCtorEq, Nat.reduceEqDiff, Nat.reduceBEq, Nat.reduceAdd, Nat.reduceMul, Nat.reduceLeDiff, hN, k3, take_f', List.getElem?_cons_zero]
      refine fin_ret 2 (by simp [upd_at, hN]) ⟨_, H, Settle.refl (hE5 _ _), ?_, rfl⟩
      rw [hbad (by rw [touchOK, decide_eq_true k3]; simp)]; simp [upd_at]
    simp only [go_sem, reduceIte, reduceCtorEq, Nat.reduceEqDiff, Nat.reduceBEq, Nat.reduceAdd, Nat.reduceMul, Nat.reduceLeDiff, g1, g4, hN, k3, updH_ne _ _ n15, hB, take_f', List.getElem?_cons_zero]
    refine (isHour_c h x.lo).go ?_
    cases k4 : hourOK h x.lo
    · simp only [go_sem, reduceIte, reduceCtorEq, Nat.reduceEqDiff, Nat.reduceBEq, Nat.reduceAdd, Nat.reduceMul, Nat.reduceLeDiff, hN]
      refine fin_ret 2 (by simp [upd_at, hN]) ⟨_, H, Settle.refl (hE5 _ _), ?_, rfl⟩
      rw [hbad (by rw [touchOK, k4]; simp)]; simp [upd_at]
    simp only [go_sem, reduceIte, reduceCtorEq, Nat.reduceEqDiff, Nat.reduceBEq, Nat.reduceAdd, Nat.reduceMul, Nat.reduceLeDiff, g1, g4, hN, updH_ne _ _ n15, hB, take_f', List.getElem?_cons_zero]
    refine (isHour_c h x.hi).go ?_
    cases k5 : hourOK h x.hi
    · simp only [go_sem, reduceIte, reduceCtorEq, Nat.reduceEqDiff, Nat.reduceBEq, Nat.reduceAdd, Nat.reduceMul, Nat.reduceLeDiff, hN]
      refine fin_ret 2 (by simp [upd_at, hN]) ⟨_, H, Settle.refl (hE5 _ _), ?_, rfl⟩
      rw [hbad (by rw [touchOK, k5]; simp)]; simp [upd_at]
    by_cases k6 : x.hi < x.lo
    · simp only [go_sem, reduceIte, reduceCtorEq, Nat.reduceEqDiff, Nat.reduceBEq, Nat.reduceAdd, Nat.reduceMul, Nat.reduceLeDiff, hN, k6, take_f', List.getElem?_cons_zero]
      refine fin_ret 2 (by simp [upd_at, hN]) ⟨_, H, Settle.refl (hE5 _ _), ?_, rfl⟩
      rw [hbad (by rw [touchOK, decide_eq_false (show ¬ x.lo ≤ x.hi by omega)]; simp)]; simp [upd_at]
    simp only [go_sem, reduceIte, reduceCtorEq, Nat.reduceEqDiff, Nat.reduceBEq, Nat.reduceAdd, Nat.reduceMul, Nat.reduceLeDiff, g1, g4, hN, k6, updH_ne _ _ n15, hB, take_f', List.getElem?_cons_zero, wsucc (show j < 4611686018427387904 by omega), hlt']
    refine ⟨hE5 _ _, fun i hi => ?_⟩
    rcases Nat.lt_or_ge i j with h' | h'
    · exact hq i h'
    · have : i = j := by omega
      subst this
      rw [hget, ← hx, touchOK, k1, k2, k4, k5, decide_eq_false k3, decide_eq_true (show x.lo ≤ x.hi by omega)]; rfl
  have hj' : j = h.touches.length := by omega
  subst hj'
  have t1 : h.touches.all (touchOK h) = true := List.all_eq_true.2 fun w hw => by
    obtain ⟨i, hi, rfl⟩ := List.getElem_of_mem hw
    have := hq i hi
    rwa [show h.touches.getD i default = h.touches[i] by simp [hi]] at this
  simp only [go_sem, reduceIte, reduceCtorEq, Nat.reduceEqDiff, Nat.reduceBEq, Nat.reduceAdd, Nat.reduceMul, Nat.reduceLeDiff, g1, g4, hN, hlt, hB, take_f', List.getElem?_cons_zero]
  -- the boilings
  refine x_for h.boiled.length (fun j env H1 => Ext H H1 ∧ H1 b1 = some (.box [.slice (h.table.women.map eW), .slice (h.table.pieces.map eP), i6 h.table.wrong, .slice (eI h.sick), i6 h.others, i6 h.last, .slice (h.touches.map eTo), .slice (h.boiled.map eB), .slice (h.signs.map eS)]) ∧ env 1 = .ptr b1 0 ∧ env 6 = i6 j ∧ env 175 = .any ∧ ∀ i, i < j → boilOK h (h.boiled.getD i default) = true)
    ⟨hE, hB, by simp [upd_at, g1], by simp [upd_at], by simp [upd_at, hN], by simp⟩ ?_
  clear hE hB g1 g4 hN hq hlt hj env H1
  rintro j env H1 hj ⟨hE, hB, g1, g6, hN, hq⟩
  by_cases hlt : (j : Int) < (h.boiled.length : Int)
  · have hlt' : j < h.boiled.length := by omega
    have hget : h.boiled.getD j default = h.boiled[j] := by simp [hlt']
    obtain ⟨x, hx⟩ : ∃ x, x = h.boiled[j] := ⟨_, rfl⟩
    have hbad : boilOK h x = false → checkHouse h = 1 := fun hw => by
      have : ¬ allH h := fun ha => by
        have := List.all_eq_true.1 ha.2.1 _ (List.getElem_mem hlt')
        rw [← hx, hw] at this; cases this
      rw [checkHouse, if_neg hc1, if_neg hc2, if_neg hc3, if_pos this]
    simp only [go_sem, reduceIte, reduceCtorEq, Nat.reduceEqDiff, Nat.reduceBEq, Nat.reduceAdd, Nat.reduceMul, Nat.reduceLeDiff, g1, g6, hN, hlt, hB, take_f', List.getElem?_cons_zero, map_get (f := eB) hlt', ← hx, eB]
    refine pgo_call (isThing_c h x.thing) ?_
    cases k1 : thingOK h x.thing
    · simp only [go_sem, reduceIte, reduceCtorEq, Nat.reduceEqDiff, Nat.reduceBEq, Nat.reduceAdd, Nat.reduceMul, Nat.reduceLeDiff, hN]
      refine fin_ret 2 (by simp [upd_at, hN]) ⟨_, H, Settle.refl hE, ?_, rfl⟩
      rw [hbad (by rw [boilOK, k1]; rfl)]; simp [upd_at]
    simp only [go_sem, reduceIte, reduceCtorEq, Nat.reduceEqDiff, Nat.reduceBEq, Nat.reduceAdd, Nat.reduceMul, Nat.reduceLeDiff, g1, g6, hN, hB, take_f', List.getElem?_cons_zero, List.getElem?_cons_succ, map_get (f := eB) hlt', ← hx, eB]
    refine pgo_call (isHour_c h x.hour) ?_
    cases k2 : hourOK h x.hour
    · simp only [go_sem, reduceIte, reduceCtorEq, Nat.reduceEqDiff, Nat.reduceBEq, Nat.reduceAdd, Nat.reduceMul, Nat.reduceLeDiff, hN]
      refine fin_ret 2 (by simp [upd_at, hN]) ⟨_, H, Settle.refl hE, ?_, rfl⟩
      rw [hbad (by rw [boilOK, k2]; simp)]; simp [upd_at]
    simp only [go_sem, reduceIte, reduceCtorEq, Nat.reduceEqDiff, Nat.reduceBEq, Nat.reduceAdd, Nat.reduceMul, Nat.reduceLeDiff, g1, g6, hN, hB, wsucc (show j < 4611686018427387904 by omega), hlt']
    refine ⟨hE, fun i hi => ?_⟩
    rcases Nat.lt_or_ge i j with h' | h'
    · exact hq i h'
    · have : i = j := by omega
      subst this
      rw [hget, ← hx, boilOK, k1, k2]; rfl
  have hj' : j = h.boiled.length := by omega
  subst hj'
  have t2 : h.boiled.all (boilOK h) = true := List.all_eq_true.2 fun w hw => by
    obtain ⟨i, hi, rfl⟩ := List.getElem_of_mem hw
    have := hq i hi
    rwa [show h.boiled.getD i default = h.boiled[i] by simp [hi]] at this
  simp only [go_sem, reduceIte, reduceCtorEq, Nat.reduceEqDiff, Nat.reduceBEq, Nat.reduceAdd, Nat.reduceMul, Nat.reduceLeDiff, g1, g6, hN, hlt, hB, take_f', List.getElem?_cons_zero]
  -- the signs
  refine x_for h.signs.length (fun j env H1 => Ext H H1 ∧ H1 b1 = some (.box [.slice (h.table.women.map eW), .slice (h.table.pieces.map eP), i6 h.table.wrong, .slice (eI h.sick), i6 h.others, i6 h.last, .slice (h.touches.map eTo), .slice (h.boiled.map eB), .slice (h.signs.map eS)]) ∧ env 1 = .ptr b1 0 ∧ env 7 = i6 j ∧ env 175 = .any ∧ ∀ i, i < j → thingOK h (h.signs.getD i default).thing = true)
    ⟨hE, hB, by simp [upd_at, g1], by simp [upd_at], by simp [upd_at, hN], by simp⟩ ?_
  clear hE hB g1 g6 hN hq hlt hj env H1
  rintro j env H1 hj ⟨hE, hB, g1, g7, hN, hq⟩
  by_cases hlt : (j : Int) < (h.signs.length : Int)
  · have hlt' : j < h.signs.length := by omega
    have hget : h.signs.getD j default = h.signs[j] := by simp [hlt']
    obtain ⟨x, hx⟩ : ∃ x, x = h.signs[j] := ⟨_, rfl⟩
    have hbad : thingOK h x.thing = false → checkHouse h = 1 := fun hw => by
      have : ¬ allH h := fun ha => by
        have := List.all_eq_true.1 ha.2.2 _ (List.getElem_mem hlt')
        rw [← hx, hw] at this; cases this
      rw [checkHouse, if_neg hc1, if_neg hc2, if_neg hc3, if_pos this]
    simp only [go_sem, reduceIte, reduceCtorEq, Nat.reduceEqDiff, Nat.reduceBEq, Nat.reduceAdd, Nat.reduceMul, Nat.reduceLeDiff, g1, g7, hN, hlt, hB, take_f', List.getElem?_cons_zero, map_get (f := eS) hlt', ← hx, eS]
    refine pgo_call (isThing_c h x.thing) ?_
    cases k1 : thingOK h x.thing
    · simp only [go_sem, reduceIte, reduceCtorEq, Nat.reduceEqDiff, Nat.reduceBEq, Nat.reduceAdd, Nat.reduceMul, Nat.reduceLeDiff, hN]
      refine fin_ret 2 (by simp [upd_at, hN]) ⟨_, H, Settle.refl hE, ?_, rfl⟩
      rw [hbad k1]; simp [upd_at]
    simp only [go_sem, reduceIte, reduceCtorEq, Nat.reduceEqDiff, Nat.reduceBEq, Nat.reduceAdd, Nat.reduceMul, Nat.reduceLeDiff, g1, g7, hN, hB, wsucc (show j < 4611686018427387904 by omega), hlt']
    refine ⟨hE, fun i hi => ?_⟩
    rcases Nat.lt_or_ge i j with h' | h'
    · exact hq i h'
    · have : i = j := by omega
      subst this
      rw [hget, ← hx]; exact k1
  have hj' : j = h.signs.length := by omega
  subst hj'
  have t3 : (h.signs.all fun s => thingOK h s.thing) = true := List.all_eq_true.2 fun w hw => by
    obtain ⟨i, hi, rfl⟩ := List.getElem_of_mem hw
    have := hq i hi
    rwa [show h.signs.getD i default = h.signs[i] by simp [hi]] at this
  have hc4 : ¬ ¬ allH h := fun h' => h' ⟨t1, t2, t3⟩
  have htim := touches_ok t1 (by omega)
  simp only [go_sem, reduceIte, reduceCtorEq, Nat.reduceEqDiff, Nat.reduceBEq, Nat.reduceAdd, Nat.reduceMul, Nat.reduceLeDiff, g1, g7, hN, hlt, hB, take_f', List.getElem?_cons_zero]
  refine pgo_call (manyR_c h.table hs) ?_
  simp only [go_sem, reduceIte, reduceCtorEq, Nat.reduceEqDiff, Nat.reduceBEq, Nat.reduceAdd, Nat.reduceMul, Nat.reduceLeDiff, g1, hB]
  refine pgo_call (timesR_c h (by omega) htim) ?_
  have hm1 : manyR h.table h.table.pieces.length ≤ 3000 := Nat.min_le_left _ _
  have hm2 : timesR h h.touches.length ≤ 3000 := Nat.min_le_left _ _
  have hmul : manyR h.table h.table.pieces.length * timesR h h.touches.length ≤ 3000 * 3000 := Nat.mul_le_mul hm1 hm2
  have hiff := manyH_iff h c0 htim
  generalize hpq : manyR h.table h.table.pieces.length * timesR h h.touches.length = pq at hmul hiff
  have hw : IntKind.i64.wrap (((manyR h.table h.table.pieces.length : Nat) : Int) * ((timesR h h.touches.length : Nat) : Int)) = (pq : Int) := by
    rw [← hpq, Int.natCast_mul, w64]
    · have := Int.mul_nonneg (show (0 : Int) ≤ ((manyR h.table h.table.pieces.length : Nat) : Int) by omega) (show (0 : Int) ≤ ((timesR h h.touches.length : Nat) : Int) by omega); omega
    · rw [← Int.natCast_mul, hpq]; omega
  by_cases c5 : 2000 < manyH h
  · have hres : checkHouse h = 3 := by rw [checkHouse, if_neg hc1, if_neg hc2, if_neg hc3, if_neg hc4, if_pos c5]
    have c5' := hiff.1 c5
    have hmin : (2000 : Int) < (if (pq : Int) < 3000 then (pq : Int) else 3000) := by split <;> omega
    simp only [go_sem, reduceIte, reduceCtorEq, Nat.reduceEqDiff, Nat.reduceBEq, Nat.reduceAdd, Nat.reduceMul, Nat.reduceLeDiff, hw, hmin]
    refine fin_ret 2 (by simp [upd_at, hN]) ⟨_, H, Settle.refl hE, by simp [upd_at, hres], rfl⟩
  · have hres : checkHouse h = 0 := by rw [checkHouse, if_neg hc1, if_neg hc2, if_neg hc3, if_neg hc4, if_neg c5]
    have c5' : ¬ 2000 < pq := fun h' => c5 (hiff.2 h')
    have hmin : ¬ (2000 : Int) < (if (pq : Int) < 3000 then (pq : Int) else 3000) := by split <;> omega
    simp only [go_sem, reduceIte, reduceCtorEq, Nat.reduceEqDiff, Nat.reduceBEq, Nat.reduceAdd, Nat.reduceMul, Nat.reduceLeDiff, hw, hmin]
    refine fin_ret 2 (by simp [upd_at, hN]) ⟨_, H, Settle.refl hE, by simp [upd_at, hres], rfl⟩
end Go.Lift
set_option linter.unusedSimpArgs false
set_option linter.unusedVariables false
namespace Go.Lift
open Go Go.Proofs
theorem natOf_set_t {c : List Bool} {i : Nat} (h : i < c.length) : natOf (c.set i true) = natOf c ||| 2 ^ i := by
  apply Nat.eq_of_testBit_eq
  intro j
  rw [Nat.testBit_or, natOf_bit, natOf_bit, Nat.testBit_two_pow, List.getD_eq_getElem?_getD, List.getElem?_set]
  by_cases hij : i = j
  · subst hij; simp [h]
  · simp [hij, List.getD_eq_getElem?_getD]
theorem natOf_set_f {c : List Bool} {i : Nat} (h : i < c.length) : natOf (c.set i false) = andN (natOf c) (2 ^ i) := by
  apply Nat.eq_of_testBit_eq
  intro j
  rw [andN_bit, natOf_bit, natOf_bit, Nat.testBit_two_pow, List.getD_eq_getElem?_getD, List.getElem?_set]
  by_cases hij : i = j
  · subst hij; simp [h]
  · simp [hij, List.getD_eq_getElem?_getD]
theorem natOf_and {c : List Bool} {i : Nat} : natOf c &&& 2 ^ i ≠ 0 ↔ c.getD i false = true := by
  rw [← natOf_bit]
  constructor
  · intro h
    cases hb : (natOf c).testBit i
    · exfalso; apply h
      apply Nat.eq_of_testBit_eq
      intro j
      rw [Nat.testBit_and, Nat.testBit_two_pow, Nat.zero_testBit]
      by_cases hij : i = j
      · subst hij; simp [hb]
      · simp [hij]
    · rfl
  · intro h h0
    have := congrArg (fun n => n.testBit i) h0
    simp [Nat.testBit_and, Nat.testBit_two_pow, h] at this
theorem natOf_and2 {c : List Bool} {a b : Nat} : natOf c &&& (2 ^ a ||| 2 ^ b) ≠ 0 ↔ (c.getD a false || c.getD b false) = true := by
  have h1 : natOf c &&& (2 ^ a ||| 2 ^ b) = (natOf c &&& 2 ^ a) ||| (natOf c &&& 2 ^ b) := Nat.and_or_distrib_left ..
  rw [h1, Bool.or_eq_true, ← natOf_and, ← natOf_and]
  generalize natOf c &&& 2 ^ a = x
  generalize natOf c &&& 2 ^ b = y
  constructor
  · intro h
    by_cases hx : x = 0
    · right; intro hy; apply h; rw [hx, hy]; rfl
    · exact .inl hx
  · intro h h0
    have := Nat.or_eq_zero_iff.1 h0
    rcases h with h | h
    · exact h this.1
    · exact h this.2
theorem isBoiled_c (l : List Boiling) (n k : Int) (hl : Sm l.length) : Pure Tryz.prog 151 [.slice (l.map eB), i6 n, i6 k] (.bool (decide ((n, k) ∈ l.map bKey))) := by
  intro H
  unfold Sm at hl
  refine fn_of hmix fc151 (by simp) ?_
  rw [ienv3]
  simp only [go_sem, reduceIte, reduceCtorEq, Nat.reduceEqDiff, Nat.reduceBEq, Nat.reduceAdd, Nat.reduceMul, Nat.reduceLeDiff, ac151]
  refine x_for l.length (fun j env H1 => H1 = H ∧ (n, k) ∉ (l.take j).map bKey ∧ env 0 = .slice (l.map eB) ∧ env 1 = i6 n ∧ env 2 = i6 k ∧ env 7 = i6 j ∧ env 30 = .any) (by simp [upd_at]) ?_
  rintro j env H1 hj ⟨rfl, hq, g0, g1, g2, g7, hN⟩
  by_cases hlt : (j : Int) < (l.length : Int)
  · have hlt' : j < l.length := by omega
    have hsn : (n, k) ∈ (l.take (j + 1)).map bKey ↔ (n, k) ∈ (l.take j).map bKey ∨ (l[j].thing = n ∧ l[j].hour = k) := by
      rw [take_snoc hlt', List.map_append, List.mem_append]
      simp only [List.map_cons, List.map_nil, List.mem_singleton, bKey, Prod.mk.injEq]
      constructor <;> rintro (h | ⟨h1, h2⟩)
      · exact .inl h
      · exact .inr ⟨h1.symm, h2.symm⟩
      · exact .inl h
      · exact .inr ⟨h1.symm, h2.symm⟩
    by_cases c1 : l[j].thing = n
    · by_cases c2 : l[j].hour = k
      · simp only [go_sem, reduceIte, reduceCtorEq, Nat.reduceEqDiff, Nat.reduceBEq, Nat.reduceAdd, Nat.reduceMul, Nat.reduceLeDiff, g0, g1, g2, g7, hN, hlt, map_get (f := eB) hlt', eB, take_f', List.getElem?_cons_zero, List.getElem?_cons_succ, c1, c2]
        refine fin_ret' 6 (by simp [upd_at, hN]) ?_
        simp only [upd_at, if_true, and_true, AV.bool.injEq]
        symm; rw [decide_eq_true_eq]
        have h1 := hsn.2 (.inr ⟨c1, c2⟩)
        rw [List.mem_map] at h1 ⊢
        obtain ⟨x, hx, hx2⟩ := h1
        exact ⟨x, List.mem_of_mem_take hx, hx2⟩
      · simp only [go_sem, reduceIte, reduceCtorEq, Nat.reduceEqDiff, Nat.reduceBEq, Nat.reduceAdd, Nat.reduceMul, Nat.reduceLeDiff, g0, g1, g2, g7, hN, hlt, map_get (f := eB) hlt', eB, take_f', List.getElem?_cons_zero, List.getElem?_cons_succ, c1, c2, wsucc (show j < 4611686018427387904 by omega), hlt']
        intro h; rcases hsn.1 h with h | h
        · exact hq h
        · exact c2 h.2
    · simp only [go_sem, reduceIte, reduceCtorEq, Nat.reduceEqDiff, Nat.reduceBEq, Nat.reduceAdd, Nat.reduceMul, Nat.reduceLeDiff, g0, g1, g2, g7, hN, hlt, map_get (f := eB) hlt', eB, take_f', List.getElem?_cons_zero, c1, wsucc (show j < 4611686018427387904 by omega), hlt']
      intro h; rcases hsn.1 h with h | h
      · exact hq h
      · exact c1 h.1
  · simp only [go_sem, reduceIte, reduceCtorEq, Nat.reduceEqDiff, Nat.reduceBEq, Nat.reduceAdd, Nat.reduceMul, Nat.reduceLeDiff, g0, g1, g2, g7, hN, hlt]
    have : j = l.length := by omega
    subst this
    rw [List.take_length] at hq
    refine fin_ret' 6 (by simp [upd_at, hN]) ?_
    simp only [upd_at, if_true, and_true, AV.bool.injEq]
    exact (decide_eq_false hq).symm
theorem startOf_out (h : House) (o : List Int) : ∀ (j i : Nat), j ≤ i → (startOf h o j).getD i false = false
  | 0, i, _ => by simp only [startOf, List.range_zero, List.foldl_nil]; rw [List.getD_eq_getElem?_getD, List.getElem?_replicate]; split <;> rfl
  | j + 1, i, hi => by
    have ih := startOf_out h o j i (by omega)
    simp only [startOf, range_fold]
    rw [sickAt, List.getD_eq_getElem?_getD, List.getElem?_set_ne (by omega), ← List.getD_eq_getElem?_getD]
    exact ih
theorem startOf_nat (h : House) (o : List Int) (j : Nat) (hj : j < 10) : natOf (startOf h o (j + 1)) = if o.getD j 0 ∈ h.sick then natOf (startOf h o j) ||| 2 ^ j else natOf (startOf h o j) := by
  have hl := startOf_len h o j
  have h1 : startOf h o (j + 1) = (startOf h o j).set j (decide (o.getD j 0 ∈ h.sick)) := by simp only [startOf, range_fold]; rfl
  rw [h1]
  by_cases hm : o.getD j 0 ∈ h.sick
  · rw [if_pos hm, decide_eq_true hm, natOf_set_t (by omega)]
  · rw [if_neg hm, decide_eq_false hm, natOf_set_f (by omega)]
    apply Nat.eq_of_testBit_eq
    intro i
    rw [andN_bit, Nat.testBit_two_pow, natOf_bit]
    by_cases hij : j = i
    · subst hij; rw [startOf_out h o j j (Nat.le_refl _)]; rfl
    · simp [hij]
theorem pad6_get (l : List Int) (i : Nat) (h : i < l.length) : (pad6 l).getD i 0 = l[i] := by
  rw [pad6, List.getD_eq_getElem?_getD, List.getElem?_append_left h]; simp [h]
theorem carriers_c (h : House) (hv : HV h) (c : Course) (hc : CLen h c) (l : List Boiling) (hl : Sm l.length) :
    ∀ k : Nat, k ≤ 6 → Pure Tryz.prog 123 [eH h, eC c, .slice (l.map eB), i6 ((k : Int) - 1)] (i6 (natOf (hoursOf h (pad7 c.owners) (pad6 c.hours) (l.map bKey) k) : Nat)) := by
  have hp7 := hv.ok.pcs
  have hm6 := hv.ok.touches
  have h7 : c.owners.length ≤ 7 := by have := hc.own; omega
  have hnT := nT_le hv.ok
  intro k
  induction k with
  | zero =>
    intro _ H
    refine fn_of hmix fc123 (by simp) ?_
    rw [ienv4]
    simp only [go_sem, reduceIte, reduceCtorEq, Nat.reduceEqDiff, Nat.reduceBEq, Nat.reduceAdd, Nat.reduceMul, Nat.reduceLeDiff, ac123, eH, eC, show (((0 : Nat) : Int) - 1 < 0) by omega]
    refine v_box _ rfl fun b4 hb4 => ?_
    simp only [go_sem, reduceIte, reduceCtorEq, Nat.reduceEqDiff, Nat.reduceBEq, Nat.reduceAdd, Nat.reduceMul, Nat.reduceLeDiff, show (((0 : Nat) : Int) - 1 < 0) by omega]
    refine v_box _ rfl fun b5 hb5 => ?_
    have n45 : b4 ≠ b5 := fun h => by subst h; simp at hb5
    simp only [go_sem, reduceIte, reduceCtorEq, Nat.reduceEqDiff, Nat.reduceBEq, Nat.reduceAdd, Nat.reduceMul, Nat.reduceLeDiff, show (((0 : Nat) : Int) - 1 < 0) by omega]
    have e2 := ((Ext.refl H).new hb4 (.box [.slice (h.table.women.map eW), .slice (h.table.pieces.map eP), i6 h.table.wrong, .slice (eI h.sick), i6 h.others, i6 h.last, .slice (h.touches.map eTo), .slice (h.boiled.map eB), .slice (h.signs.map eS)])).new hb5 (.box [.slice (eI c.owners), .slice (eI c.hours)])
    refine x_for c.owners.length (fun j env H1 => Ext H H1 ∧ H1 b4 = some (.box [.slice (h.table.women.map eW), .slice (h.table.pieces.map eP), i6 h.table.wrong, .slice (eI h.sick), i6 h.others, i6 h.last, .slice (h.touches.map eTo), .slice (h.boiled.map eB), .slice (h.signs.map eS)]) ∧ H1 b5 = some (.box [.slice (eI c.owners), .slice (eI c.hours)]) ∧ env 4 = .ptr b4 0 ∧ env 5 = .ptr b5 0 ∧ env 9 = i6 (natOf (startOf h (pad7 c.owners) j) : Nat) ∧ env 10 = i6 j ∧ env 99 = .any)
      ⟨e2, by rw [updH_ne _ _ n45]; exact updH_same _ _ _, updH_same _ _ _, by simp [upd_at], by simp [upd_at], by simp [upd_at, startOf, natOf], by simp [upd_at], by simp [upd_at]⟩ ?_
    rintro j env H1 hj ⟨hE, hB4, hB5, g4, g5, g9, g10, hN⟩
    by_cases hlt : (j : Int) < (c.owners.length : Int)
    · have hlt' : j < c.owners.length := by omega
      have hgo : (pad7 c.owners).getD j 0 = c.owners[j] := by rw [pad7_get _ _ hlt']; simp [hlt']
      have hst := startOf_nat h (pad7 c.owners) j (by omega)
      rw [hgo] at hst
      simp only [go_sem, reduceIte, reduceCtorEq, Nat.reduceEqDiff, Nat.reduceBEq, Nat.reduceAdd, Nat.reduceMul, Nat.reduceLeDiff, g4, g5, g9, g10, hN, hB4, hB5, hlt, take_f', List.getElem?_cons_zero, eI_get hlt']
      refine pgo_call (has_c h.sick c.owners[j] hv.ok.sk) ?_
      by_cases hm : c.owners[j] ∈ h.sick
      · have hor := w_or (natOf_lt62 (c := startOf h (pad7 c.owners) j) (by rw [startOf_len]; omega)) (two_lt (show j < 62 by omega))
        simp only [↓aops_nil, ↓aops_go, ↓aops_go0, ↓aops_if, ↓k_cont, ↓k_cont0, g_tt, g_ff, g_tf, g_ft, g_u, ↓apre_nil, ↓apre_if, ↓apre_go, pgo_det, Tag.isCall, popt_some, gp_tt, gp_ff, gp_tf, gp_ft, gp_u, ↓k_draw, opt_some, List.map_cons, List.map_nil, ev, upd_at, ↓x_skip, ↓x_label, ↓x_ret, ↓x_exit, ↓x_seq, ↓x_block, ↓x_ops, ↓x_cond, x_sel_t, x_sel_f, ↓x_draw, ↓q_kseq_n, ↓q_kseq_r, ↓q_kseq_e, ↓q_block_n, ↓q_block_r, ↓q_block_e, ↓q_loop_n, ↓q_loop_r, ↓q_loop_e, ↓l_done, d_mov, d_pick, d_not, d_nilchk, d_nilchk', d_conv, d_add, d_sub, d_mul, d_quo, d_rem, d_shl, d_shr, d_and, d_or, d_andnot, d_eql, d_neq, d_lss, d_leq, d_gtr, d_geq, d_eqb, d_neqb, d_mkfunc, d_load, d_fieldaddr, d_fieldaddr', d_field_t, d_field_f, d_idxaddr, d_idxaddr_g, elemO_some, d_idxaddr_m, d_arraddr, d_arraddr', d_idx_f, d_sub_s, d_sub_g, d_arrsub, d_arrall, d_extract, d_len, d_len_g, d_len_e, d_len_m, d_min, d_build, d_bslice0, d_bs1, d_bs2, d_bsa, d_eqagg, v_mov, v_pick, v_not, v_nilchk, v_conv, v_bin, v_binb, v_eqagg, v_mkfunc, v_load, v_fieldaddr, v_field, v_idxaddr, v_arraddr, v_idx, v_sub, v_arrsub, v_arrall, v_extract, v_len, v_min, v_build, v_bslice, v_lookup, v_call, v_callv, Nat.reduceEqDiff, Nat.reduceBEq, reduceIte, ite_true, ite_false, Bool.false_eq_true, Bool.true_eq_false, if_true, if_false, decide_eq_true_eq, decide_eq_false_iff_not, decide_true, decide_false, Nat.zero_add, Nat.add_zero, Nat.reduceAdd, reduceCtorEq, eq_self, not_true_eq_false, not_false_eq_true, Bool.not_true, Bool.not_false, Nat.reduceMul, List.length_cons, List.length_nil, at_elem, take_f, take_tt, Int.toNat_natCast, Option.some.injEq, Option.bind_some, Int.natCast_nonneg, true_and, and_true, and_self, ↓q_for_n, ↓q_for_r, ↓q_for_e, eI_len, List.length_map, at_obj, obj_box, updH_same, Nat.reduceLeDiff, Nat.zero_le, Nat.le_refl, List.drop_zero, List.drop_succ_cons, List.take_succ_cons, List.take_zero, c_agg, c_int, c_bool, c_slice, c_emp, c_grow, ↓l_one0, ↓l_one1, ↓k_l0, ↓k_l1, stab_nil, stab_cons, stab_if, st_tt, st_ff, st_tf, st_ft, st_u, hm, g4, g5, g9, g10, hN, u64w (show j < 2 ^ 62 by omega), w_shl1 (show j < 62 by omega), show ¬ ((j : Int) < 0) by omega, hor, wsucc (show j < 4611686018427387904 by omega), hlt', hB4, hB5]
        refine ⟨hE, ?_⟩
        rw [hst, if_pos hm]
      · simp only [go_sem, reduceIte, reduceCtorEq, Nat.reduceEqDiff, Nat.reduceBEq, Nat.reduceAdd, Nat.reduceMul, Nat.reduceLeDiff, hm, g4, g5, g9, g10, hN, wsucc (show j < 4611686018427387904 by omega), hlt', hB4, hB5]
        refine ⟨hE, ?_⟩
        rw [hst, if_neg hm]
    · simp only [go_sem, reduceIte, reduceCtorEq, Nat.reduceEqDiff, Nat.reduceBEq, Nat.reduceAdd, Nat.reduceMul, Nat.reduceLeDiff, g4, g5, g9, g10, hN, hB4, hB5, hlt, take_f', List.getElem?_cons_zero]
      have : j = c.owners.length := by omega
      subst this
      refine fin_ret 8 (by simp [upd_at, hN]) ⟨_, H, Settle.refl hE, ?_, rfl⟩
      simp [upd_at, hoursOf, hc.own]
  | succ k ih =>
    intro hk H
    have ih' := ih (by omega)
    have hcast : ((k + 1 : Nat) : Int) - 1 = (k : Int) := by omega
    have hdec : IntKind.i64.wrap ((k : Int) - 1) = (k : Int) - 1 := w64 (by omega) (by omega)
    rw [hcast]
    refine fn_of hmix fc123 (by simp) ?_
    rw [ienv4]
    simp only [go_sem, reduceIte, reduceCtorEq, Nat.reduceEqDiff, Nat.reduceBEq, Nat.reduceAdd, Nat.reduceMul, Nat.reduceLeDiff, ac123, eH, eC]
    refine v_box _ rfl fun b4 hb4 => ?_
    simp only [go_sem, reduceIte, reduceCtorEq, Nat.reduceEqDiff, Nat.reduceBEq, Nat.reduceAdd, Nat.reduceMul, Nat.reduceLeDiff]
    refine v_box _ rfl fun b5 hb5 => ?_
    have n45 : b4 ≠ b5 := fun h => by subst h; simp at hb5
    simp only [go_sem, reduceIte, reduceCtorEq, Nat.reduceEqDiff, Nat.reduceBEq, Nat.reduceAdd, Nat.reduceMul, Nat.reduceLeDiff, show ¬ ((k : Int) < 0) by omega, updH_ne _ _ n45, hdec]
    have e2 := ((Ext.refl H).new hb4 (.box [.slice (h.table.women.map eW), .slice (h.table.pieces.map eP), i6 h.table.wrong, .slice (eI h.sick), i6 h.others, i6 h.last, .slice (h.touches.map eTo), .slice (h.boiled.map eB), .slice (h.signs.map eS)])).new hb5 (.box [.slice (eI c.owners), .slice (eI c.hours)])
    refine ih'.go ?_
    obtain ⟨c0, hc0⟩ : ∃ c0, c0 = hoursOf h (pad7 c.owners) (pad6 c.hours) (l.map bKey) k := ⟨_, rfl⟩
    have hc0l : c0.length = 10 := by rw [hc0]; exact hoursOf_len _ _ _ _ _
    rw [← hc0]
    have hfin : hoursOf h (pad7 c.owners) (pad6 c.hours) (l.map bKey) (k + 1) = touchOf h (pad6 c.hours) k (boilOf (l.map bKey) k c0 (nT h)) h.touches.length := by
      simp only [hoursOf, range_fold]; rw [hc0]; rfl
    rw [hfin]
    simp only [go_sem, reduceIte, reduceCtorEq, Nat.reduceEqDiff, Nat.reduceBEq, Nat.reduceAdd, Nat.reduceMul, Nat.reduceLeDiff]
    refine x_for (nT h) (fun j env H1 => Ext H H1 ∧ H1 b4 = some (.box [.slice (h.table.women.map eW), .slice (h.table.pieces.map eP), i6 h.table.wrong, .slice (eI h.sick), i6 h.others, i6 h.last, .slice (h.touches.map eTo), .slice (h.boiled.map eB), .slice (h.signs.map eS)]) ∧ H1 b5 = some (.box [.slice (eI c.owners), .slice (eI c.hours)]) ∧ env 2 = .slice (l.map eB) ∧ env 3 = i6 k ∧ env 4 = .ptr b4 0 ∧ env 5 = .ptr b5 0 ∧ env 9 = i6 (natOf (boilOf (l.map bKey) k c0 j) : Nat) ∧ env 11 = i6 j ∧ env 99 = .any)
      ⟨e2, by rw [updH_ne _ _ n45]; exact updH_same _ _ _, updH_same _ _ _, by simp [upd_at], by simp [upd_at], by simp [upd_at], by simp [upd_at], by simp [upd_at, boilOf], by simp [upd_at], by simp [upd_at]⟩ ?_
    rintro j env H1 hj ⟨hE, hB4, hB5, g2, g3, g4, g5, g9, g11, hN⟩
    have hbl := boilOf_len (l.map bKey) k c0 j hc0l
    simp only [go_sem, reduceIte, reduceCtorEq, Nat.reduceEqDiff, Nat.reduceBEq, Nat.reduceAdd, Nat.reduceMul, Nat.reduceLeDiff, g2, g3, g4, g5, g9, g11, hN, hB4]
    refine (thingsR_c h).go ?_
    rw [thingsW_ok hv.ok]
    by_cases hlt : (j : Int) < (nT h : Int)
    · have hlt' : j < nT h := by omega
      simp only [go_sem, reduceIte, reduceCtorEq, Nat.reduceEqDiff, Nat.reduceBEq, Nat.reduceAdd, Nat.reduceMul, Nat.reduceLeDiff, g2, g3, g4, g5, g9, g11, hN, hlt]
      refine (isBoiled_c l j k hl).go ?_
      have hst : boilOf (l.map bKey) k c0 (j + 1) = if ((j : Int), (k : Int)) ∈ l.map bKey then (boilOf (l.map bKey) k c0 j).set j false else boilOf (l.map bKey) k c0 j := by
        simp only [boilOf, range_fold]; rfl
      by_cases hin : ((j : Int), (k : Int)) ∈ l.map bKey
      · have handn := w_andN (natOf_lt62 (c := boilOf (l.map bKey) k c0 j) (by omega)) (two_lt (show j < 62 by omega))
        simp only [↓aops_nil, ↓aops_go, ↓aops_go0, ↓aops_if, ↓k_cont, ↓k_cont0, g_tt, g_ff, g_tf, g_ft, g_u, ↓apre_nil, ↓apre_if, ↓apre_go, pgo_det, Tag.isCall, popt_some, gp_tt, gp_ff, gp_tf, gp_ft, gp_u, ↓k_draw, opt_some, List.map_cons, List.map_nil, ev, upd_at, ↓x_skip, ↓x_label, ↓x_ret, ↓x_exit, ↓x_seq, ↓x_block, ↓x_ops, ↓x_cond, x_sel_t, x_sel_f, ↓x_draw, ↓q_kseq_n, ↓q_kseq_r, ↓q_kseq_e, ↓q_block_n, ↓q_block_r, ↓q_block_e, ↓q_loop_n, ↓q_loop_r, ↓q_loop_e, ↓l_done, d_mov, d_pick, d_not, d_nilchk, d_nilchk', d_conv, d_add, d_sub, d_mul, d_quo, d_rem, d_shl, d_shr, d_and, d_or, d_andnot, d_eql, d_neq, d_lss, d_leq, d_gtr, d_geq, d_eqb, d_neqb, d_mkfunc, d_load, d_fieldaddr, d_fieldaddr', d_field_t, d_field_f, d_idxaddr, d_idxaddr_g, elemO_some, d_idxaddr_m, d_arraddr, d_arraddr', d_idx_f, d_sub_s, d_sub_g, d_arrsub, d_arrall, d_extract, d_len, d_len_g, d_len_e, d_len_m, d_min, d_build, d_bslice0, d_bs1, d_bs2, d_bsa, d_eqagg, v_mov, v_pick, v_not, v_nilchk, v_conv, v_bin, v_binb, v_eqagg, v_mkfunc, v_load, v_fieldaddr, v_field, v_idxaddr, v_arraddr, v_idx, v_sub, v_arrsub, v_arrall, v_extract, v_len, v_min, v_build, v_bslice, v_lookup, v_call, v_callv, Nat.reduceEqDiff, Nat.reduceBEq, reduceIte, ite_true, ite_false, Bool.false_eq_true, Bool.true_eq_false, if_true, if_false, decide_eq_true_eq, decide_eq_false_iff_not, decide_true, decide_false, Nat.zero_add, Nat.add_zero, Nat.reduceAdd, reduceCtorEq, eq_self, not_true_eq_false, not_false_eq_true, Bool.not_true, Bool.not_false, Nat.reduceMul, List.length_cons, List.length_nil, at_elem, take_f, take_tt, Int.toNat_natCast, Option.some.injEq, Option.bind_some, Int.natCast_nonneg, true_and, and_true, and_self, ↓q_for_n, ↓q_for_r, ↓q_for_e, eI_len, List.length_map, at_obj, obj_box, updH_same, Nat.reduceLeDiff, Nat.zero_le, Nat.le_refl, List.drop_zero, List.drop_succ_cons, List.take_succ_cons, List.take_zero, c_agg, c_int, c_bool, c_slice, c_emp, c_grow, hin, g2, g3, g4, g5, g9, g11, hN, u64w (show j < 2 ^ 62 by omega), w_shl1 (show j < 62 by omega), show ¬ ((j : Int) < 0) by omega, handn, wsucc (show j < 4611686018427387904 by omega), hlt', hB4, hB5]
        refine ⟨hE, ?_⟩
        rw [hst, if_pos hin, natOf_set_f (by omega)]
      · simp only [go_sem, reduceIte, reduceCtorEq, Nat.reduceEqDiff, Nat.reduceBEq, Nat.reduceAdd, Nat.reduceMul, Nat.reduceLeDiff, hin, g2, g3, g4, g5, g9, g11, hN, wsucc (show j < 4611686018427387904 by omega), hlt', hB4, hB5]
        refine ⟨hE, ?_⟩
        rw [hst, if_neg hin]
    have hj' : j = nT h := by omega
    subst hj'
    simp only [go_sem, reduceIte, reduceCtorEq, Nat.reduceEqDiff, Nat.reduceBEq, Nat.reduceAdd, Nat.reduceMul, Nat.reduceLeDiff, g2, g3, g4, g5, g9, g11, hN, hlt]
    obtain ⟨c1, hc1⟩ : ∃ c1, c1 = boilOf (l.map bKey) k c0 (nT h) := ⟨_, rfl⟩
    have hc1l : c1.length = 10 := by rw [hc1]; exact boilOf_len _ _ _ _ hc0l
    rw [← hc1] at g9 ⊢
    refine x_for h.touches.length (fun j env H1 => Ext H H1 ∧ H1 b4 = some (.box [.slice (h.table.women.map eW), .slice (h.table.pieces.map eP), i6 h.table.wrong, .slice (eI h.sick), i6 h.others, i6 h.last, .slice (h.touches.map eTo), .slice (h.boiled.map eB), .slice (h.signs.map eS)]) ∧ H1 b5 = some (.box [.slice (eI c.owners), .slice (eI c.hours)]) ∧ env 3 = i6 k ∧ env 4 = .ptr b4 0 ∧ env 5 = .ptr b5 0 ∧ env 9 = i6 (natOf (touchOf h (pad6 c.hours) k c1 j) : Nat) ∧ env 12 = i6 j ∧ env 99 = .any)
      ⟨hE, hB4, hB5, by simp [upd_at, g3], by simp [upd_at, g4], by simp [upd_at, g5], by simp [upd_at, g9, touchOf], by simp [upd_at], by simp [upd_at, hN]⟩ ?_
    clear hE hB4 hB5 g2 g3 g4 g5 g9 g11 hN hlt hj hbl env H1
    rintro j env H1 hj ⟨hE, hB4, hB5, g3, g4, g5, g9, g12, hN⟩
    by_cases hlt : (j : Int) < (h.touches.length : Int)
    rotate_left
    · have : j = h.touches.length := by omega
      subst this
      simp only [go_sem, reduceIte, reduceCtorEq, Nat.reduceEqDiff, Nat.reduceBEq, Nat.reduceAdd, Nat.reduceMul, Nat.reduceLeDiff, g3, g4, g5, g9, g12, hN, hlt, hB4, take_f', List.getElem?_cons_zero]
      refine fin_ret 8 (by simp [upd_at, hN]) ⟨_, H, Settle.refl hE, ?_, rfl⟩
      simp [upd_at]
    have hlt' : j < h.touches.length := by omega
    have hlth : j < c.hours.length := by have := hc.hrs; omega
    have hget : h.touches.getD j default = h.touches[j] := by simp [hlt']
    obtain ⟨a, b, ha, hb, ha10, hb10⟩ := hv.ok.touch _ (List.getElem_mem hlt')
    have htl := touchOf_len h (pad6 c.hours) k c1 j hc1l
    have hpg := pad6_get c.hours j hlth
    have hst : touchOf h (pad6 c.hours) k c1 (j + 1) = if c.hours[j] = (k : Int) ∧ ((touchOf h (pad6 c.hours) k c1 j).getD a false || (touchOf h (pad6 c.hours) k c1 j).getD b false) = true then ((touchOf h (pad6 c.hours) k c1 j).set a true).set b true else touchOf h (pad6 c.hours) k c1 j := by
      simp only [touchOf, range_fold]
      rw [touchAt, hget, ha, hb, hpg]; simp only [Int.toNat_natCast]; rfl
    obtain ⟨ct, hct⟩ : ∃ ct, ct = touchOf h (pad6 c.hours) k c1 j := ⟨_, rfl⟩
    rw [← hct] at g9 htl hst
    have hpair := w_or (two_lt (show a < 62 by omega)) (two_lt (show b < 62 by omega))
    have hpl : (2 ^ a ||| 2 ^ b) < 2 ^ 62 := Nat.or_lt_two_pow (two_lt (by omega)) (two_lt (by omega))
    have hcl := natOf_lt62 (c := ct) (by omega)
    have handp := w_and hcl hpl
    have horp := w_or hcl hpl
    by_cases c1 : c.hours[j] = (k : Int)
    rotate_left
    · simp only [go_sem, reduceIte, reduceCtorEq, Nat.reduceEqDiff, Nat.reduceBEq, Nat.reduceAdd, Nat.reduceMul, Nat.reduceLeDiff, g3, g4, g5, g9, g12, hN, hlt, hB4, hB5, take_f', List.getElem?_cons_zero, List.getElem?_cons_succ, map_get (f := eTo) hlt', eTo, ha, hb, u64w (show a < 2 ^ 62 by omega), u64w (show b < 2 ^ 62 by omega), w_shl1 (show a < 62 by omega), w_shl1 (show b < 62 by omega), show ¬ ((a : Int) < 0) by omega, show ¬ ((b : Int) < 0) by omega, hpair, eI_get hlth, c1, wsucc (show j < 4611686018427387904 by omega), hlt']
      refine ⟨hE, ?_⟩
      rw [hst, if_neg (fun h => c1 h.1)]
    by_cases c2 : natOf ct &&& (2 ^ a ||| 2 ^ b) = 0
    · have c2' : ((natOf ct &&& (2 ^ a ||| 2 ^ b) : Nat) : Int) = 0 := by rw [c2]; rfl
      simp only [↓aops_nil, ↓aops_go, ↓aops_go0, ↓aops_if, ↓k_cont, ↓k_cont0, g_tt, g_ff, g_tf, g_ft, g_u, ↓apre_nil, ↓apre_if, ↓apre_go, pgo_det, Tag.isCall, popt_some, gp_tt, gp_ff, gp_tf, gp_ft, gp_u, ↓k_draw, opt_some, List.map_cons, List.map_nil, ev, upd_at, ↓x_skip, ↓x_label, ↓x_ret, ↓x_exit, ↓x_seq, ↓x_block, ↓x_ops, ↓x_cond, x_sel_t, x_sel_f, ↓x_draw, ↓q_kseq_n, ↓q_kseq_r, ↓q_kseq_e, ↓q_block_n, ↓q_block_r, ↓q_block_e, ↓q_loop_n, ↓q_loop_r, ↓q_loop_e, ↓l_done, d_mov, d_pick, d_not, d_nilchk, d_nilchk', d_conv, d_add, d_sub, d_mul, d_quo, d_rem, d_shl, d_shr, d_and, d_or, d_andnot, d_eql, d_neq, d_lss, d_leq, d_gtr, d_geq, d_eqb, d_neqb, d_mkfunc, d_load, d_fieldaddr, d_fieldaddr', d_field_t, d_field_f, d_idxaddr, d_idxaddr_g, elemO_some, d_idxaddr_m, d_arraddr, d_arraddr', d_idx_f, d_sub_s, d_sub_g, d_arrsub, d_arrall, d_extract, d_len, d_len_g, d_len_e, d_len_m, d_min, d_build, d_bslice0, d_bs1, d_bs2, d_bsa, d_eqagg, v_mov, v_pick, v_not, v_nilchk, v_conv, v_bin, v_binb, v_eqagg, v_mkfunc, v_load, v_fieldaddr, v_field, v_idxaddr, v_arraddr, v_idx, v_sub, v_arrsub, v_arrall, v_extract, v_len, v_min, v_build, v_bslice, v_lookup, v_call, v_callv, Nat.reduceEqDiff, Nat.reduceBEq, reduceIte, ite_true, ite_false, Bool.false_eq_true, Bool.true_eq_false, if_true, if_false, decide_eq_true_eq, decide_eq_false_iff_not, decide_true, decide_false, Nat.zero_add, Nat.add_zero, Nat.reduceAdd, reduceCtorEq, eq_self, not_true_eq_false, not_false_eq_true, Bool.not_true, Bool.not_false, Nat.reduceMul, List.length_cons, List.length_nil, at_elem, take_f, take_tt, Int.toNat_natCast, Option.some.injEq, Option.bind_some, Int.natCast_nonneg, true_and, and_true, and_self, ↓q_for_n, ↓q_for_r, ↓q_for_e, eI_len, List.length_map, at_obj, obj_box, updH_same, Nat.reduceLeDiff, Nat.zero_le, Nat.le_refl, List.drop_zero, List.drop_succ_cons, List.take_succ_cons, List.take_zero, c_agg, c_int, c_bool, c_slice, c_emp, c_grow, ↓l_one0, ↓l_one1, ↓k_l0, ↓k_l1, stab_nil, stab_cons, stab_if, st_tt, st_ff, st_tf, st_ft, st_u, g3, g4, g5, g9, g12, hN, hlt, hB4, hB5, take_f', List.getElem?_cons_zero, List.getElem?_cons_succ, map_get (f := eTo) hlt', eTo, ha, hb, u64w (show a < 2 ^ 62 by omega), u64w (show b < 2 ^ 62 by omega), w_shl1 (show a < 62 by omega), w_shl1 (show b < 62 by omega), show ¬ ((a : Int) < 0) by omega, show ¬ ((b : Int) < 0) by omega, hpair, eI_get hlth, c1, handp, c2', wsucc (show j < 4611686018427387904 by omega), hlt']
      refine ⟨hE, ?_⟩
      rw [hst, if_neg (fun h => natOf_and2.2 h.2 c2)]
    · have c2' : ¬ ((natOf ct &&& (2 ^ a ||| 2 ^ b) : Nat) : Int) = 0 := by omega
      simp only [↓aops_nil, ↓aops_go, ↓aops_go0, ↓aops_if, ↓k_cont, ↓k_cont0, g_tt, g_ff, g_tf, g_ft, g_u, ↓apre_nil, ↓apre_if, ↓apre_go, pgo_det, Tag.isCall, popt_some, gp_tt, gp_ff, gp_tf, gp_ft, gp_u, ↓k_draw, opt_some, List.map_cons, List.map_nil, ev, upd_at, ↓x_skip, ↓x_label, ↓x_ret, ↓x_exit, ↓x_seq, ↓x_block, ↓x_ops, ↓x_cond, x_sel_t, x_sel_f, ↓x_draw, ↓q_kseq_n, ↓q_kseq_r, ↓q_kseq_e, ↓q_block_n, ↓q_block_r, ↓q_block_e, ↓q_loop_n, ↓q_loop_r, ↓q_loop_e, ↓l_done, d_mov, d_pick, d_not, d_nilchk, d_nilchk', d_conv, d_add, d_sub, d_mul, d_quo, d_rem, d_shl, d_shr, d_and, d_or, d_andnot, d_eql, d_neq, d_lss, d_leq, d_gtr, d_geq, d_eqb, d_neqb, d_mkfunc, d_load, d_fieldaddr, d_fieldaddr', d_field_t, d_field_f, d_idxaddr, d_idxaddr_g, elemO_some, d_idxaddr_m, d_arraddr, d_arraddr', d_idx_f, d_sub_s, d_sub_g, d_arrsub, d_arrall, d_extract, d_len, d_len_g, d_len_e, d_len_m, d_min, d_build, d_bslice0, d_bs1, d_bs2, d_bsa, d_eqagg, v_mov, v_pick, v_not, v_nilchk, v_conv, v_bin, v_binb, v_eqagg, v_mkfunc, v_load, v_fieldaddr, v_field, v_idxaddr, v_arraddr, v_idx, v_sub, v_arrsub, v_arrall, v_extract, v_len, v_min, v_build, v_bslice, v_lookup, v_call, v_callv, Nat.reduceEqDiff, Nat.reduceBEq, reduceIte, ite_true, ite_false, Bool.false_eq_true, Bool.true_eq_false, if_true, if_false, decide_eq_true_eq, decide_eq_false_iff_not, decide_true, decide_false, Nat.zero_add, Nat.add_zero, Nat.reduceAdd, reduceCtorEq, eq_self, not_true_eq_false, not_false_eq_true, Bool.not_true, Bool.not_false, Nat.reduceMul, List.length_cons, List.length_nil, at_elem, take_f, take_tt, Int.toNat_natCast, Option.some.injEq, Option.bind_some, Int.natCast_nonneg, true_and, and_true, and_self, ↓q_for_n, ↓q_for_r, ↓q_for_e, eI_len, List.length_map, at_obj, obj_box, updH_same, Nat.reduceLeDiff, Nat.zero_le, Nat.le_refl, List.drop_zero, List.drop_succ_cons, List.take_succ_cons, List.take_zero, c_agg, c_int, c_bool, c_slice, c_emp, c_grow, ↓l_one0, ↓l_one1, ↓k_l0, ↓k_l1, stab_nil, stab_cons, stab_if, st_tt, st_ff, st_tf, st_ft, st_u, g3, g4, g5, g9, g12, hN, hlt, hB4, hB5, take_f', List.getElem?_cons_zero, List.getElem?_cons_succ, map_get (f := eTo) hlt', eTo, ha, hb, u64w (show a < 2 ^ 62 by omega), u64w (show b < 2 ^ 62 by omega), w_shl1 (show a < 62 by omega), w_shl1 (show b < 62 by omega), show ¬ ((a : Int) < 0) by omega, show ¬ ((b : Int) < 0) by omega, hpair, eI_get hlth, c1, handp, c2', horp, wsucc (show j < 4611686018427387904 by omega), hlt']
      refine ⟨hE, ?_⟩
      rw [hst, if_pos ⟨c1, natOf_and2.1 c2⟩, natOf_set_t (by simp; omega), natOf_set_t (by omega), Nat.or_assoc]
end Go.Lift
set_option linter.unusedSimpArgs false
set_option linter.unusedVariables false
namespace Go.Lift
open Go Go.Proofs
theorem ACalls.arg2 {P : Program} {f : FuncId} {a b x y d : AV} {H : AHeap} {R : AV → AHeap → Prop} (h : ∀ w v, Rep H w v x → Rep H w v y) (hc : ACalls P f [a, b, y, d] H R) : ACalls P f [a, b, x, d] H R :=
  ACalls.weaken (xs := [a, b, x, d]) (ys := [a, b, y, d]) rfl (hc := hc) fun i p q hp hq w v hr => by
    match i, hp, hq with
    | 0, hp, hq => cases hp; cases hq; exact hr
    | 1, hp, hq => cases hp; cases hq; exact hr
    | 2, hp, hq => cases hp; cases hq; exact h w v hr
    | 3, hp, hq => cases hp; cases hq; exact hr
theorem last_c (h : House) (hv : HV h) (c : Course) (hc : CLen h c) (more : List Boiling) (hm : more.length ≤ 1000) : Pure Tryz.prog 69 [eH h, eC c, .slice (more.map eB)] (i6 (natOf (lastOf h c more) : Nat)) := by
  intro H
  obtain ⟨nl, hl1, hl2⟩ := hv.ok.last
  have hb4 := hv.ok.boiled
  refine fn_of hmix fc69 (by simp) ?_
  rw [ienv3]
  simp only [go_sem, reduceIte, reduceCtorEq, Nat.reduceEqDiff, Nat.reduceBEq, Nat.reduceAdd, Nat.reduceMul, Nat.reduceLeDiff, ac69, eH, eC]
  refine v_box _ rfl fun b3 hb3 => ?_
  simp only [go_sem, reduceIte, reduceCtorEq, Nat.reduceEqDiff, Nat.reduceBEq, Nat.reduceAdd, Nat.reduceMul, Nat.reduceLeDiff]
  refine v_box _ rfl fun b5 hb5 => ?_
  have n35 : b3 ≠ b5 := fun h => by subst h; simp at hb5
  have e2 := ((Ext.refl H).new hb3 (.box [.slice (h.table.women.map eW), .slice (h.table.pieces.map eP), i6 h.table.wrong, .slice (eI h.sick), i6 h.others, i6 h.last, .slice (h.touches.map eTo), .slice (h.boiled.map eB), .slice (h.signs.map eS)])).new hb5 (.box [.slice (eI c.owners), .slice (eI c.hours)])
  have B3 : updH (updH H b3 (.box [.slice (h.table.women.map eW), .slice (h.table.pieces.map eP), i6 h.table.wrong, .slice (eI h.sick), i6 h.others, i6 h.last, .slice (h.touches.map eTo), .slice (h.boiled.map eB), .slice (h.signs.map eS)])) b5 (.box [.slice (eI c.owners), .slice (eI c.hours)]) b3 = some (.box [.slice (h.table.women.map eW), .slice (h.table.pieces.map eP), i6 h.table.wrong, .slice (eI h.sick), i6 h.others, i6 h.last, .slice (h.touches.map eTo), .slice (h.boiled.map eB), .slice (h.signs.map eS)]) := by rw [updH_ne _ _ n35]; exact updH_same _ _ _
  have B5 : updH (updH H b3 (.box [.slice (h.table.women.map eW), .slice (h.table.pieces.map eP), i6 h.table.wrong, .slice (eI h.sick), i6 h.others, i6 h.last, .slice (h.touches.map eTo), .slice (h.boiled.map eB), .slice (h.signs.map eS)])) b5 (.box [.slice (eI c.owners), .slice (eI c.hours)]) b5 = some (.box [.slice (eI c.owners), .slice (eI c.hours)]) := updH_same _ _ _
  simp only [go_sem, reduceIte, reduceCtorEq, Nat.reduceEqDiff, Nat.reduceBEq, Nat.reduceAdd, Nat.reduceMul, Nat.reduceLeDiff, updH_ne _ _ n35, take_f', List.getElem?_cons_zero]
  refine v_append (H0 := updH (updH H b3 (.box [.slice (h.table.women.map eW), .slice (h.table.pieces.map eP), i6 h.table.wrong, .slice (eI h.sick), i6 h.others, i6 h.last, .slice (h.touches.map eTo), .slice (h.boiled.map eB), .slice (h.signs.map eS)])) b5 (.box [.slice (eI c.owners), .slice (eI c.hours)])) (sz := 2) (.inl ⟨rfl, rfl⟩) (Ext.refl _) rfl (by intro e he; cases he) (eB_good _) (eB_cell _) (by simp; omega) (by simp; omega) ?_
  intro v1 H1 hg1 he1 hk1
  have C3 := he1 _ _ B3
  have C5 := he1 _ _ B5
  simp only [go_sem, reduceIte, reduceCtorEq, Nat.reduceEqDiff, Nat.reduceBEq, Nat.reduceAdd, Nat.reduceMul, Nat.reduceLeDiff, C3, C5, take_f', List.getElem?_cons_zero]
  refine v_append hg1 he1 rfl (eB_good h.boiled) (eB_good more) (eB_cell more) (by simp; omega) (by simp; omega) ?_
  intro v2 H2 hg2 he2 hk2
  have D3 := he2 _ _ B3
  have D5 := he2 _ _ B5
  simp only [go_sem, reduceIte, reduceCtorEq, Nat.reduceEqDiff, Nat.reduceBEq, Nat.reduceAdd, Nat.reduceMul, Nat.reduceLeDiff, D3, D5, take_f', List.getElem?_cons_zero]
  refine ACalls.arg2 (y := .slice ((h.boiled ++ more).map eB)) (fun w v hr => by rw [List.map_append]; exact hg2.weakRep hr) ?_
  have hlast : h.last = ((nl + 1 : Nat) : Int) - 1 := by omega
  have hcall := carriers_c h hv c hc (h.boiled ++ more) (by unfold Sm; simp; omega) (nl + 1) (by omega)
  rw [← hlast] at hcall
  refine hcall.go ?_
  simp only [go_sem, reduceIte, reduceCtorEq, Nat.reduceEqDiff, Nat.reduceBEq, Nat.reduceAdd, Nat.reduceMul, Nat.reduceLeDiff]
  refine fin_ret 6 (by simp [upd_at]) ⟨_, H, Settle.refl (e2.trans he2), ?_, rfl⟩
  simp [upd_at, lastOf, playOf, hl1]
def harmAt (c : Course) (bs : List Bool) (w : Int) (i : Nat) : Bool := decide (c.owners.getD i 0 = w) && bs.getD i false
def harmB (h : House) (c : Course) (bs : List Bool) (w : Int) : Bool := !decide (w ∈ h.sick) && (List.range c.owners.length).any (harmAt c bs w)
theorem isHarmed_c (h : House) (c : Course) (hsk : Sm h.sick.length) (ho : c.owners.length ≤ 60) (bs : List Bool) (hb : bs.length ≤ 60) (w : Int) : Pure Tryz.prog 82 [eH h, eC c, i6 (natOf bs : Nat), i6 w] (.bool (harmB h c bs w)) := by
  intro H
  refine fn_of hmix fc82 (by simp) ?_
  rw [ienv4]
  simp only [go_sem, reduceIte, reduceCtorEq, Nat.reduceEqDiff, Nat.reduceBEq, Nat.reduceAdd, Nat.reduceMul, Nat.reduceLeDiff, ac82, eH, eC]
  refine v_box _ rfl fun b4 hb4 => ?_
  simp only [go_sem, reduceIte, reduceCtorEq, Nat.reduceEqDiff, Nat.reduceBEq, Nat.reduceAdd, Nat.reduceMul, Nat.reduceLeDiff]
  refine v_box _ rfl fun b5 hb5 => ?_
  have n45 : b4 ≠ b5 := fun h => by subst h; simp at hb5
  have e2 := ((Ext.refl H).new hb4 (.box [.slice (h.table.women.map eW), .slice (h.table.pieces.map eP), i6 h.table.wrong, .slice (eI h.sick), i6 h.others, i6 h.last, .slice (h.touches.map eTo), .slice (h.boiled.map eB), .slice (h.signs.map eS)])).new hb5 (.box [.slice (eI c.owners), .slice (eI c.hours)])
  simp only [go_sem, reduceIte, reduceCtorEq, Nat.reduceEqDiff, Nat.reduceBEq, Nat.reduceAdd, Nat.reduceMul, Nat.reduceLeDiff, updH_ne _ _ n45, take_f', List.getElem?_cons_zero]
  refine (has_c h.sick w hsk).go ?_
  by_cases c1 : w ∈ h.sick
  · simp only [go_sem, reduceIte, reduceCtorEq, Nat.reduceEqDiff, Nat.reduceBEq, Nat.reduceAdd, Nat.reduceMul, Nat.reduceLeDiff, c1]
    refine fin_ret 8 (by simp [upd_at]) ⟨_, H, Settle.refl e2, ?_, rfl⟩
    simp [upd_at, harmB, c1]
  simp only [go_sem, reduceIte, reduceCtorEq, Nat.reduceEqDiff, Nat.reduceBEq, Nat.reduceAdd, Nat.reduceMul, Nat.reduceLeDiff, c1]
  refine x_for c.owners.length (fun j env H1 => Ext H H1 ∧ H1 b5 = some (.box [.slice (eI c.owners), .slice (eI c.hours)]) ∧ env 2 = i6 (natOf bs : Nat) ∧ env 3 = i6 w ∧ env 5 = .ptr b5 0 ∧ env 9 = i6 j ∧ env 36 = .any ∧ ∀ i, i < j → harmAt c bs w i = false)
    ⟨e2, updH_same _ _ _, by simp [upd_at], by simp [upd_at], by simp [upd_at], by simp [upd_at], by simp [upd_at], by simp⟩ ?_
  rintro j env H1 hj ⟨hE, hB5, g2, g3, g5, g9, hN, hq⟩
  by_cases hlt : (j : Int) < (c.owners.length : Int)
  · have hlt' : j < c.owners.length := by omega
    have hgo : c.owners.getD j 0 = c.owners[j] := by simp [hlt']
    have hnext : harmAt c bs w j = false → ∀ i, i < j + 1 → harmAt c bs w i = false := fun hh i hi => by
      rcases Nat.lt_or_ge i j with h' | h'
      · exact hq i h'
      · have : i = j := by omega
        subst this; exact hh
    have handp := w_and (natOf_lt62 (c := bs) (by omega)) (two_lt (show j < 62 by omega))
    by_cases d1 : c.owners[j] = w
    rotate_left
    · simp only [go_sem, reduceIte, reduceCtorEq, Nat.reduceEqDiff, Nat.reduceBEq, Nat.reduceAdd, Nat.reduceMul, Nat.reduceLeDiff, g2, g3, g5, g9, hN, hlt, hB5, take_f', List.getElem?_cons_zero, eI_get hlt', d1, wsucc (show j < 4611686018427387904 by omega), hlt']
      exact ⟨hE, hnext (by rw [harmAt, hgo, decide_eq_false d1]; rfl)⟩
    by_cases d2 : natOf bs &&& 2 ^ j = 0
    · have d2' : ((natOf bs &&& 2 ^ j : Nat) : Int) = 0 := by rw [d2]; rfl
      simp only [↓aops_nil, ↓aops_go, ↓aops_go0, ↓aops_if, ↓k_cont, ↓k_cont0, g_tt, g_ff, g_tf, g_ft, g_u, ↓apre_nil, ↓apre_if, ↓apre_go, pgo_det, Tag.isCall, popt_some, gp_tt, gp_ff, gp_tf, gp_ft, gp_u, ↓k_draw, opt_some, List.map_cons, List.map_nil, ev, upd_at, ↓x_skip, ↓x_label, ↓x_ret, ↓x_exit, ↓x_seq, ↓x_block, ↓x_ops, ↓x_cond, x_sel_t, x_sel_f, ↓x_draw, ↓q_kseq_n, ↓q_kseq_r, ↓q_kseq_e, ↓q_block_n, ↓q_block_r, ↓q_block_e, ↓q_loop_n, ↓q_loop_r, ↓q_loop_e, ↓l_done, d_mov, d_pick, d_not, d_nilchk, d_nilchk', d_conv, d_add, d_sub, d_mul, d_quo, d_rem, d_shl, d_shr, d_and, d_or, d_andnot, d_eql, d_neq, d_lss, d_leq, d_gtr, d_geq, d_eqb, d_neqb, d_mkfunc, d_load, d_fieldaddr, d_fieldaddr', d_field_t, d_field_f, d_idxaddr, d_idxaddr_g, elemO_some, d_idxaddr_m, d_arraddr, d_arraddr', d_idx_f, d_sub_s, d_sub_g, d_arrsub, d_arrall, d_extract, d_len, d_len_g, d_len_e, d_len_m, d_min, d_build, d_bslice0, d_bs1, d_bs2, d_bsa, d_eqagg, v_mov, v_pick, v_not, v_nilchk, v_conv, v_bin, v_binb, v_eqagg, v_mkfunc, v_load, v_fieldaddr, v_field, v_idxaddr, v_arraddr, v_idx, v_sub, v_arrsub, v_arrall, v_extract, v_len, v_min, v_build, v_bslice, v_lookup, v_call, v_callv, Nat.reduceEqDiff, Nat.reduceBEq, reduceIte, ite_true, ite_false, Bool.false_eq_true, Bool.true_eq_false, if_true, if_false, decide_eq_true_eq, decide_eq_false_iff_not, decide_true, decide_false, Nat.zero_add, Nat.add_zero, Nat.reduceAdd, reduceCtorEq, eq_self, not_true_eq_false, not_false_eq_true, Bool.not_true, Bool.not_false, Nat.reduceMul, List.length_cons, List.length_nil, at_elem, take_f, take_tt, Int.toNat_natCast, Option.some.injEq, Option.bind_some, Int.natCast_nonneg, true_and, and_true, and_self, ↓q_for_n, ↓q_for_r, ↓q_for_e, eI_len, List.length_map, at_obj, obj_box, updH_same, Nat.reduceLeDiff, Nat.zero_le, Nat.le_refl, List.drop_zero, List.drop_succ_cons, List.take_succ_cons, List.take_zero, c_agg, c_int, c_bool, c_slice, c_emp, c_grow, g2, g3, g5, g9, hN, hlt, hB5, take_f', List.getElem?_cons_zero, eI_get hlt', d1, u64w (show j < 2 ^ 62 by omega), w_shl1 (show j < 62 by omega), show ¬ ((j : Int) < 0) by omega, handp, d2', wsucc (show j < 4611686018427387904 by omega), hlt']
      refine ⟨hE, hnext ?_⟩
      have : bs.getD j false = false := by
        cases hb : bs.getD j false
        · rfl
        · exact absurd d2 (natOf_and.2 hb)
      rw [harmAt, this, Bool.and_false]
    · have d2' : ¬ ((natOf bs &&& 2 ^ j : Nat) : Int) = 0 := by omega
      simp only [↓aops_nil, ↓aops_go, ↓aops_go0, ↓aops_if, ↓k_cont, ↓k_cont0, g_tt, g_ff, g_tf, g_ft, g_u, ↓apre_nil, ↓apre_if, ↓apre_go, pgo_det, Tag.isCall, popt_some, gp_tt, gp_ff, gp_tf, gp_ft, gp_u, ↓k_draw, opt_some, List.map_cons, List.map_nil, ev, upd_at, ↓x_skip, ↓x_label, ↓x_ret, ↓x_exit, ↓x_seq, ↓x_block, ↓x_ops, ↓x_cond, x_sel_t, x_sel_f, ↓x_draw, ↓q_kseq_n, ↓q_kseq_r, ↓q_kseq_e, ↓q_block_n, ↓q_block_r, ↓q_block_e, ↓q_loop_n, ↓q_loop_r, ↓q_loop_e, ↓l_done, d_mov, d_pick, d_not, d_nilchk, d_nilchk', d_conv, d_add, d_sub, d_mul, d_quo, d_rem, d_shl, d_shr, d_and, d_or, d_andnot, d_eql, d_neq, d_lss, d_leq, d_gtr, d_geq, d_eqb, d_neqb, d_mkfunc, d_load, d_fieldaddr, d_fieldaddr', d_field_t, d_field_f, d_idxaddr, d_idxaddr_g, elemO_some, d_idxaddr_m, d_arraddr, d_arraddr', d_idx_f, d_sub_s, d_sub_g, d_arrsub, d_arrall, d_extract, d_len, d_len_g, d_len_e, d_len_m, d_min, d_build, d_bslice0, d_bs1, d_bs2, d_bsa, d_eqagg, v_mov, v_pick, v_not, v_nilchk, v_conv, v_bin, v_binb, v_eqagg, v_mkfunc, v_load, v_fieldaddr, v_field, v_idxaddr, v_arraddr, v_idx, v_sub, v_arrsub, v_arrall, v_extract, v_len, v_min, v_build, v_bslice, v_lookup, v_call, v_callv, Nat.reduceEqDiff, Nat.reduceBEq, reduceIte, ite_true, ite_false, Bool.false_eq_true, Bool.true_eq_false, if_true, if_false, decide_eq_true_eq, decide_eq_false_iff_not, decide_true, decide_false, Nat.zero_add, Nat.add_zero, Nat.reduceAdd, reduceCtorEq, eq_self, not_true_eq_false, not_false_eq_true, Bool.not_true, Bool.not_false, Nat.reduceMul, List.length_cons, List.length_nil, at_elem, take_f, take_tt, Int.toNat_natCast, Option.some.injEq, Option.bind_some, Int.natCast_nonneg, true_and, and_true, and_self, ↓q_for_n, ↓q_for_r, ↓q_for_e, eI_len, List.length_map, at_obj, obj_box, updH_same, Nat.reduceLeDiff, Nat.zero_le, Nat.le_refl, List.drop_zero, List.drop_succ_cons, List.take_succ_cons, List.take_zero, c_agg, c_int, c_bool, c_slice, c_emp, c_grow, g2, g3, g5, g9, hN, hlt, hB5, take_f', List.getElem?_cons_zero, eI_get hlt', d1, u64w (show j < 2 ^ 62 by omega), w_shl1 (show j < 62 by omega), show ¬ ((j : Int) < 0) by omega, handp, d2']
      refine fin_ret 8 (by simp [upd_at, hN]) ⟨_, H, Settle.refl hE, ?_, rfl⟩
      simp only [upd_at, if_true, and_true, AV.bool.injEq]
      symm
      rw [harmB, decide_eq_false c1, Bool.not_false, Bool.true_and, List.any_eq_true]
      exact ⟨j, by simp [hlt'], by rw [harmAt, hgo, decide_eq_true d1, natOf_and.1 d2]; rfl⟩
  · simp only [go_sem, reduceIte, reduceCtorEq, Nat.reduceEqDiff, Nat.reduceBEq, Nat.reduceAdd, Nat.reduceMul, Nat.reduceLeDiff, g2, g3, g5, g9, hN, hlt, hB5, take_f', List.getElem?_cons_zero]
    have : j = c.owners.length := by omega
    subst this
    refine fin_ret 8 (by simp [upd_at, hN]) ⟨_, H, Settle.refl hE, ?_, rfl⟩
    simp only [upd_at, if_true, and_true, AV.bool.injEq]
    symm
    rw [harmB, decide_eq_false c1, Bool.not_false, Bool.true_and, List.any_eq_false]
    intro i hi; rw [hq i (by simpa using hi)]; simp
def safeR (h : House) (more : List Boiling) (c : Course) : Bool := (List.range h.table.women.length).all fun w => !harmB h c (lastOf h c more) (w : Int)
theorem isSafe_c (h : House) (hv : HV h) (c : Course) (hc : CLen h c) (more : List Boiling) (hm : more.length ≤ 1000) : Pure Tryz.prog 71 [eH h, eC c, .slice (more.map eB)] (.bool (safeR h more c)) := by
  intro H
  have hp7 := hv.ok.pcs
  have hll := lastOf_len h c more
  refine fn_of hmix fc71 (by simp) ?_
  rw [ienv3]
  simp only [go_sem, reduceIte, reduceCtorEq, Nat.reduceEqDiff, Nat.reduceBEq, Nat.reduceAdd, Nat.reduceMul, Nat.reduceLeDiff, ac71, eH, eC]
  refine v_box _ rfl fun b3 hb3 => ?_
  simp only [go_sem, reduceIte, reduceCtorEq, Nat.reduceEqDiff, Nat.reduceBEq, Nat.reduceAdd, Nat.reduceMul, Nat.reduceLeDiff]
  refine v_box _ rfl fun b4 hb4 => ?_
  have n34 : b3 ≠ b4 := fun h => by subst h; simp at hb4
  have e2 := ((Ext.refl H).new hb3 (.box [.slice (h.table.women.map eW), .slice (h.table.pieces.map eP), i6 h.table.wrong, .slice (eI h.sick), i6 h.others, i6 h.last, .slice (h.touches.map eTo), .slice (h.boiled.map eB), .slice (h.signs.map eS)])).new hb4 (.box [.slice (eI c.owners), .slice (eI c.hours)])
  simp only [go_sem, reduceIte, reduceCtorEq, Nat.reduceEqDiff, Nat.reduceBEq, Nat.reduceAdd, Nat.reduceMul, Nat.reduceLeDiff, updH_ne _ _ n34]
  refine (last_c h hv c hc more hm).go ?_
  simp only [go_sem, reduceIte, reduceCtorEq, Nat.reduceEqDiff, Nat.reduceBEq, Nat.reduceAdd, Nat.reduceMul, Nat.reduceLeDiff]
  refine x_for h.table.women.length (fun j env H1 => Ext H H1 ∧ H1 b3 = some (.box [.slice (h.table.women.map eW), .slice (h.table.pieces.map eP), i6 h.table.wrong, .slice (eI h.sick), i6 h.others, i6 h.last, .slice (h.touches.map eTo), .slice (h.boiled.map eB), .slice (h.signs.map eS)]) ∧ H1 b4 = some (.box [.slice (eI c.owners), .slice (eI c.hours)]) ∧ env 3 = .ptr b3 0 ∧ env 4 = .ptr b4 0 ∧ env 7 = i6 (natOf (lastOf h c more) : Nat) ∧ env 8 = i6 j ∧ env 26 = .any ∧ ∀ i : Nat, i < j → harmB h c (lastOf h c more) (i : Int) = false)
    ⟨e2, by rw [updH_ne _ _ n34]; exact updH_same _ _ _, updH_same _ _ _, by simp [upd_at], by simp [upd_at], by simp [upd_at], by simp [upd_at], by simp [upd_at], by simp⟩ ?_
  rintro j env H1 hj ⟨hE, hB3, hB4, g3, g4, g7, g8, hN, hq⟩
  have hw := hv.ok.sm.women
  unfold Sm at hw
  by_cases hlt : (j : Int) < (h.table.women.length : Int)
  · have hlt' : j < h.table.women.length := by omega
    simp only [go_sem, reduceIte, reduceCtorEq, Nat.reduceEqDiff, Nat.reduceBEq, Nat.reduceAdd, Nat.reduceMul, Nat.reduceLeDiff, g3, g4, g7, g8, hN, hlt, hB3, hB4, take_f', List.getElem?_cons_zero]
    refine (isHarmed_c h c hv.ok.sk (by have := hc.own; omega) (lastOf h c more) (by omega) j).go ?_
    cases d : harmB h c (lastOf h c more) (j : Int)
    · simp only [go_sem, reduceIte, reduceCtorEq, Nat.reduceEqDiff, Nat.reduceBEq, Nat.reduceAdd, Nat.reduceMul, Nat.reduceLeDiff, g3, g4, g7, g8, hN, hB3, hB4, wsucc (show j < 4611686018427387904 by omega), hlt']
      refine ⟨hE, fun i hi => ?_⟩
      rcases Nat.lt_or_ge i j with h' | h'
      · exact hq i h'
      · have : i = j := by omega
        subst this; exact d
    · simp only [go_sem, reduceIte, reduceCtorEq, Nat.reduceEqDiff, Nat.reduceBEq, Nat.reduceAdd, Nat.reduceMul, Nat.reduceLeDiff, hN]
      refine fin_ret 6 (by simp [upd_at, hN]) ⟨_, H, Settle.refl hE, ?_, rfl⟩
      have : safeR h more c = false := by rw [safeR, List.all_eq_false]; exact ⟨j, by simp [hlt'], by simp [d]⟩
      simp [upd_at, this]
  · simp only [go_sem, reduceIte, reduceCtorEq, Nat.reduceEqDiff, Nat.reduceBEq, Nat.reduceAdd, Nat.reduceMul, Nat.reduceLeDiff, g3, g4, g7, g8, hN, hlt, hB3, take_f', List.getElem?_cons_zero]
    have : j = h.table.women.length := by omega
    subst this
    refine fin_ret 6 (by simp [upd_at, hN]) ⟨_, H, Settle.refl hE, ?_, rfl⟩
    have : safeR h more c = true := by rw [safeR, List.all_eq_true]; intro i hi; simp only [hq i (by simpa using hi), Bool.not_false]
    simp [upd_at, this]
def eCr (c : Course) : List AV := [.slice (eI c.owners), .slice (eI c.hours)]
def eCL (l : List Course) : AV := .slice (l.map eCr)
theorem areSafe_c (h : House) (hv : HV h) (l : List Course) (hl : Sm l.length) (hc : ∀ c ∈ l, CLen h c) (more : List Boiling) (hm : more.length ≤ 1000) : Pure Tryz.prog 55 [eH h, eCL l, .slice (more.map eB)] (.bool (l.all (safeR h more))) := by
  intro H
  unfold Sm at hl
  refine fn_of hmix fc55 (by simp) ?_
  rw [ienv3]
  simp only [go_sem, reduceIte, reduceCtorEq, Nat.reduceEqDiff, Nat.reduceBEq, Nat.reduceAdd, Nat.reduceMul, Nat.reduceLeDiff, ac55, eH, eCL]
  refine v_box _ rfl fun b3 hb3 => ?_
  simp only [go_sem, reduceIte, reduceCtorEq, Nat.reduceEqDiff, Nat.reduceBEq, Nat.reduceAdd, Nat.reduceMul, Nat.reduceLeDiff]
  refine x_for l.length (fun j env H1 => Ext H H1 ∧ H1 b3 = some (.box [.slice (h.table.women.map eW), .slice (h.table.pieces.map eP), i6 h.table.wrong, .slice (eI h.sick), i6 h.others, i6 h.last, .slice (h.touches.map eTo), .slice (h.boiled.map eB), .slice (h.signs.map eS)]) ∧ env 1 = .slice (l.map eCr) ∧ env 2 = .slice (more.map eB) ∧ env 3 = .ptr b3 0 ∧ env 7 = i6 j ∧ env 22 = .any ∧ (l.take j).all (safeR h more) = true)
    ⟨(Ext.refl H).new hb3 _, updH_same _ _ _, by simp [upd_at], by simp [upd_at], by simp [upd_at], by simp [upd_at], by simp [upd_at], by simp⟩ ?_
  rintro j env H1 hj ⟨hE, hB3, g1, g2, g3, g7, hN, hq⟩
  by_cases hlt : (j : Int) < (l.length : Int)
  · have hlt' : j < l.length := by omega
    simp only [go_sem, reduceIte, reduceCtorEq, Nat.reduceEqDiff, Nat.reduceBEq, Nat.reduceAdd, Nat.reduceMul, Nat.reduceLeDiff, g1, g2, g3, g7, hN, hlt, hB3, map_get (f := eCr) hlt', eCr]
    refine pgo_call (isSafe_c h hv l[j] (hc _ (List.getElem_mem hlt')) more hm) ?_
    cases d : safeR h more l[j]
    · simp only [go_sem, reduceIte, reduceCtorEq, Nat.reduceEqDiff, Nat.reduceBEq, Nat.reduceAdd, Nat.reduceMul, Nat.reduceLeDiff, hN]
      refine fin_ret 6 (by simp [upd_at, hN]) ⟨_, H, Settle.refl hE, ?_, rfl⟩
      have : l.all (safeR h more) = false := by rw [List.all_eq_false]; exact ⟨l[j], List.getElem_mem _, by simp [d]⟩
      simp [upd_at, this]
    · simp only [go_sem, reduceIte, reduceCtorEq, Nat.reduceEqDiff, Nat.reduceBEq, Nat.reduceAdd, Nat.reduceMul, Nat.reduceLeDiff, g1, g2, g3, g7, hN, hB3, wsucc (show j < 4611686018427387904 by omega), hlt']
      refine ⟨hE, ?_⟩
      rw [take_snoc hlt', List.all_append, hq, List.all_cons, d]; rfl
  · simp only [go_sem, reduceIte, reduceCtorEq, Nat.reduceEqDiff, Nat.reduceBEq, Nat.reduceAdd, Nat.reduceMul, Nat.reduceLeDiff, g1, g2, g3, g7, hN, hlt]
    have : j = l.length := by omega
    subst this
    rw [List.take_length] at hq
    refine fin_ret 6 (by simp [upd_at, hN]) ⟨_, H, Settle.refl hE, ?_, rfl⟩
    simp [upd_at, hq]
end Go.Lift
set_option linter.unusedSimpArgs false
set_option linter.unusedVariables false
namespace Go.Lift
open Go Go.Proofs
def signAt (h : House) (bs : List Bool) (i : Nat) : Bool := bs.getD (h.signs.getD i default).thing.toNat false == (h.signs.getD i default).carries
def signsL (h : House) (c : Course) : List Bool := (List.range h.signs.length).map (signAt h (lastOf h c []))
theorem rightH_c (h : House) (hv : HV h) (c : Course) (hc : CLen h c) : Pure Tryz.prog 86 [eH h, eC c] (i6 (natOf (signsL h c) : Nat)) := by
  intro H
  have hsg := hv.ok.signs
  have hll := lastOf_len h c []
  refine fn_of hmix fc86 (by simp) ?_
  rw [ienv2]
  simp only [go_sem, reduceIte, reduceCtorEq, Nat.reduceEqDiff, Nat.reduceBEq, Nat.reduceAdd, Nat.reduceMul, Nat.reduceLeDiff, ac86, eH, eC]
  refine v_box _ rfl fun b2 hb2 => ?_
  simp only [go_sem, reduceIte, reduceCtorEq, Nat.reduceEqDiff, Nat.reduceBEq, Nat.reduceAdd, Nat.reduceMul, Nat.reduceLeDiff]
  refine v_box _ rfl fun b3 hb3 => ?_
  have n23 : b2 ≠ b3 := fun h => by subst h; simp at hb3
  have e2 := ((Ext.refl H).new hb2 (.box [.slice (h.table.women.map eW), .slice (h.table.pieces.map eP), i6 h.table.wrong, .slice (eI h.sick), i6 h.others, i6 h.last, .slice (h.touches.map eTo), .slice (h.boiled.map eB), .slice (h.signs.map eS)])).new hb3 (.box [.slice (eI c.owners), .slice (eI c.hours)])
  simp only [go_sem, reduceIte, reduceCtorEq, Nat.reduceEqDiff, Nat.reduceBEq, Nat.reduceAdd, Nat.reduceMul, Nat.reduceLeDiff, updH_ne _ _ n23]
  refine (Pure.emp2 (last_c h hv c hc [] (by simp))).go ?_
  simp only [go_sem, reduceIte, reduceCtorEq, Nat.reduceEqDiff, Nat.reduceBEq, Nat.reduceAdd, Nat.reduceMul, Nat.reduceLeDiff]
  refine x_for h.signs.length (fun j env H1 => Ext H H1 ∧ H1 b2 = some (.box [.slice (h.table.women.map eW), .slice (h.table.pieces.map eP), i6 h.table.wrong, .slice (eI h.sick), i6 h.others, i6 h.last, .slice (h.touches.map eTo), .slice (h.boiled.map eB), .slice (h.signs.map eS)]) ∧ env 2 = .ptr b2 0 ∧ env 5 = i6 (natOf ((List.range j).map (signAt h (lastOf h c []))) : Nat) ∧ env 6 = i6 (natOf (lastOf h c []) : Nat) ∧ env 7 = i6 j ∧ env 42 = .any)
    ⟨e2, by rw [updH_ne _ _ n23]; exact updH_same _ _ _, by simp [upd_at], by simp [upd_at, natOf], by simp [upd_at], by simp [upd_at], by simp [upd_at]⟩ ?_
  rintro j env H1 hj ⟨hE, hB, g2, g5, g6, g7, hN⟩
  by_cases hlt : (j : Int) < (h.signs.length : Int)
  · have hlt' : j < h.signs.length := by omega
    have hget : h.signs.getD j default = h.signs[j] := by simp [hlt']
    obtain ⟨a, ha, ha10⟩ := hv.ok.sign _ (List.getElem_mem hlt')
    have hsn : natOf ((List.range (j + 1)).map (signAt h (lastOf h c []))) = if signAt h (lastOf h c []) j = true then natOf ((List.range j).map (signAt h (lastOf h c []))) ||| 2 ^ j else natOf ((List.range j).map (signAt h (lastOf h c []))) := by
      rw [List.range_succ, List.map_append, List.map_cons, List.map_nil, natOf_snoc]; simp
    have handp := w_and (natOf_lt62 (c := lastOf h c []) (by omega)) (two_lt (show a < 62 by omega))
    have hor := w_or (natOf_lt62 (c := (List.range j).map (signAt h (lastOf h c []))) (by simp; omega)) (two_lt (show j < 62 by omega))
    have hne : (!decide (((natOf (lastOf h c []) &&& 2 ^ a : Nat) : Int) = 0)) = (lastOf h c []).getD a false := by
      rw [Bool.eq_iff_iff, ← natOf_and]
      simp only [Bool.not_eq_true', decide_eq_false_iff_not]
      omega
    have hsa : signAt h (lastOf h c []) j = ((lastOf h c []).getD a false == h.signs[j].carries) := by
      rw [signAt, hget, ha]; rfl
    simp only [↓aops_nil, ↓aops_go, ↓aops_go0, ↓aops_if, ↓k_cont, ↓k_cont0, g_tt, g_ff, g_tf, g_ft, g_u, ↓apre_nil, ↓apre_if, ↓apre_go, pgo_det, Tag.isCall, popt_some, gp_tt, gp_ff, gp_tf, gp_ft, gp_u, ↓k_draw, opt_some, List.map_cons, List.map_nil, ev, upd_at, ↓x_skip, ↓x_label, ↓x_ret, ↓x_exit, ↓x_seq, ↓x_block, ↓x_ops, ↓x_cond, x_sel_t, x_sel_f, ↓x_draw, ↓q_kseq_n, ↓q_kseq_r, ↓q_kseq_e, ↓q_block_n, ↓q_block_r, ↓q_block_e, ↓q_loop_n, ↓q_loop_r, ↓q_loop_e, ↓l_done, d_mov, d_pick, d_not, d_nilchk, d_nilchk', d_conv, d_add, d_sub, d_mul, d_quo, d_rem, d_shl, d_shr, d_and, d_or, d_andnot, d_eql, d_neq, d_lss, d_leq, d_gtr, d_geq, d_eqb, d_neqb, d_mkfunc, d_load, d_fieldaddr, d_fieldaddr', d_field_t, d_field_f, d_idxaddr, d_idxaddr_g, elemO_some, d_idxaddr_m, d_arraddr, d_arraddr', d_idx_f, d_sub_s, d_sub_g, d_arrsub, d_arrall, d_extract, d_len, d_len_g, d_len_e, d_len_m, d_min, d_build, d_bslice0, d_bs1, d_bs2, d_bsa, d_eqagg, v_mov, v_pick, v_not, v_nilchk, v_conv, v_bin, v_binb, v_eqagg, v_mkfunc, v_load, v_fieldaddr, v_field, v_idxaddr, v_arraddr, v_idx, v_sub, v_arrsub, v_arrall, v_extract, v_len, v_min, v_build, v_bslice, v_lookup, v_call, v_callv, Nat.reduceEqDiff, Nat.reduceBEq, reduceIte, ite_true, ite_false, Bool.false_eq_true, Bool.true_eq_false, if_true, if_false, decide_eq_true_eq, decide_eq_false_iff_not, decide_true, decide_false, Nat.zero_add, Nat.add_zero, Nat.reduceAdd, reduceCtorEq, eq_self, not_true_eq_false, not_false_eq_true, Bool.not_true, Bool.not_false, Nat.reduceMul, List.length_cons, List.length_nil, at_elem, take_f, take_tt, Int.toNat_natCast, Option.some.injEq, Option.bind_some, Int.natCast_nonneg, true_and, and_true, and_self, ↓q_for_n, ↓q_for_r, ↓q_for_e, eI_len, List.length_map, at_obj, obj_box, updH_same, Nat.reduceLeDiff, Nat.zero_le, Nat.le_refl, List.drop_zero, List.drop_succ_cons, List.take_succ_cons, List.take_zero, c_agg, c_int, c_bool, c_slice, c_emp, c_grow, ↓l_one0, ↓l_one1, ↓k_l0, ↓k_l1, stab_nil, stab_cons, stab_if, st_tt, st_ff, st_tf, st_ft, st_u, g2, g5, g6, g7, hN, hlt, hB, take_f', List.getElem?_cons_zero, List.getElem?_cons_succ, map_get (f := eS) hlt', eS, ha, u64w (show a < 2 ^ 62 by omega), w_shl1 (show a < 62 by omega), show ¬ ((a : Int) < 0) by omega, handp, hne, ← hsa]
    cases hs : signAt h (lastOf h c []) j
    · simp only [↓aops_nil, ↓aops_go, ↓aops_go0, ↓aops_if, ↓k_cont, ↓k_cont0, g_tt, g_ff, g_tf, g_ft, g_u, ↓apre_nil, ↓apre_if, ↓apre_go, pgo_det, Tag.isCall, popt_some, gp_tt, gp_ff, gp_tf, gp_ft, gp_u, ↓k_draw, opt_some, List.map_cons, List.map_nil, ev, upd_at, ↓x_skip, ↓x_label, ↓x_ret, ↓x_exit, ↓x_seq, ↓x_block, ↓x_ops, ↓x_cond, x_sel_t, x_sel_f, ↓x_draw, ↓q_kseq_n, ↓q_kseq_r, ↓q_kseq_e, ↓q_block_n, ↓q_block_r, ↓q_block_e, ↓q_loop_n, ↓q_loop_r, ↓q_loop_e, ↓l_done, d_mov, d_pick, d_not, d_nilchk, d_nilchk', d_conv, d_add, d_sub, d_mul, d_quo, d_rem, d_shl, d_shr, d_and, d_or, d_andnot, d_eql, d_neq, d_lss, d_leq, d_gtr, d_geq, d_eqb, d_neqb, d_mkfunc, d_load, d_fieldaddr, d_fieldaddr', d_field_t, d_field_f, d_idxaddr, d_idxaddr_g, elemO_some, d_idxaddr_m, d_arraddr, d_arraddr', d_idx_f, d_sub_s, d_sub_g, d_arrsub, d_arrall, d_extract, d_len, d_len_g, d_len_e, d_len_m, d_min, d_build, d_bslice0, d_bs1, d_bs2, d_bsa, d_eqagg, v_mov, v_pick, v_not, v_nilchk, v_conv, v_bin, v_binb, v_eqagg, v_mkfunc, v_load, v_fieldaddr, v_field, v_idxaddr, v_arraddr, v_idx, v_sub, v_arrsub, v_arrall, v_extract, v_len, v_min, v_build, v_bslice, v_lookup, v_call, v_callv, Nat.reduceEqDiff, Nat.reduceBEq, reduceIte, ite_true, ite_false, Bool.false_eq_true, Bool.true_eq_false, if_true, if_false, decide_eq_true_eq, decide_eq_false_iff_not, decide_true, decide_false, Nat.zero_add, Nat.add_zero, Nat.reduceAdd, reduceCtorEq, eq_self, not_true_eq_false, not_false_eq_true, Bool.not_true, Bool.not_false, Nat.reduceMul, List.length_cons, List.length_nil, at_elem, take_f, take_tt, Int.toNat_natCast, Option.some.injEq, Option.bind_some, Int.natCast_nonneg, true_and, and_true, and_self, ↓q_for_n, ↓q_for_r, ↓q_for_e, eI_len, List.length_map, at_obj, obj_box, updH_same, Nat.reduceLeDiff, Nat.zero_le, Nat.le_refl, List.drop_zero, List.drop_succ_cons, List.take_succ_cons, List.take_zero, c_agg, c_int, c_bool, c_slice, c_emp, c_grow, ↓l_one0, ↓l_one1, ↓k_l0, ↓k_l1, stab_nil, stab_cons, stab_if, st_tt, st_ff, st_tf, st_ft, st_u, g2, g5, g6, g7, hN, hB, wsucc (show j < 4611686018427387904 by omega), hlt']
      refine ⟨hE, ?_⟩
      rw [hsn, hs]; rfl
    · simp only [↓aops_nil, ↓aops_go, ↓aops_go0, ↓aops_if, ↓k_cont, ↓k_cont0, g_tt, g_ff, g_tf, g_ft, g_u, ↓apre_nil, ↓apre_if, ↓apre_go, pgo_det, Tag.isCall, popt_some, gp_tt, gp_ff, gp_tf, gp_ft, gp_u, ↓k_draw, opt_some, List.map_cons, List.map_nil, ev, upd_at, ↓x_skip, ↓x_label, ↓x_ret, ↓x_exit, ↓x_seq, ↓x_block, ↓x_ops, ↓x_cond, x_sel_t, x_sel_f, ↓x_draw, ↓q_kseq_n, ↓q_kseq_r, ↓q_kseq_e, ↓q_block_n, ↓q_block_r, ↓q_block_e, ↓q_loop_n, ↓q_loop_r, ↓q_loop_e, ↓l_done, d_mov, d_pick, d_not, d_nilchk, d_nilchk', d_conv, d_add, d_sub, d_mul, d_quo, d_rem, d_shl, d_shr, d_and, d_or, d_andnot, d_eql, d_neq, d_lss, d_leq, d_gtr, d_geq, d_eqb, d_neqb, d_mkfunc, d_load, d_fieldaddr, d_fieldaddr', d_field_t, d_field_f, d_idxaddr, d_idxaddr_g, elemO_some, d_idxaddr_m, d_arraddr, d_arraddr', d_idx_f, d_sub_s, d_sub_g, d_arrsub, d_arrall, d_extract, d_len, d_len_g, d_len_e, d_len_m, d_min, d_build, d_bslice0, d_bs1, d_bs2, d_bsa, d_eqagg, v_mov, v_pick, v_not, v_nilchk, v_conv, v_bin, v_binb, v_eqagg, v_mkfunc, v_load, v_fieldaddr, v_field, v_idxaddr, v_arraddr, v_idx, v_sub, v_arrsub, v_arrall, v_extract, v_len, v_min, v_build, v_bslice, v_lookup, v_call, v_callv, Nat.reduceEqDiff, Nat.reduceBEq, reduceIte, ite_true, ite_false, Bool.false_eq_true, Bool.true_eq_false, if_true, if_false, decide_eq_true_eq, decide_eq_false_iff_not, decide_true, decide_false, Nat.zero_add, Nat.add_zero, Nat.reduceAdd, reduceCtorEq, eq_self, not_true_eq_false, not_false_eq_true, Bool.not_true, Bool.not_false, Nat.reduceMul, List.length_cons, List.length_nil, at_elem, take_f, take_tt, Int.toNat_natCast, Option.some.injEq, Option.bind_some, Int.natCast_nonneg, true_and, and_true, and_self, ↓q_for_n, ↓q_for_r, ↓q_for_e, eI_len, List.length_map, at_obj, obj_box, updH_same, Nat.reduceLeDiff, Nat.zero_le, Nat.le_refl, List.drop_zero, List.drop_succ_cons, List.take_succ_cons, List.take_zero, c_agg, c_int, c_bool, c_slice, c_emp, c_grow, ↓l_one0, ↓l_one1, ↓k_l0, ↓k_l1, stab_nil, stab_cons, stab_if, st_tt, st_ff, st_tf, st_ft, st_u, g2, g5, g6, g7, hN, hB, u64w (show j < 2 ^ 62 by omega), w_shl1 (show j < 62 by omega), show ¬ ((j : Int) < 0) by omega, hor, wsucc (show j < 4611686018427387904 by omega), hlt']
      refine ⟨hE, ?_⟩
      rw [hsn, hs]; rfl
  · simp only [go_sem, reduceIte, reduceCtorEq, Nat.reduceEqDiff, Nat.reduceBEq, Nat.reduceAdd, Nat.reduceMul, Nat.reduceLeDiff, g2, g5, g6, g7, hN, hlt, hB, take_f', List.getElem?_cons_zero]
    have : j = h.signs.length := by omega
    subst this
    refine fin_ret 4 (by simp [upd_at, hN]) ⟨_, H, Settle.refl hE, ?_, rfl⟩
    simp [upd_at, signsL]
def fullN (h : House) : Nat := 2 ^ h.signs.length - 1
theorem fullH_c (h : House) (hsg : h.signs.length ≤ 60) : Pure Tryz.prog 49 [eH h] (i6 (fullN h : Nat)) := by
  intro H
  refine fn_of hmix fc49 (by simp) ?_
  rw [ienv1]
  simp only [go_sem, reduceIte, reduceCtorEq, Nat.reduceEqDiff, Nat.reduceBEq, Nat.reduceAdd, Nat.reduceMul, Nat.reduceLeDiff, ac49, eH]
  refine v_box _ rfl fun b1 hb1 => ?_
  have hp : 1 ≤ 2 ^ h.signs.length := Nat.one_le_two_pow
  have hp2 := two_lt (show h.signs.length < 62 by omega)
  have hs : IntKind.i64.wrap (((2 ^ h.signs.length : Nat) : Int) - 1) = ((fullN h : Nat) : Int) := by
    rw [fullN]
    generalize 2 ^ h.signs.length = q at hp hp2
    rw [w64 (by omega) (by omega)]; omega
  simp only [↓aops_nil, ↓aops_go, ↓aops_go0, ↓aops_if, ↓k_cont, ↓k_cont0, g_tt, g_ff, g_tf, g_ft, g_u, ↓apre_nil, ↓apre_if, ↓apre_go, pgo_det, Tag.isCall, popt_some, gp_tt, gp_ff, gp_tf, gp_ft, gp_u, ↓k_draw, opt_some, List.map_cons, List.map_nil, ev, upd_at, ↓x_skip, ↓x_label, ↓x_ret, ↓x_exit, ↓x_seq, ↓x_block, ↓x_ops, ↓x_cond, x_sel_t, x_sel_f, ↓x_draw, ↓q_kseq_n, ↓q_kseq_r, ↓q_kseq_e, ↓q_block_n, ↓q_block_r, ↓q_block_e, ↓q_loop_n, ↓q_loop_r, ↓q_loop_e, ↓l_done, d_mov, d_pick, d_not, d_nilchk, d_nilchk', d_conv, d_add, d_sub, d_mul, d_quo, d_rem, d_shl, d_shr, d_and, d_or, d_andnot, d_eql, d_neq, d_lss, d_leq, d_gtr, d_geq, d_eqb, d_neqb, d_mkfunc, d_load, d_fieldaddr, d_fieldaddr', d_field_t, d_field_f, d_idxaddr, d_idxaddr_g, elemO_some, d_idxaddr_m, d_arraddr, d_arraddr', d_idx_f, d_sub_s, d_sub_g, d_arrsub, d_arrall, d_extract, d_len, d_len_g, d_len_e, d_len_m, d_min, d_build, d_bslice0, d_bs1, d_bs2, d_bsa, d_eqagg, v_mov, v_pick, v_not, v_nilchk, v_conv, v_bin, v_binb, v_eqagg, v_mkfunc, v_load, v_fieldaddr, v_field, v_idxaddr, v_arraddr, v_idx, v_sub, v_arrsub, v_arrall, v_extract, v_len, v_min, v_build, v_bslice, v_lookup, v_call, v_callv, Nat.reduceEqDiff, Nat.reduceBEq, reduceIte, ite_true, ite_false, Bool.false_eq_true, Bool.true_eq_false, if_true, if_false, decide_eq_true_eq, decide_eq_false_iff_not, decide_true, decide_false, Nat.zero_add, Nat.add_zero, Nat.reduceAdd, reduceCtorEq, eq_self, not_true_eq_false, not_false_eq_true, Bool.not_true, Bool.not_false, Nat.reduceMul, List.length_cons, List.length_nil, at_elem, take_f, take_tt, Int.toNat_natCast, Option.some.injEq, Option.bind_some, Int.natCast_nonneg, true_and, and_true, and_self, ↓q_for_n, ↓q_for_r, ↓q_for_e, eI_len, List.length_map, at_obj, obj_box, updH_same, Nat.reduceLeDiff, Nat.zero_le, Nat.le_refl, List.drop_zero, List.drop_succ_cons, List.take_succ_cons, List.take_zero, c_agg, c_int, c_bool, c_slice, c_emp, c_grow, take_f', List.getElem?_cons_zero, u64w (show h.signs.length < 2 ^ 62 by omega), w_shl1 (show h.signs.length < 62 by omega), show ¬ ((h.signs.length : Int) < 0) by omega, hs]
  refine fin_ret 2 (by simp [upd_at]) ⟨_, H, Settle.refl ((Ext.refl H).new hb1 _), ?_, rfl⟩
  simp [upd_at]
theorem signs_full {h : House} (c : Course) : natOf (signsL h c) = fullN h ↔ isTrue h [] c = true := by
  have hl : (signsL h c).length = h.signs.length := by simp [signsL]
  have key : natOf (signsL h c) = fullN h ↔ ∀ i, i < h.signs.length → signAt h (lastOf h c []) i = true := by
    constructor
    · intro he i hi
      have h1 : (natOf (signsL h c)).testBit i = (fullN h).testBit i := by rw [he]
      rw [natOf_bit, fullN, Nat.testBit_two_pow_sub_one] at h1
      have h2 : (signsL h c).getD i false = signAt h (lastOf h c []) i := by simp [signsL, hi]
      rw [h2] at h1; rw [h1]; simp [hi]
    · intro hall
      apply Nat.eq_of_testBit_eq
      intro i
      rw [natOf_bit, fullN, Nat.testBit_two_pow_sub_one]
      by_cases hi : i < h.signs.length
      · have h2 : (signsL h c).getD i false = signAt h (lastOf h c []) i := by simp [signsL, hi]
        rw [h2, hall i hi]; simp [hi]
      · rw [List.getD_eq_getElem?_getD, List.getElem?_eq_none (by omega)]; simp [hi]
  rw [key, isTrue, rightOK, List.all_eq_true]
  constructor
  · intro hall i hi
    have := hall i (by simpa using hi)
    rw [signAt] at this
    rw [signRight]
    simp only [List.not_mem_nil, decide_false, Bool.false_or]
    rw [beq_iff_eq] at this
    rw [this]; simp
  · intro hall i hi
    have := hall i (by simpa using hi)
    rw [signRight] at this
    simp only [List.not_mem_nil, decide_false, Bool.false_or] at this
    rw [signAt, beq_iff_eq]
    simpa using this
theorem isCourse_c (h : House) (hv : HV h) (c : Course) (hc1 : Sm c.owners.length) (hc2 : Sm c.hours.length) : Pure Tryz.prog 68 [eH h, eC c] (.bool (courseOK h c)) := by
  intro H
  obtain ⟨hw5, hp7⟩ := checkTable_len hv.tab
  unfold Sm at hc2
  refine fn_of hmix fc68 (by simp) ?_
  rw [ienv2]
  simp only [go_sem, reduceIte, reduceCtorEq, Nat.reduceEqDiff, Nat.reduceBEq, Nat.reduceAdd, Nat.reduceMul, Nat.reduceLeDiff, ac68, eH, eC]
  refine v_box _ rfl fun b2 hb2 => ?_
  simp only [go_sem, reduceIte, reduceCtorEq, Nat.reduceEqDiff, Nat.reduceBEq, Nat.reduceAdd, Nat.reduceMul, Nat.reduceLeDiff]
  refine v_box _ rfl fun b3 hb3 => ?_
  have n23 : b2 ≠ b3 := fun h => by subst h; simp at hb3
  have e2 := ((Ext.refl H).new hb2 (.box [.slice (h.table.women.map eW), .slice (h.table.pieces.map eP), i6 h.table.wrong, .slice (eI h.sick), i6 h.others, i6 h.last, .slice (h.touches.map eTo), .slice (h.boiled.map eB), .slice (h.signs.map eS)])).new hb3 (.box [.slice (eI c.owners), .slice (eI c.hours)])
  simp only [go_sem, reduceIte, reduceCtorEq, Nat.reduceEqDiff, Nat.reduceBEq, Nat.reduceAdd, Nat.reduceMul, Nat.reduceLeDiff, updH_ne _ _ n23, take_f', List.getElem?_cons_zero]
  refine (isTruthR_c h.table hv.ok.sm hw5 hp7 c.owners hc1).go ?_
  rw [← isTruthR_eq hv.tab]
  cases c1 : isTruthT h.table c.owners
  · simp only [go_sem, reduceIte, reduceCtorEq, Nat.reduceEqDiff, Nat.reduceBEq, Nat.reduceAdd, Nat.reduceMul, Nat.reduceLeDiff]
    refine fin_ret 4 (by simp [upd_at]) ⟨_, H, Settle.refl e2, ?_, rfl⟩
    simp [upd_at, courseOK, c1]
  by_cases c2 : (c.hours.length : Int) = (h.touches.length : Int)
  rotate_left
  · simp only [go_sem, reduceIte, reduceCtorEq, Nat.reduceEqDiff, Nat.reduceBEq, Nat.reduceAdd, Nat.reduceMul, Nat.reduceLeDiff, updH_ne _ _ n23, take_f', List.getElem?_cons_zero, List.getElem?_cons_succ, c2]
    refine fin_ret 4 (by simp [upd_at]) ⟨_, H, Settle.refl e2, ?_, rfl⟩
    simp [upd_at, courseOK, hoursOK, show ¬ c.hours.length = h.touches.length by omega]
  have c2' : c.hours.length = h.touches.length := by omega
  have d2 : decide ((c.hours.length : Int) = (h.touches.length : Int)) = true := decide_eq_true c2
  simp only [go_sem, reduceIte, reduceCtorEq, Nat.reduceEqDiff, Nat.reduceBEq, Nat.reduceAdd, Nat.reduceMul, Nat.reduceLeDiff, updH_ne _ _ n23, take_f', List.getElem?_cons_zero, List.getElem?_cons_succ, d2]
  refine x_for c.hours.length (fun j env H1 => Ext H H1 ∧ H1 b2 = some (.box [.slice (h.table.women.map eW), .slice (h.table.pieces.map eP), i6 h.table.wrong, .slice (eI h.sick), i6 h.others, i6 h.last, .slice (h.touches.map eTo), .slice (h.boiled.map eB), .slice (h.signs.map eS)]) ∧ H1 b3 = some (.box [.slice (eI c.owners), .slice (eI c.hours)]) ∧ env 2 = .ptr b2 0 ∧ env 3 = .ptr b3 0 ∧ env 5 = i6 j ∧ env 49 = .any ∧ ∀ i, i < j → ((h.touches.getD i default).lo ≤ c.hours.getD i 0 ∧ c.hours.getD i 0 ≤ (h.touches.getD i default).hi))
    ⟨e2, by rw [updH_ne _ _ n23]; exact updH_same _ _ _, updH_same _ _ _, by simp [upd_at], by simp [upd_at], by simp [upd_at], by simp [upd_at], by simp⟩ ?_
  rintro j env H1 hj ⟨hE, hB2, hB3, g2, g3, g5, hN, hq⟩
  by_cases hlt : (j : Int) < (c.hours.length : Int)
  · have hlt' : j < c.hours.length := by omega
    have hltt : j < h.touches.length := by omega
    have hget : h.touches.getD j default = h.touches[j] := by simp [hltt]
    have hgl : c.hours.getD j 0 = c.hours[j] := by simp [hlt']
    simp only [go_sem, reduceIte, reduceCtorEq, Nat.reduceEqDiff, Nat.reduceBEq, Nat.reduceAdd, Nat.reduceMul, Nat.reduceLeDiff, g2, g3, g5, hN, hlt, hB2, hB3, take_f', List.getElem?_cons_zero, List.getElem?_cons_succ, eI_get hlt', map_get (f := eTo) hltt, eTo]
    refine pgo_call (in_c c.hours[j] _ _) ?_
    by_cases hm : h.touches[j].lo ≤ c.hours[j] ∧ c.hours[j] ≤ h.touches[j].hi
    · simp only [go_sem, reduceIte, reduceCtorEq, Nat.reduceEqDiff, Nat.reduceBEq, Nat.reduceAdd, Nat.reduceMul, Nat.reduceLeDiff, hm, g2, g3, g5, hN, hB2, hB3, wsucc (show j < 4611686018427387904 by omega), hlt']
      refine ⟨hE, ?_⟩
      intro i hi
      rcases Nat.lt_or_ge i j with h | h
      · exact hq i h
      · have : i = j := by omega
        subst this; rw [hgl, hget]; exact hm
    · have hbad : courseOK h c = false := by
        have : hoursOK h c.hours = false := by
          simp only [hoursOK, Bool.and_eq_false_iff, List.all_eq_false]
          exact .inr ⟨j, by simp [hlt'], by rw [hgl, hget]; simp only [hm, decide_false, Bool.false_eq_true, not_false_eq_true]⟩
        simp [courseOK, this]
      simp only [go_sem, reduceIte, reduceCtorEq, Nat.reduceEqDiff, Nat.reduceBEq, Nat.reduceAdd, Nat.reduceMul, Nat.reduceLeDiff, hm, hN]
      refine fin_ret 4 (by simp [upd_at, hN]) ⟨_, H, Settle.refl hE, ?_, rfl⟩
      simp [upd_at, hbad]
  · simp only [go_sem, reduceIte, reduceCtorEq, Nat.reduceEqDiff, Nat.reduceBEq, Nat.reduceAdd, Nat.reduceMul, Nat.reduceLeDiff, g2, g3, g5, hN, hlt, hB3, take_f', List.getElem?_cons_zero, List.getElem?_cons_succ]
    have : j = c.hours.length := by omega
    subst this
    refine fin_ret 4 (by simp [upd_at, hN]) ⟨_, H, Settle.refl hE, ?_, rfl⟩
    have : courseOK h c = true := by
      simp only [courseOK, c1, hoursOK, Bool.true_and, Bool.and_eq_true, decide_eq_true_eq, List.all_eq_true, List.mem_range]
      exact ⟨c2', hq⟩
    simp [upd_at, this]
theorem isTruthH_c (h : House) (hv : HV h) (c : Course) (hc1 : Sm c.owners.length) (hc2 : Sm c.hours.length) : Pure Tryz.prog 67 [eH h, eC c] (.bool (courseOK h c && isTrue h [] c)) := by
  intro H
  have hsg := hv.ok.signs
  refine fn_of hmix fc67 (by simp) ?_
  rw [ienv2]
  simp only [go_sem, reduceIte, reduceCtorEq, Nat.reduceEqDiff, Nat.reduceBEq, Nat.reduceAdd, Nat.reduceMul, Nat.reduceLeDiff, ac67, eH, eC]
  refine v_box _ rfl fun b2 hb2 => ?_
  simp only [go_sem, reduceIte, reduceCtorEq, Nat.reduceEqDiff, Nat.reduceBEq, Nat.reduceAdd, Nat.reduceMul, Nat.reduceLeDiff]
  refine v_box _ rfl fun b3 hb3 => ?_
  have n23 : b2 ≠ b3 := fun h => by subst h; simp at hb3
  have e2 := ((Ext.refl H).new hb2 (.box [.slice (h.table.women.map eW), .slice (h.table.pieces.map eP), i6 h.table.wrong, .slice (eI h.sick), i6 h.others, i6 h.last, .slice (h.touches.map eTo), .slice (h.boiled.map eB), .slice (h.signs.map eS)])).new hb3 (.box [.slice (eI c.owners), .slice (eI c.hours)])
  simp only [go_sem, reduceIte, reduceCtorEq, Nat.reduceEqDiff, Nat.reduceBEq, Nat.reduceAdd, Nat.reduceMul, Nat.reduceLeDiff, updH_ne _ _ n23]
  refine pgo_call (isCourse_c h hv c hc1 hc2) ?_
  cases c1 : courseOK h c
  · simp only [go_sem, reduceIte, reduceCtorEq, Nat.reduceEqDiff, Nat.reduceBEq, Nat.reduceAdd, Nat.reduceMul, Nat.reduceLeDiff]
    refine fin_ret 4 (by simp [upd_at]) ⟨_, H, Settle.refl e2, ?_, rfl⟩
    simp [upd_at]
  have hlen := courseOK_len c1
  simp only [go_sem, reduceIte, reduceCtorEq, Nat.reduceEqDiff, Nat.reduceBEq, Nat.reduceAdd, Nat.reduceMul, Nat.reduceLeDiff, updH_ne _ _ n23]
  refine pgo_call (rightH_c h hv c ⟨hlen.1, hlen.2⟩) ?_
  simp only [go_sem, reduceIte, reduceCtorEq, Nat.reduceEqDiff, Nat.reduceBEq, Nat.reduceAdd, Nat.reduceMul, Nat.reduceLeDiff, updH_ne _ _ n23]
  refine pgo_call (fullH_c h (by omega)) ?_
  have hd : decide (((natOf (signsL h c) : Nat) : Int) = ((fullN h : Nat) : Int)) = isTrue h [] c := by
    rw [Bool.eq_iff_iff, decide_eq_true_eq, ← signs_full]; omega
  simp only [go_sem, reduceIte, reduceCtorEq, Nat.reduceEqDiff, Nat.reduceBEq, Nat.reduceAdd, Nat.reduceMul, Nat.reduceLeDiff, hd]
  refine fin_ret 4 (by simp [upd_at]) ⟨_, H, Settle.refl e2, ?_, rfl⟩
  simp [upd_at]
end Go.Lift
set_option linter.unusedSimpArgs false
set_option linter.unusedVariables false
namespace Go.Lift
open Go Go.Proofs
def hrsGo (h : House) : Nat → Nat → Nat → List Int
  | 0, _, _ => []
  | k + 1, j, n => ((h.touches.getD j default).lo + ((n % hourN h j : Nat) : Int)) :: hrsGo h k (j + 1) (n / hourN h j)
theorem hrsGo_len (h : House) : ∀ k j n, (hrsGo h k j n).length = k
  | 0, _, _ => rfl
  | k + 1, j, n => by rw [hrsGo, List.length_cons, hrsGo_len h k]
def hrsOf (h : House) (n : Nat) : List Int := hrsGo h h.touches.length 0 n
theorem hours_c (h : House) (hv : HV h) (n : Nat) (hn : n < 2 ^ 62) : Pure Tryz.prog 90 [eH h, i6 n] (.slice (eI (hrsOf h n))) := by
  intro H
  have hm6 := hv.ok.touches
  refine fn_of hmix fc90 (by simp) ?_
  rw [ienv2]
  simp only [go_sem, reduceIte, reduceCtorEq, Nat.reduceEqDiff, Nat.reduceBEq, Nat.reduceAdd, Nat.reduceMul, Nat.reduceLeDiff, ac90, eH]
  refine v_box _ rfl fun b2 hb2 => ?_
  simp only [go_sem, reduceIte, reduceCtorEq, Nat.reduceEqDiff, Nat.reduceBEq, Nat.reduceAdd, Nat.reduceMul, Nat.reduceLeDiff]
  refine x_for h.touches.length (fun j env H1 => Ext H H1 ∧ H1 b2 = some (.box [.slice (h.table.women.map eW), .slice (h.table.pieces.map eP), i6 h.table.wrong, .slice (eI h.sick), i6 h.others, i6 h.last, .slice (h.touches.map eTo), .slice (h.boiled.map eB), .slice (h.signs.map eS)]) ∧ (∃ (out : List Int) (nk : Nat), nk < 2 ^ 62 ∧ out.length = j ∧ hrsOf h n = out ++ hrsGo h (h.touches.length - j) j nk ∧ Grown 1 H H1 (env 5) (eI out) ∧ env 1 = i6 nk) ∧ env 2 = .ptr b2 0 ∧ env 6 = i6 j ∧ env 41 = .any)
    ⟨(Ext.refl H).new hb2 _, updH_same _ _ _, ⟨[], n, hn, rfl, by simp [hrsOf], .inl ⟨by simp [upd_at], rfl⟩, by simp [upd_at]⟩, by simp [upd_at], by simp [upd_at], by simp [upd_at]⟩ ?_
  rintro j env H1 hj ⟨hE, hB, ⟨out, nk, hnk, hol, heq, hG, g1⟩, g2, g6, hN⟩
  by_cases hlt : (j : Int) < (h.touches.length : Int)
  · have hlt' : j < h.touches.length := by omega
    have hget : h.touches.getD j default = h.touches[j] := by simp [hlt']
    obtain ⟨t1, t2, t3⟩ := hv.tim _ (List.getElem_mem hlt')
    have hsz : h.touches[j].hi - h.touches[j].lo + 1 = ((hourN h j : Nat) : Int) := by rw [hourN, hget]; omega
    have hp : 1 ≤ hourN h j := by omega
    have hw1 := w64 (x := h.touches[j].hi - h.touches[j].lo) (by omega) (by omega)
    have hw2 : IntKind.i64.wrap (h.touches[j].hi - h.touches[j].lo + 1) = ((hourN h j : Nat) : Int) := by rw [w64 (by omega) (by omega), hsz]
    have hne : ¬ ((hourN h j : Nat) : Int) = 0 := by omega
    have hrem : (nk : Int).tmod ((hourN h j : Nat) : Int) = ((nk % hourN h j : Nat) : Int) := (Int.ofNat_tmod nk (hourN h j)).symm
    have hquo : (nk : Int).tdiv ((hourN h j : Nat) : Int) = ((nk / hourN h j : Nat) : Int) := (Int.ofNat_tdiv nk (hourN h j)).symm
    have hml : nk % hourN h j < hourN h j := Nat.mod_lt _ hp
    have hdl : nk / hourN h j < 2 ^ 62 := Nat.lt_of_le_of_lt (Nat.div_le_self _ _) hnk
    have hwd : IntKind.i64.wrap ((nk / hourN h j : Nat) : Int) = ((nk / hourN h j : Nat) : Int) := by
      generalize nk / hourN h j = q at hdl
      exact w64 (by omega) (by omega)
    have hwa : IntKind.i64.wrap (h.touches[j].lo + ((nk % hourN h j : Nat) : Int)) = h.touches[j].lo + ((nk % hourN h j : Nat) : Int) := by
      generalize nk % hourN h j = q at hml
      exact w64 (by omega) (by omega)
    simp only [go_sem, reduceIte, reduceCtorEq, Nat.reduceEqDiff, Nat.reduceBEq, Nat.reduceAdd, Nat.reduceMul, Nat.reduceLeDiff, g1, g2, g6, hN, hB, hlt, take_f', List.getElem?_cons_zero, map_get (f := eTo) hlt', eTo]
    refine v_alloc fun b7 hb7 => ?_
    have n27 : b2 ≠ b7 := fun h => by subst h; rw [hB] at hb7; cases hb7
    simp only [go_sem, reduceIte, reduceCtorEq, Nat.reduceEqDiff, Nat.reduceBEq, Nat.reduceAdd, Nat.reduceMul, Nat.reduceLeDiff, g1, g2, g6, hN]
    rw [v_store]
    refine ⟨rfl, rfl, by simp [AV.cells, AV.isCell], _, updH_same _ _ _, by simp, ?_⟩
    have hE7 : ∀ o1 o2, Ext H (updH (updH H1 b7 o1) b7 o2) := fun o1 o2 => (hE.new hb7 _).upd (hE.isNone hb7) _
    have hG7 : ∀ cs o2, Grown 1 H (updH (updH H1 b7 (.box cs)) b7 o2) (env 5) (eI out) := fun cs o2 => (hG.new hb7 (.box cs)).store (updH_same _ _ _) o2
    simp only [go_sem, reduceIte, reduceCtorEq, Nat.reduceEqDiff, Nat.reduceBEq, Nat.reduceAdd, Nat.reduceMul, Nat.reduceLeDiff, g1, g2, g6, hN, placeAt, List.append_nil, List.nil_append, List.drop_nil, take_f', List.getElem?_cons_zero, List.getElem?_cons_succ, hw1, hw2, hne, hrem, hwa]
    refine v_append (hG7 _ _) (hE7 _ _) rfl (eI_good _) (one_good _) (one_cell _) (by simp; omega) (by simp; omega) ?_
    intro v' H2 hg' he' hk'
    have C2 : H2 b2 = some (.box [.slice (h.table.women.map eW), .slice (h.table.pieces.map eP), i6 h.table.wrong, .slice (eI h.sick), i6 h.others, i6 h.last, .slice (h.touches.map eTo), .slice (h.boiled.map eB), .slice (h.signs.map eS)]) := hk'.box (hG7 _ _) (by rw [updH_ne _ _ n27, updH_ne _ _ n27]; exact hB)
    simp only [go_sem, reduceIte, reduceCtorEq, Nat.reduceEqDiff, Nat.reduceBEq, Nat.reduceAdd, Nat.reduceMul, Nat.reduceLeDiff, g1, g2, g6, hN, hne, hquo, hwd, wsucc (show j < 4611686018427387904 by omega), hlt', C2]
    refine ⟨he', out ++ [h.touches[j].lo + ((nk % hourN h j : Nat) : Int)], nk / hourN h j, hdl, by simp [hol], ?_, by rw [eI_app]; exact hg', rfl⟩
    rw [heq, show h.touches.length - j = (h.touches.length - (j + 1)) + 1 by omega, hrsGo, hget, List.append_assoc]; rfl
  · simp only [go_sem, reduceIte, reduceCtorEq, Nat.reduceEqDiff, Nat.reduceBEq, Nat.reduceAdd, Nat.reduceMul, Nat.reduceLeDiff, g1, g2, g6, hN, hB, hlt, take_f', List.getElem?_cons_zero]
    have : j = h.touches.length := by omega
    subst this
    refine fin_ret 4 (by simp [upd_at, hN]) ⟨_, H, ?_, rfl, rfl⟩
    simp only [upd_at, if_true]
    rw [heq, Nat.sub_self, hrsGo, List.append_nil]
    exact hG.weaken hE
theorem bc36 (a b : List (List AV)) : buildCells [.emp, .emp] [(0, 1), (1, 1)] [.slice a, .slice b] = some [.slice a, .slice b] := by
  simp [buildCells, placeAt, AV.ok, AV.cells]
theorem eCr_good (l : List Course) : goodEls 2 (l.map eCr) := by
  intro e he; rw [List.mem_map] at he; obtain ⟨x, _, rfl⟩ := he; rfl
theorem eCr_cell (l : List Course) : cellEls (l.map eCr) := by
  intro e he x hx; rw [List.mem_map] at he; obtain ⟨y, _, rfl⟩ := he
  simp only [eCr, List.mem_cons, List.not_mem_nil, or_false] at hx
  rcases hx with rfl | rfl <;> rfl
def rowR (h : House) (j : Nat) (o : List Int) : List Course := (List.range j).map fun n => ⟨o, hrsOf h n⟩
def coursesR (h : House) : List Course := (truthsR h.table).flatMap (rowR h (timesR h h.touches.length))
theorem truthsR_size (t : Table) : (truthsR t).length ≤ 3000 := Nat.le_trans (ownersUpto_len t _) (Nat.min_le_left _ _)
theorem truthsR_own {t : Table} {o : List Int} (ho : o ∈ truthsR t) : o.length = t.pieces.length := by
  simp only [truthsR, ownersUpto, List.mem_filter, List.mem_map] at ho
  obtain ⟨⟨n, _, rfl⟩, _⟩ := ho
  exact nthL_len _ _ _
theorem flat_len (h : House) (T : Nat) : ∀ l : List (List Int), (l.flatMap (rowR h T)).length = l.length * T
  | [] => by simp
  | o :: l => by rw [List.flatMap_cons, List.length_append, flat_len h T l, List.length_cons, Nat.add_mul]; simp [rowR]; omega
theorem coursesR_c (h : House) (hv : HV h) : Pure Tryz.prog 36 [eH h] (eCL (coursesR h)) := by
  intro H
  have hm6 := hv.ok.touches
  have hts := truthsR_size h.table
  have hT : timesR h h.touches.length ≤ 3000 := Nat.min_le_left _ _
  obtain ⟨tr, htr⟩ : ∃ tr, tr = truthsR h.table := ⟨_, rfl⟩
  obtain ⟨T, hTe⟩ : ∃ T, T = timesR h h.touches.length := ⟨_, rfl⟩
  refine fn_of hmix fc36 (by simp) ?_
  rw [ienv1]
  simp only [go_sem, reduceIte, reduceCtorEq, Nat.reduceEqDiff, Nat.reduceBEq, Nat.reduceAdd, Nat.reduceMul, Nat.reduceLeDiff, ac36, eH]
  refine v_box _ rfl fun b1 hb1 => ?_
  simp only [go_sem, reduceIte, reduceCtorEq, Nat.reduceEqDiff, Nat.reduceBEq, Nat.reduceAdd, Nat.reduceMul, Nat.reduceLeDiff]
  refine (truthsR_c h.table hv.ok.sm hv.tab).go ?_
  rw [coursesR, ← htr, ← hTe]
  rw [← htr] at hts
  simp only [go_sem, reduceIte, reduceCtorEq, Nat.reduceEqDiff, Nat.reduceBEq, Nat.reduceAdd, Nat.reduceMul, Nat.reduceLeDiff, eII]
  refine x_for tr.length (fun j env H1 => Ext H H1 ∧ H1 b1 = some (.box [.slice (h.table.women.map eW), .slice (h.table.pieces.map eP), i6 h.table.wrong, .slice (eI h.sick), i6 h.others, i6 h.last, .slice (h.touches.map eTo), .slice (h.boiled.map eB), .slice (h.signs.map eS)]) ∧ Grown 2 H H1 (env 3) (((tr.take j).flatMap (rowR h T)).map eCr) ∧ env 1 = .ptr b1 0 ∧ env 4 = .slice (tr.map fun x => [AV.slice (eI x)]) ∧ env 5 = i6 j ∧ env 34 = .any)
    ⟨(Ext.refl H).new hb1 _, updH_same _ _ _, .inl ⟨by simp [upd_at], rfl⟩, by simp [upd_at], by simp [upd_at], by simp [upd_at], by simp [upd_at]⟩ ?_
  rintro j env H1 hj ⟨hE, hB, hG, g1, g4, g5, hN⟩
  by_cases hlt : (j : Int) < (tr.length : Int)
  rotate_left
  · simp only [go_sem, reduceIte, reduceCtorEq, Nat.reduceEqDiff, Nat.reduceBEq, Nat.reduceAdd, Nat.reduceMul, Nat.reduceLeDiff, g1, g4, g5, hN, hlt]
    have : j = tr.length := by omega
    subst this
    refine fin_ret 2 (by simp [upd_at, hN]) ⟨_, H, ?_, rfl, rfl⟩
    simp only [upd_at, if_true]
    rw [List.take_length] at hG
    exact hG.weaken hE
  have hlt' : j < tr.length := by omega
  simp only [go_sem, reduceIte, reduceCtorEq, Nat.reduceEqDiff, Nat.reduceBEq, Nat.reduceAdd, Nat.reduceMul, Nat.reduceLeDiff, g1, g4, g5, hN, hlt]
  refine x_for T (fun n env H1 => Ext H H1 ∧ H1 b1 = some (.box [.slice (h.table.women.map eW), .slice (h.table.pieces.map eP), i6 h.table.wrong, .slice (eI h.sick), i6 h.others, i6 h.last, .slice (h.touches.map eTo), .slice (h.boiled.map eB), .slice (h.signs.map eS)]) ∧ Grown 2 H H1 (env 3) (((tr.take j).flatMap (rowR h T) ++ rowR h n tr[j]).map eCr) ∧ env 1 = .ptr b1 0 ∧ env 4 = .slice (tr.map fun x => [AV.slice (eI x)]) ∧ env 5 = i6 j ∧ env 6 = i6 n ∧ env 34 = .any)
    ⟨hE, hB, by simpa [upd_at, rowR] using hG, by simp [upd_at, g1], by simp [upd_at, g4], by simp [upd_at, g5], by simp [upd_at], by simp [upd_at, hN]⟩ ?_
  clear hE hB hG g1 g4 g5 hN hlt env H1
  rintro n env H1 hn ⟨hE, hB, hG, g1, g4, g5, g6, hN⟩
  simp only [go_sem, reduceIte, reduceCtorEq, Nat.reduceEqDiff, Nat.reduceBEq, Nat.reduceAdd, Nat.reduceMul, Nat.reduceLeDiff, g1, g4, g5, g6, hN, hB]
  refine (timesR_c h hm6 hv.tim).go ?_
  rw [← hTe]
  by_cases hlt : (n : Int) < (T : Int)
  · have hltn : n < T := by omega
    simp only [go_sem, reduceIte, reduceCtorEq, Nat.reduceEqDiff, Nat.reduceBEq, Nat.reduceAdd, Nat.reduceMul, Nat.reduceLeDiff, g1, g4, g5, g6, hN, hlt, hB, map_get (f := fun x : List Int => [AV.slice (eI x)]) hlt', take_f', List.getElem?_cons_zero]
    refine pgo_call (hours_c h hv n (by omega)) ?_
    have hsz : ((tr.take j).flatMap (rowR h T)).length ≤ 3000 * 3000 := by
      rw [flat_len]
      exact Nat.mul_le_mul (by simp; omega) (by omega)
    have hsr : (rowR h n tr[j]).length = n := by simp [rowR]
    simp only [go_sem, reduceIte, reduceCtorEq, Nat.reduceEqDiff, Nat.reduceBEq, Nat.reduceAdd, Nat.reduceMul, Nat.reduceLeDiff, bc36, Option.map_some, d_bsa]
    refine v_append hG hE rfl (eCr_good _) (eCr_good [⟨tr[j], hrsOf h n⟩]) (eCr_cell [⟨tr[j], hrsOf h n⟩]) (by simp only [List.length_map, List.length_append, hsr, List.length_cons, List.length_nil]; omega) (by simp only [List.length_map, List.length_append, hsr, List.length_cons, List.length_nil]; omega) ?_
    intro v' H2 hg' he' hk'
    simp only [go_sem, reduceIte, reduceCtorEq, Nat.reduceEqDiff, Nat.reduceBEq, Nat.reduceAdd, Nat.reduceMul, Nat.reduceLeDiff, g1, g4, g5, g6, hN, wsucc (show n < 4611686018427387904 by omega), hltn, hk'.box hG hB]
    refine ⟨he', ?_⟩
    have : rowR h (n + 1) tr[j] = rowR h n tr[j] ++ [⟨tr[j], hrsOf h n⟩] := by simp only [rowR, List.range_succ, List.map_append]; rfl
    rw [this, ← List.append_assoc, List.map_append]; exact hg'
  · have : n = T := by omega
    subst this
    simp only [go_sem, reduceIte, reduceCtorEq, Nat.reduceEqDiff, Nat.reduceBEq, Nat.reduceAdd, Nat.reduceMul, Nat.reduceLeDiff, g1, g4, g5, g6, hN, hlt, wsucc (show j < 4611686018427387904 by omega), hlt']
    refine ⟨hE, hB, ?_⟩
    rw [take_snoc hlt', List.flatMap_append]; simpa using hG
theorem coursesR_len {h : House} {c : Course} (hc : c ∈ coursesR h) : CLen h c := by
  simp only [coursesR, List.mem_flatMap, rowR, List.mem_map] at hc
  obtain ⟨o, ho, n, _, rfl⟩ := hc
  exact ⟨truthsR_own ho, hrsGo_len _ _ _ _⟩
theorem coursesR_size (h : House) : (coursesR h).length ≤ 9000000 := by
  rw [coursesR, flat_len]
  exact Nat.mul_le_mul (truthsR_size _) (Nat.min_le_left _ _)
def truthsH (h : House) : List Course := (coursesR h).filter (isTrue h [])
theorem truthsH_c (h : House) (hv : HV h) : Pure Tryz.prog 63 [eH h] (eCL (truthsH h)) := by
  intro H
  have hsg := hv.ok.signs
  have hcs := coursesR_size h
  obtain ⟨cs, hcse⟩ : ∃ cs, cs = coursesR h := ⟨_, rfl⟩
  have hcl : ∀ c ∈ cs, CLen h c := fun c hc => coursesR_len (by rw [← hcse]; exact hc)
  rw [← hcse] at hcs
  refine fn_of hmix fc63 (by simp) ?_
  rw [ienv1]
  simp only [go_sem, reduceIte, reduceCtorEq, Nat.reduceEqDiff, Nat.reduceBEq, Nat.reduceAdd, Nat.reduceMul, Nat.reduceLeDiff, ac63, eH]
  refine v_box _ rfl fun b1 hb1 => ?_
  simp only [go_sem, reduceIte, reduceCtorEq, Nat.reduceEqDiff, Nat.reduceBEq, Nat.reduceAdd, Nat.reduceMul, Nat.reduceLeDiff]
  refine (coursesR_c h hv).go ?_
  rw [truthsH, ← hcse]
  simp only [go_sem, reduceIte, reduceCtorEq, Nat.reduceEqDiff, Nat.reduceBEq, Nat.reduceAdd, Nat.reduceMul, Nat.reduceLeDiff, eCL]
  refine x_for cs.length (fun j env H1 => Ext H H1 ∧ H1 b1 = some (.box [.slice (h.table.women.map eW), .slice (h.table.pieces.map eP), i6 h.table.wrong, .slice (eI h.sick), i6 h.others, i6 h.last, .slice (h.touches.map eTo), .slice (h.boiled.map eB), .slice (h.signs.map eS)]) ∧ Grown 2 H H1 (env 3) (((cs.take j).filter (isTrue h [])).map eCr) ∧ env 1 = .ptr b1 0 ∧ env 4 = .slice (cs.map eCr) ∧ env 5 = i6 j ∧ env 31 = .any)
    ⟨(Ext.refl H).new hb1 _, updH_same _ _ _, .inl ⟨by simp [upd_at], rfl⟩, by simp [upd_at], by simp [upd_at], by simp [upd_at], by simp [upd_at]⟩ ?_
  rintro j env H1 hj ⟨hE, hB, hG, g1, g4, g5, hN⟩
  by_cases hlt : (j : Int) < (cs.length : Int)
  · have hlt' : j < cs.length := by omega
    have hfl : ((cs.take j).filter (isTrue h [])).length ≤ j := Nat.le_trans (List.length_filter_le _ _) (by simp; omega)
    have hd : decide (((natOf (signsL h cs[j]) : Nat) : Int) = ((fullN h : Nat) : Int)) = isTrue h [] cs[j] := by
      rw [Bool.eq_iff_iff, decide_eq_true_eq, ← signs_full]; omega
    simp only [go_sem, reduceIte, reduceCtorEq, Nat.reduceEqDiff, Nat.reduceBEq, Nat.reduceAdd, Nat.reduceMul, Nat.reduceLeDiff, g1, g4, g5, hN, hlt, hB, map_get (f := eCr) hlt', eCr]
    refine pgo_call (rightH_c h hv cs[j] (hcl _ (List.getElem_mem hlt'))) ?_
    simp only [go_sem, reduceIte, reduceCtorEq, Nat.reduceEqDiff, Nat.reduceBEq, Nat.reduceAdd, Nat.reduceMul, Nat.reduceLeDiff, g1, g4, g5, hN, hB]
    refine pgo_call (fullH_c h (by omega)) ?_
    simp only [go_sem, reduceIte, reduceCtorEq, Nat.reduceEqDiff, Nat.reduceBEq, Nat.reduceAdd, Nat.reduceMul, Nat.reduceLeDiff, hd]
    cases hT : isTrue h [] cs[j]
    · simp only [go_sem, reduceIte, reduceCtorEq, Nat.reduceEqDiff, Nat.reduceBEq, Nat.reduceAdd, Nat.reduceMul, Nat.reduceLeDiff, g1, g4, g5, hN, hB, wsucc (show j < 4611686018427387904 by omega), hlt']
      refine ⟨hE, ?_⟩
      rw [take_snoc hlt', List.filter_append]; simpa [List.filter_cons, hT] using hG
    · simp only [go_sem, reduceIte, reduceCtorEq, Nat.reduceEqDiff, Nat.reduceBEq, Nat.reduceAdd, Nat.reduceMul, Nat.reduceLeDiff, g1, g4, g5, hN, map_get (f := eCr) hlt', eCr, d_bsa]
      refine v_append hG hE rfl (eCr_good _) (eCr_good [cs[j]]) (eCr_cell [cs[j]]) (by simp; omega) (by simp; omega) ?_
      intro v' H2 hg' he' hk'
      simp only [go_sem, reduceIte, reduceCtorEq, Nat.reduceEqDiff, Nat.reduceBEq, Nat.reduceAdd, Nat.reduceMul, Nat.reduceLeDiff, g1, g4, g5, hN, wsucc (show j < 4611686018427387904 by omega), hlt']
      refine ⟨he', hk'.box hG hB, ?_⟩
      rw [take_snoc hlt', List.filter_append, List.map_append]
      have : [cs[j]].filter (isTrue h []) = [cs[j]] := by simp [List.filter_cons, hT]
      rw [this]; exact hg'
  · simp only [go_sem, reduceIte, reduceCtorEq, Nat.reduceEqDiff, Nat.reduceBEq, Nat.reduceAdd, Nat.reduceMul, Nat.reduceLeDiff, g1, g4, g5, hN, hlt]
    have : j = cs.length := by omega
    subst this
    refine fin_ret 2 (by simp [upd_at, hN]) ⟨_, H, ?_, rfl, rfl⟩
    simp only [upd_at, if_true]
    rw [List.take_length] at hG
    exact hG.weaken hE
def allR (h : House) : List Nat := (coursesR h).map fun c => natOf (signsL h c)
theorem allR_c (h : House) (hv : HV h) : Pure Tryz.prog 32 [eH h] (.slice (eN (allR h))) := by
  intro H
  have hcs := coursesR_size h
  obtain ⟨cs, hcse⟩ : ∃ cs, cs = coursesR h := ⟨_, rfl⟩
  have hcl : ∀ c ∈ cs, CLen h c := fun c hc => coursesR_len (by rw [← hcse]; exact hc)
  rw [← hcse] at hcs
  refine fn_of hmix fc32 (by simp) ?_
  rw [ienv1]
  simp only [go_sem, reduceIte, reduceCtorEq, Nat.reduceEqDiff, Nat.reduceBEq, Nat.reduceAdd, Nat.reduceMul, Nat.reduceLeDiff, ac32, eH]
  refine v_box _ rfl fun b1 hb1 => ?_
  simp only [go_sem, reduceIte, reduceCtorEq, Nat.reduceEqDiff, Nat.reduceBEq, Nat.reduceAdd, Nat.reduceMul, Nat.reduceLeDiff]
  refine (coursesR_c h hv).go ?_
  rw [allR, ← hcse]
  simp only [go_sem, reduceIte, reduceCtorEq, Nat.reduceEqDiff, Nat.reduceBEq, Nat.reduceAdd, Nat.reduceMul, Nat.reduceLeDiff, eCL]
  refine x_for cs.length (fun j env H1 => Ext H H1 ∧ H1 b1 = some (.box [.slice (h.table.women.map eW), .slice (h.table.pieces.map eP), i6 h.table.wrong, .slice (eI h.sick), i6 h.others, i6 h.last, .slice (h.touches.map eTo), .slice (h.boiled.map eB), .slice (h.signs.map eS)]) ∧ Grown 1 H H1 (env 3) (eN ((cs.take j).map fun c => natOf (signsL h c))) ∧ env 1 = .ptr b1 0 ∧ env 4 = .slice (cs.map eCr) ∧ env 5 = i6 j ∧ env 24 = .any)
    ⟨(Ext.refl H).new hb1 _, updH_same _ _ _, .inl ⟨by simp [upd_at], rfl⟩, by simp [upd_at], by simp [upd_at], by simp [upd_at], by simp [upd_at]⟩ ?_
  rintro j env H1 hj ⟨hE, hB, hG, g1, g4, g5, hN⟩
  by_cases hlt : (j : Int) < (cs.length : Int)
  · have hlt' : j < cs.length := by omega
    simp only [go_sem, reduceIte, reduceCtorEq, Nat.reduceEqDiff, Nat.reduceBEq, Nat.reduceAdd, Nat.reduceMul, Nat.reduceLeDiff, g1, g4, g5, hN, hlt, hB, map_get (f := eCr) hlt', eCr]
    refine pgo_call (rightH_c h hv cs[j] (hcl _ (List.getElem_mem hlt'))) ?_
    simp only [go_sem, reduceIte, reduceCtorEq, Nat.reduceEqDiff, Nat.reduceBEq, Nat.reduceAdd, Nat.reduceMul, Nat.reduceLeDiff]
    refine v_append hG hE rfl (eI_good _) (one_good _) (one_cell _) (by simp [eN]; omega) (by simp [eN]; omega) ?_
    intro v' H2 hg' he' hk'
    simp only [go_sem, reduceIte, reduceCtorEq, Nat.reduceEqDiff, Nat.reduceBEq, Nat.reduceAdd, Nat.reduceMul, Nat.reduceLeDiff, g1, g4, g5, hN, wsucc (show j < 4611686018427387904 by omega), hlt', hk'.box hG hB]
    refine ⟨he', ?_⟩
    rw [take_snoc hlt', List.map_append, eN, List.map_append, eI_app]; exact hg'
  · simp only [go_sem, reduceIte, reduceCtorEq, Nat.reduceEqDiff, Nat.reduceBEq, Nat.reduceAdd, Nat.reduceMul, Nat.reduceLeDiff, g1, g4, g5, hN, hlt]
    have : j = cs.length := by omega
    subst this
    refine fin_ret 2 (by simp [upd_at, hN]) ⟨_, H, ?_, rfl, rfl⟩
    simp only [upd_at, if_true]
    rw [List.take_length] at hG
    exact hG.weaken hE
end Go.Lift
set_option linter.unusedSimpArgs false
set_option linter.unusedVariables false
namespace Go.Lift
open Go Go.Proofs
/-- What may be said of a value instead. -/
def Wk (x y : AV) : Prop := ∀ H w v, Rep H w v x → Rep H w v y
theorem Wk.refl (x : AV) : Wk x x := fun _ _ _ h => h
theorem Wk.emp : Wk .emp (.slice []) := fun _ _ _ h => Rep.weaken_emp h
theorem Wk.grow (b cap : Nat) (es : List (List AV)) : Wk (.grow b cap es) (.slice es) := fun _ _ _ h => Rep.weaken_slice h
theorem Wk.agg {xs ys : List AV} (hl : xs.length = ys.length) (h : ∀ (i : Nat) (x y : AV), xs[i]? = some x → ys[i]? = some y → Wk x y) : Wk (.agg xs) (.agg ys) := fun H w v hr => by
  cases hr with
  | agg arr cs hs hx =>
    refine .agg arr ys (by omega) fun i y hy => ?_
    have hi : i < ys.length := by
      rcases Nat.lt_or_ge i ys.length with h | h
      · exact h
      · rw [List.getElem?_eq_none h] at hy; cases hy
    have hx' : xs[i]? = some xs[i] := by simp [show i < xs.length by omega]
    exact h i _ y hx' hy H w _ (hx i _ hx')
theorem Grown.wk {sz : Nat} {H0 H : AHeap} {v : AV} {es : List (List AV)} (g : Grown sz H0 H v es) : Wk v (.slice es) := fun _ _ _ hr => by
  rcases g with ⟨rfl, rfl⟩ | ⟨b, cap, rfl, _⟩
  · exact Rep.weaken_emp hr
  · exact Rep.weaken_slice hr
/-- Two lists grow in places of their own. -/
def Apart (v u : AV) : Prop := ∀ b c e c' e', v = .grow b c e → u ≠ .grow b c' e'
theorem v_append_in {P : Program} {R : AV → AHeap → Prop} {sz bytes : Nat} {H0 H : AHeap} {v y : AV} {es es2 : List (List AV)} (g : Grown sz H0 H v es) (e : Ext H0 H) (hy : asSlice y = some es2) (hg : goodEls sz es) (hg2 : goodEls sz es2) (hc : cellEls es2)
    (hb : (es.length + es2.length) * bytes ≤ 140737488355328) (hb' : es.length + es2.length ≤ 9223372036854775807)
    (h : ∀ v' H', Grown sz H0 H' v' (es ++ es2) → Ext H0 H' → (∀ x o, H x = some o → (∀ n s c, o ≠ .tail n s c) → H' x = some o) →
      (∀ sz' u es', Grown sz' H0 H u es' → Apart v u → Grown sz' H0 H' u es' ∧ Apart v' u) → R v' H') : aopV P (.append sz bytes) [v, y] H R := by
  have hg3 : Grown sz (outer (fun x => ∃ cap es, v = .grow x cap es) H) H v es := g.to fun b cap es' h => outer_in ⟨cap, es', h⟩
  refine v_append hg3 (ext_outer _ _) hy hg hg2 hc hb hb' fun v' H' g' e' _ => ?_
  have hE : Ext H0 H' := fun x o hx => e' x o (by
    rw [outer_out]; exact e x o hx
    rintro ⟨cap, es, rfl⟩
    rcases g with ⟨h1, _⟩ | ⟨b', cap', h1, h2, _⟩
    · cases h1
    · cases h1; rw [hx] at h2; cases h2)
  refine h v' H' (g'.to fun b cap es' hb => ?_) hE (fun x o hx ho => e' x o ?_) fun sz' u es' gu ha => ?_
  · subst hb
    rcases g' with ⟨h1, _⟩ | ⟨b', cap', h1, h2, _⟩
    · cases h1
    · cases h1
      rcases outer_none h2 with ⟨cap, es, rfl⟩ | h3
      · rcases g with ⟨h4, _⟩ | ⟨b5, cap5, h4, h5, _⟩
        · cases h4
        · cases h4; exact h5
      · exact e.isNone h3
  · rw [outer_out]; exact hx
    rintro ⟨cap, es, rfl⟩
    rcases g with ⟨h1, _⟩ | ⟨b', cap', h1, _, h3⟩
    · cases h1
    · cases h1; rw [hx] at h3; cases h3; exact ho _ _ _ rfl
  · rcases gu with ⟨rfl, rfl⟩ | ⟨b, cap, rfl, hb0, hb1⟩
    · exact ⟨.inl ⟨rfl, rfl⟩, fun b c e c' e' _ h => by cases h⟩
    · have ho : outer (fun x => ∃ cap es, v = .grow x cap es) H b = some (.tail es'.length sz' cap) := by
        rw [outer_out]; exact hb1
        rintro ⟨cap2, es, rfl⟩
        exact ha b cap2 es cap es' rfl rfl
      refine ⟨.inr ⟨b, cap, rfl, hb0, e' b _ ho⟩, fun b' c e2 c' e3 hv' hu => ?_⟩
      cases hu
      rcases g' with ⟨h1, _⟩ | ⟨b2, cap2, h1, h2, _⟩
      · rw [hv'] at h1; cases h1
      · rw [hv'] at h1; cases h1; rw [ho] at h2; cases h2
theorem copyL_c (l : List Int) (hl : l.length ≤ 2147483648) : Pure Tryz.prog 39 [.slice (eI l)] (.slice (eI l)) := by
  intro H
  refine fn_of hmix fc39 (by simp) ?_
  rw [ienv1]
  simp only [go_sem, reduceIte, reduceCtorEq, Nat.reduceEqDiff, Nat.reduceBEq, Nat.reduceAdd, Nat.reduceMul, Nat.reduceLeDiff, ac39]
  refine v_append (H0 := H) (sz := 1) (.inl ⟨rfl, rfl⟩) (Ext.refl H) rfl (by intro e he; cases he) (eI_good l) (eI_cell l) (by simp; omega) (by simp; omega) ?_
  intro v' H' hg he hk
  simp only [go_sem, reduceIte, reduceCtorEq, Nat.reduceEqDiff, Nat.reduceBEq, Nat.reduceAdd, Nat.reduceMul, Nat.reduceLeDiff]
  refine fin_ret 2 (by simp [upd_at]) ⟨_, H, ?_, rfl, rfl⟩
  simp only [upd_at, if_true]
  have := hg.weaken he
  simpa using this
theorem copyT_c (l : List Int) (hl : l.length ≤ 2147483648) : Pure Tryz.prog 104 [.slice (eI l)] (.slice (eI l)) := by
  intro H
  refine fn_of hmix fc104 (by simp) ?_
  rw [ienv1]
  simp only [go_sem, reduceIte, reduceCtorEq, Nat.reduceEqDiff, Nat.reduceBEq, Nat.reduceAdd, Nat.reduceMul, Nat.reduceLeDiff, ac104]
  refine v_append (H0 := H) (sz := 1) (.inl ⟨rfl, rfl⟩) (Ext.refl H) rfl (by intro e he; cases he) (eI_good l) (eI_cell l) (by simp; omega) (by simp; omega) ?_
  intro v' H' hg he hk
  simp only [go_sem, reduceIte, reduceCtorEq, Nat.reduceEqDiff, Nat.reduceBEq, Nat.reduceAdd, Nat.reduceMul, Nat.reduceLeDiff]
  refine fin_ret 2 (by simp [upd_at]) ⟨_, H, ?_, rfl, rfl⟩
  simp only [upd_at, if_true]
  have := hg.weaken he
  simpa using this
theorem same_c (a b : List Int) (ha : Sm a.length) : Pure Tryz.prog 28 [.slice (eI a), .slice (eI b)] (.bool (decide (a = b))) := by
  intro H
  unfold Sm at ha
  refine fn_of hmix fc28 (by simp) ?_
  rw [ienv2]
  by_cases c1 : (a.length : Int) = (b.length : Int)
  rotate_left
  · simp only [go_sem, reduceIte, reduceCtorEq, Nat.reduceEqDiff, Nat.reduceBEq, Nat.reduceAdd, Nat.reduceMul, Nat.reduceLeDiff, ac28, c1]
    refine fin_ret' 4 (by simp [upd_at]) ?_
    simp only [upd_at, if_true, and_true, AV.bool.injEq]
    symm; rw [decide_eq_false_iff_not]
    rintro rfl; exact c1 rfl
  have c1' : a.length = b.length := by omega
  have d1 : decide ((a.length : Int) = (b.length : Int)) = true := decide_eq_true c1
  simp only [go_sem, reduceIte, reduceCtorEq, Nat.reduceEqDiff, Nat.reduceBEq, Nat.reduceAdd, Nat.reduceMul, Nat.reduceLeDiff, ac28, d1]
  refine x_for a.length (fun j env H1 => H1 = H ∧ a.take j = b.take j ∧ env 0 = .slice (eI a) ∧ env 1 = .slice (eI b) ∧ env 5 = i6 j ∧ env 26 = .any) (by simp [upd_at]) ?_
  rintro j env H1 hj ⟨rfl, hq, g0, g1, g5, hN⟩
  by_cases hlt : (j : Int) < (a.length : Int)
  · have hla : j < a.length := by omega
    have hlb : j < b.length := by omega
    by_cases he : a[j] = b[j]
    · simp only [go_sem, reduceIte, reduceCtorEq, Nat.reduceEqDiff, Nat.reduceBEq, Nat.reduceAdd, Nat.reduceMul, Nat.reduceLeDiff, g0, g1, g5, hN, hlt, eI_get hla, eI_get hlb, he, wsucc (show j < 4611686018427387904 by omega), hla]
      rw [take_snoc hla, take_snoc hlb, hq, he]
    · simp only [go_sem, reduceIte, reduceCtorEq, Nat.reduceEqDiff, Nat.reduceBEq, Nat.reduceAdd, Nat.reduceMul, Nat.reduceLeDiff, g0, g1, g5, hN, hlt, eI_get hla, eI_get hlb, he]
      refine fin_ret' 4 (by simp [upd_at, hN]) ?_
      simp only [upd_at, if_true, and_true, AV.bool.injEq]
      symm; rw [decide_eq_false_iff_not]
      rintro rfl; exact he rfl
  · simp only [go_sem, reduceIte, reduceCtorEq, Nat.reduceEqDiff, Nat.reduceBEq, Nat.reduceAdd, Nat.reduceMul, Nat.reduceLeDiff, g0, g1, g5, hN, hlt]
    have : j = a.length := by omega
    subst this
    refine fin_ret' 4 (by simp [upd_at, hN]) ?_
    rw [List.take_length, c1', List.take_length] at hq
    simp [upd_at, hq]
theorem agg71 : isAggB Tryz.prog 71 = some true := by kernel_rfl
theorem sz71 : szB Tryz.prog 71 = some 2 := by kernel_rfl
theorem course_c (c : Course) (h1 : c.owners.length ≤ 2147483648) (h2 : c.hours.length ≤ 2147483648) : Pure Tryz.prog 38 [eC c] (eC c) := by
  intro H
  refine fn_of hmix fc38 (by simp) ?_
  rw [ienv1]
  simp only [go_sem, reduceIte, reduceCtorEq, Nat.reduceEqDiff, Nat.reduceBEq, Nat.reduceAdd, Nat.reduceMul, Nat.reduceLeDiff, ac38, eC]
  refine v_box _ rfl fun b1 hb1 => ?_
  simp only [go_sem, reduceIte, reduceCtorEq, Nat.reduceEqDiff, Nat.reduceBEq, Nat.reduceAdd, Nat.reduceMul, Nat.reduceLeDiff]
  refine v_alloc fun b2 hb2 => ?_
  have n12 : b1 ≠ b2 := fun h => by subst h; simp at hb2
  have e2 := ((Ext.refl H).new hb1 (.box [.slice (eI c.owners), .slice (eI c.hours)])).new hb2 (.box [.emp, .emp])
  have z2 := ((Ext.refl H).new hb1 (.box [.slice (eI c.owners), .slice (eI c.hours)])).isNone hb2
  simp only [go_sem, reduceIte, reduceCtorEq, Nat.reduceEqDiff, Nat.reduceBEq, Nat.reduceAdd, Nat.reduceMul, Nat.reduceLeDiff, updH_ne _ _ n12, take_f', List.getElem?_cons_zero]
  refine pgo_call (copyL_c c.owners h1) ?_
  simp only [go_sem, reduceIte, reduceCtorEq, Nat.reduceEqDiff, Nat.reduceBEq, Nat.reduceAdd, Nat.reduceMul, Nat.reduceLeDiff, updH_ne _ _ n12, take_f', List.getElem?_cons_zero]
  refine pgo_call (copyL_c c.hours h2) ?_
  simp only [go_sem, reduceIte, reduceCtorEq, Nat.reduceEqDiff, Nat.reduceBEq, Nat.reduceAdd, Nat.reduceMul, Nat.reduceLeDiff, bc36, Option.map_some]
  rw [v_store]
  refine ⟨rfl, rfl, by simp [AV.cells, AV.isCell], _, updH_same _ _ _, by simp, ?_⟩
  rw [c_agg, show placeAt [.emp, .emp] 0 [.slice (eI c.owners), .slice (eI c.hours)] = [.slice (eI c.owners), .slice (eI c.hours)] from rfl]
  simp only [go_sem, reduceIte, reduceCtorEq, Nat.reduceEqDiff, Nat.reduceBEq, Nat.reduceAdd, Nat.reduceMul, Nat.reduceLeDiff]
  refine fin_cell1 2 2 b2 71 _ (by simp [upd_at]) agg71 sz71 (by simp [upd_at]) (updH_same _ _ _) rfl ⟨_, H, Settle.refl (e2.upd z2 _), rfl, rfl⟩
end Go.Lift
set_option linter.unusedSimpArgs false
set_option linter.unusedVariables false
namespace Go.Lift
open Go Go.Proofs
theorem agg40 : isAggB Tryz.prog 40 = some true := by kernel_rfl
theorem sz40 : szB Tryz.prog 40 = some 3 := by kernel_rfl
theorem agg45 : isAggB Tryz.prog 45 = some true := by kernel_rfl
theorem sz45 : szB Tryz.prog 45 = some 9 := by kernel_rfl
theorem eW_good (l : List Woman) : goodEls 3 (l.map eW) := by
  intro e he; rw [List.mem_map] at he; obtain ⟨x, _, rfl⟩ := he; rfl
theorem eW_cell (l : List Woman) : cellEls (l.map eW) := by
  intro e he x hx; rw [List.mem_map] at he; obtain ⟨y, _, rfl⟩ := he
  simp only [eW, List.mem_cons, List.not_mem_nil, or_false] at hx
  rcases hx with rfl | rfl | rfl <;> rfl
theorem eP_good (l : List Piece) : goodEls 2 (l.map eP) := by
  intro e he; rw [List.mem_map] at he; obtain ⟨x, _, rfl⟩ := he; rfl
theorem eP_cell (l : List Piece) : cellEls (l.map eP) := by
  intro e he x hx; rw [List.mem_map] at he; obtain ⟨y, _, rfl⟩ := he
  simp only [eP, List.mem_cons, List.not_mem_nil, or_false] at hx
  rcases hx with rfl | rfl <;> rfl
theorem eTo_good (l : List Touch) : goodEls 4 (l.map eTo) := by
  intro e he; rw [List.mem_map] at he; obtain ⟨x, _, rfl⟩ := he; rfl
theorem eTo_cell (l : List Touch) : cellEls (l.map eTo) := by
  intro e he x hx; rw [List.mem_map] at he; obtain ⟨y, _, rfl⟩ := he
  simp only [eTo, List.mem_cons, List.not_mem_nil, or_false] at hx
  rcases hx with rfl | rfl | rfl | rfl <;> rfl
theorem eS_good (l : List Sign) : goodEls 2 (l.map eS) := by
  intro e he; rw [List.mem_map] at he; obtain ⟨x, _, rfl⟩ := he; rfl
theorem eS_cell (l : List Sign) : cellEls (l.map eS) := by
  intro e he x hx; rw [List.mem_map] at he; obtain ⟨y, _, rfl⟩ := he
  simp only [eS, List.mem_cons, List.not_mem_nil, or_false] at hx
  rcases hx with rfl | rfl <;> rfl
theorem bcT (w : Int) : buildCells [.emp, .emp, .int .i64 0] [(2, 1)] [.int .i64 w] = some [.emp, .emp, i6 w] := by simp [buildCells, placeAt, AV.ok, AV.cells]
theorem bcW (a b c : Int) : buildCells [.int .i64 0, .int .i64 0, .int .i64 0] [(0, 1), (1, 2)] [.int .i64 a, .agg [.int .i64 b, .int .i64 c]] = some [i6 a, i6 b, i6 c] := by simp [buildCells, placeAt, AV.ok, AV.cells]
theorem bcP (es : List (List AV)) (b : Int) : buildCells [.emp, .int .i64 0] [(0, 1), (1, 1)] [.slice es, .int .i64 b] = some [.slice es, i6 b] := by simp [buildCells, placeAt, AV.ok, AV.cells]
theorem bcTo (a b c d : Int) : buildCells [.int .i64 0, .int .i64 0, .int .i64 0, .int .i64 0] [(0, 1), (1, 1), (2, 2)] [.int .i64 a, .int .i64 b, .agg [.int .i64 c, .int .i64 d]] = some [i6 a, i6 b, i6 c, i6 d] := by simp [buildCells, placeAt, AV.ok, AV.cells]
theorem bcS (a : Int) (b : Bool) : buildCells [.int .i64 0, .bool false] [(0, 1), (1, 1)] [.int .i64 a, .bool b] = some [i6 a, .bool b] := by simp [buildCells, placeAt, AV.ok, AV.cells]
theorem bcH (a b c : AV) (es : List (List AV)) (n m : Int) : buildCells [.emp, .emp, .int .i64 0, .emp, .int .i64 0, .int .i64 0, .emp, .emp, .emp] [(0, 3), (3, 1), (4, 1), (5, 1)] [.agg [a, b, c], .slice es, .int .i64 n, .int .i64 m] = some [a, b, c, .slice es, i6 n, i6 m, .emp, .emp, .emp] := by
  simp [buildCells, placeAt, AV.ok, AV.cells]
theorem Wk.settle {H1 H2 : AHeap} {x y : AV} (h : ∀ w v, Rep H1 w v x → Rep H2 w v y) (e : Ext H2 H1) : Settle H1 x H2 y := ⟨e, fun w v _ hr => h w v hr⟩
/-- Cells that may be said otherwise, in a smaller heap. -/
theorem settle_agg {H1 H2 : AHeap} {xs ys : List AV} (e : Ext H2 H1) (hl : xs.length = ys.length) (h : ∀ (i : Nat) (x y : AV), xs[i]? = some x → ys[i]? = some y → ∀ w v, HRel H1 w → Rep H1 w v x → Rep H2 w v y) : Settle H1 (.agg xs) H2 (.agg ys) := by
  refine ⟨e, fun w v hH hr => ?_⟩
  cases hr with
  | agg arr cs hs hx =>
    refine .agg arr ys (by omega) fun i y hy => ?_
    have hi : i < ys.length := by
      rcases Nat.lt_or_ge i ys.length with h | h
      · exact h
      · rw [List.getElem?_eq_none h] at hy; cases hy
    have hx' : xs[i]? = some xs[i] := by simp [show i < xs.length by omega]
    exact h i _ y hx' hy w _ hH (hx i _ hx')
theorem table_c (t : Table) (h1 : t.women.length ≤ 2147483648) (h2 : t.pieces.length ≤ 2147483648) (h3 : ∀ p ∈ t.pieces, p.marks.length ≤ 2147483648) : Pure Tryz.prog 46 [eT t] (eT t) := by
  intro H
  refine fn_of hmix fc46 (by simp) ?_
  rw [ienv1]
  simp only [go_sem, reduceIte, reduceCtorEq, Nat.reduceEqDiff, Nat.reduceBEq, Nat.reduceAdd, Nat.reduceMul, Nat.reduceLeDiff, ac46, eT]
  refine v_box _ rfl fun b1 hb1 => ?_
  simp only [go_sem, reduceIte, reduceCtorEq, Nat.reduceEqDiff, Nat.reduceBEq, Nat.reduceAdd, Nat.reduceMul, Nat.reduceLeDiff]
  refine v_alloc fun b2 hb2 => ?_
  have n12 : b1 ≠ b2 := fun h => by subst h; simp at hb2
  have e1 := (Ext.refl H).new hb1 (.box [.slice (t.women.map eW), .slice (t.pieces.map eP), i6 t.wrong])
  have z2 : H b2 = none := e1.isNone hb2
  have e2 := e1.new hb2 (.box [.emp, .emp, .int .i64 0])
  simp only [go_sem, reduceIte, reduceCtorEq, Nat.reduceEqDiff, Nat.reduceBEq, Nat.reduceAdd, Nat.reduceMul, Nat.reduceLeDiff, updH_ne _ _ n12, take_f', List.getElem?_cons_zero, bcT, Option.map_some]
  refine v_alloc fun b3 hb3 => ?_
  have n13 : b1 ≠ b3 := fun h => by subst h; simp [updH, n12] at hb3
  have n23 : b2 ≠ b3 := fun h => by subst h; simp at hb3
  have z3 : H b3 = none := e2.isNone hb3
  simp only [go_sem, reduceIte, reduceCtorEq, Nat.reduceEqDiff, Nat.reduceBEq, Nat.reduceAdd, Nat.reduceMul, Nat.reduceLeDiff]
  rw [v_store]
  refine ⟨rfl, rfl, by simp [AV.cells, AV.isCell], _, updH_same _ _ _, by simp, ?_⟩
  rw [c_agg, show placeAt [.emp, .emp, .int .i64 0] 0 [.emp, .emp, i6 t.wrong] = [.emp, .emp, i6 t.wrong] from rfl]
  simp only [go_sem, reduceIte, reduceCtorEq, Nat.reduceEqDiff, Nat.reduceBEq, Nat.reduceAdd, Nat.reduceMul, Nat.reduceLeDiff]
  refine x_for t.women.length (fun j env H1 => Ext H H1 ∧ H1 b1 = some (.box [.slice (t.women.map eW), .slice (t.pieces.map eP), i6 t.wrong]) ∧ H1 b2 = some (.box [.emp, .emp, .int .i64 0]) ∧ (∃ v1, H1 b3 = some (.box [v1, .emp, i6 t.wrong]) ∧ Grown 3 H H1 v1 ((t.women.take j).map eW)) ∧ env 1 = .ptr b1 0 ∧ env 2 = .ptr b2 0 ∧ env 3 = .ptr b3 0 ∧ env 4 = i6 j ∧ env 64 = .any)
    ⟨(e2.new hb3 _).upd z3 _, by rw [updH_ne _ _ n13, updH_ne _ _ n13, updH_ne _ _ n12]; exact updH_same _ _ _, by rw [updH_ne _ _ n23, updH_ne _ _ n23]; exact updH_same _ _ _, ⟨.emp, updH_same _ _ _, .inl ⟨rfl, rfl⟩⟩, by simp [upd_at], by simp [upd_at], by simp [upd_at], by simp [upd_at], by simp [upd_at]⟩ ?_
  rintro j env H1 hj ⟨hE, hB1, hB2, ⟨v1, hB3, hG⟩, g1, g2, g3, g4, hN⟩
  by_cases hlt : (j : Int) < (t.women.length : Int)
  · have hlt' : j < t.women.length := by omega
    simp only [go_sem, reduceIte, reduceCtorEq, Nat.reduceEqDiff, Nat.reduceBEq, Nat.reduceAdd, Nat.reduceMul, Nat.reduceLeDiff, g1, g2, g3, g4, hN, hlt, hB1, take_f', List.getElem?_cons_zero, map_get (f := eW) hlt', eW]
    refine v_alloc fun b5 hb5 => ?_
    have n15 : b1 ≠ b5 := fun h => by subst h; rw [hB1] at hb5; cases hb5
    have n25 : b2 ≠ b5 := fun h => by subst h; rw [hB2] at hb5; cases hb5
    have n35 : b3 ≠ b5 := fun h => by subst h; rw [hB3] at hb5; cases hb5
    simp only [go_sem, reduceIte, reduceCtorEq, Nat.reduceEqDiff, Nat.reduceBEq, Nat.reduceAdd, Nat.reduceMul, Nat.reduceLeDiff, g1, g2, g3, g4, hN]
    rw [v_store]
    refine ⟨rfl, rfl, by simp [AV.cells, AV.isCell], _, updH_same _ _ _, by simp, ?_⟩
    rw [c_agg, show placeAt [.int .i64 0, .int .i64 0, .int .i64 0] 0 [i6 t.women[j].mark, i6 t.women[j].lo, i6 t.women[j].hi] = [i6 t.women[j].mark, i6 t.women[j].lo, i6 t.women[j].hi] from rfl]
    have hE5 : ∀ o1 o2, Ext H (updH (updH H1 b5 o1) b5 o2) := fun o1 o2 => (hE.new hb5 _).upd (hE.isNone hb5) _
    have hG5 : ∀ cs o2, Grown 3 H (updH (updH H1 b5 (.box cs)) b5 o2) v1 ((t.women.take j).map eW) := fun cs o2 => (hG.new hb5 (.box cs)).store (updH_same _ _ _) o2
    simp only [go_sem, reduceIte, reduceCtorEq, Nat.reduceEqDiff, Nat.reduceBEq, Nat.reduceAdd, Nat.reduceMul, Nat.reduceLeDiff, g1, g2, g3, g4, hN, updH_ne _ _ n35, hB3, take_f', List.getElem?_cons_zero, List.getElem?_cons_succ, bc2, bcW, Option.map_some, d_bsa]
    refine v_append (hG5 _ _) (hE5 _ _) rfl (eW_good _) (eW_good [t.women[j]]) (eW_cell [t.women[j]]) (by simp; omega) (by simp; omega) ?_
    intro v' H2 hg' he' hk'
    have K1 : H2 b1 = some (.box [.slice (t.women.map eW), .slice (t.pieces.map eP), i6 t.wrong]) := hk'.box (hG5 _ _) (by rw [updH_ne _ _ n15, updH_ne _ _ n15]; exact hB1)
    have K2 : H2 b2 = some (.box [.emp, .emp, .int .i64 0]) := hk'.box (hG5 _ _) (by rw [updH_ne _ _ n25, updH_ne _ _ n25]; exact hB2)
    have K3 : H2 b3 = some (.box [v1, .emp, i6 t.wrong]) := hk'.box (hG5 _ _) (by rw [updH_ne _ _ n35, updH_ne _ _ n35]; exact hB3)
    simp only [go_sem, reduceIte, reduceCtorEq, Nat.reduceEqDiff, Nat.reduceBEq, Nat.reduceAdd, Nat.reduceMul, Nat.reduceLeDiff, g1, g2, g3, g4, hN]
    rw [v_store]
    refine ⟨hg'.cellv.1, by rw [hg'.cellv.2.1]; rfl, by rw [hg'.cellv.2.1]; intro y hy; simp at hy; subst hy; exact hg'.cellv.2.2, _, K3, by simp, ?_⟩
    rw [hg'.cellv.2.1, show placeAt [v1, .emp, i6 t.wrong] 0 [v'] = [v', .emp, i6 t.wrong] from rfl]
    simp only [go_sem, reduceIte, reduceCtorEq, Nat.reduceEqDiff, Nat.reduceBEq, Nat.reduceAdd, Nat.reduceMul, Nat.reduceLeDiff, g1, g2, g3, g4, hN, wsucc (show j < 4611686018427387904 by omega), hlt', updH_ne _ _ n13, updH_ne _ _ n23, K1, K2]
    refine ⟨he'.upd z3 _, v', rfl, ?_⟩
    rw [take_snoc hlt', List.map_append]; exact hg'.store K3 _
  have hj' : j = t.women.length := by omega
  subst hj'
  rw [List.take_length] at hG
  simp only [go_sem, reduceIte, reduceCtorEq, Nat.reduceEqDiff, Nat.reduceBEq, Nat.reduceAdd, Nat.reduceMul, Nat.reduceLeDiff, g1, g2, g3, g4, hN, hlt, hB1, take_f', List.getElem?_cons_zero]
  refine x_for t.pieces.length (fun j env H1 => Ext H H1 ∧ H1 b1 = some (.box [.slice (t.women.map eW), .slice (t.pieces.map eP), i6 t.wrong]) ∧ H1 b2 = some (.box [.emp, .emp, .int .i64 0]) ∧ (∃ v2, H1 b3 = some (.box [v1, v2, i6 t.wrong]) ∧ Grown 3 H H1 v1 (t.women.map eW) ∧ Grown 2 H H1 v2 ((t.pieces.take j).map eP) ∧ Apart v2 v1) ∧ env 1 = .ptr b1 0 ∧ env 2 = .ptr b2 0 ∧ env 3 = .ptr b3 0 ∧ env 6 = i6 j ∧ env 64 = .any)
    ⟨hE, hB1, hB2, ⟨.emp, hB3, hG, .inl ⟨rfl, rfl⟩, fun b c e c' e' h => by cases h⟩, by simp [upd_at, g1], by simp [upd_at, g2], by simp [upd_at, g3], by simp [upd_at], by simp [upd_at, hN]⟩ ?_
  clear hE hB1 hB2 hB3 hG g1 g2 g3 g4 hN hlt hj env H1
  rintro j env H1 hj ⟨hE, hB1, hB2, ⟨v2, hB3, hG1, hG2, hap⟩, g1, g2, g3, g6, hN⟩
  by_cases hlt : (j : Int) < (t.pieces.length : Int)
  · have hlt' : j < t.pieces.length := by omega
    simp only [go_sem, reduceIte, reduceCtorEq, Nat.reduceEqDiff, Nat.reduceBEq, Nat.reduceAdd, Nat.reduceMul, Nat.reduceLeDiff, g1, g2, g3, g6, hN, hlt, hB1, hB3, take_f', List.getElem?_cons_zero, List.getElem?_cons_succ, map_get (f := eP) hlt', eP]
    refine pgo_call (copyT_c t.pieces[j].marks (h3 _ (List.getElem_mem hlt'))) ?_
    simp only [go_sem, reduceIte, reduceCtorEq, Nat.reduceEqDiff, Nat.reduceBEq, Nat.reduceAdd, Nat.reduceMul, Nat.reduceLeDiff, g1, g2, g3, g6, hN, hB1, hB3, take_f', List.getElem?_cons_zero, List.getElem?_cons_succ, map_get (f := eP) hlt', eP, bcP, Option.map_some, d_bsa]
    refine v_append_in hG2 hE rfl (eP_good _) (eP_good [t.pieces[j]]) (eP_cell [t.pieces[j]]) (by simp; omega) (by simp; omega) ?_
    intro v' H2 hg' he' hk' hoth
    obtain ⟨hG1', hap'⟩ := hoth 3 v1 _ hG1 hap
    have K1 := hk' b1 _ hB1 (by intros; simp)
    have K2 := hk' b2 _ hB2 (by intros; simp)
    have K3 := hk' b3 _ hB3 (by intros; simp)
    simp only [go_sem, reduceIte, reduceCtorEq, Nat.reduceEqDiff, Nat.reduceBEq, Nat.reduceAdd, Nat.reduceMul, Nat.reduceLeDiff, g1, g2, g3, g6, hN]
    rw [v_store]
    refine ⟨hg'.cellv.1, by rw [hg'.cellv.2.1]; rfl, by rw [hg'.cellv.2.1]; intro y hy; simp at hy; subst hy; exact hg'.cellv.2.2, _, K3, by simp, ?_⟩
    rw [hg'.cellv.2.1, show placeAt [v1, v2, i6 t.wrong] (0 + 1) [v'] = [v1, v', i6 t.wrong] from rfl]
    simp only [go_sem, reduceIte, reduceCtorEq, Nat.reduceEqDiff, Nat.reduceBEq, Nat.reduceAdd, Nat.reduceMul, Nat.reduceLeDiff, g1, g2, g3, g6, hN, wsucc (show j < 4611686018427387904 by omega), hlt', updH_ne _ _ n13, updH_ne _ _ n23, K1, K2]
    refine ⟨he'.upd z3 _, v', rfl, hG1'.store K3 _, ?_, hap'⟩
    rw [take_snoc hlt', List.map_append]; exact hg'.store K3 _
  · have hj' : j = t.pieces.length := by omega
    subst hj'
    rw [List.take_length] at hG2
    simp only [go_sem, reduceIte, reduceCtorEq, Nat.reduceEqDiff, Nat.reduceBEq, Nat.reduceAdd, Nat.reduceMul, Nat.reduceLeDiff, g1, g2, g3, g6, hN, hlt, hB1, hB3, take_f', List.getElem?_cons_zero, List.getElem?_cons_succ]
    rw [v_store]
    refine ⟨rfl, rfl, by
      intro y hy
      simp only [AV.cells, List.mem_cons, List.not_mem_nil, or_false] at hy
      rcases hy with rfl | rfl | rfl
      · exact hG1.cellv.2.2
      · exact hG2.cellv.2.2
      · rfl, _, hB2, by simp, ?_⟩
    rw [c_agg, show placeAt [.emp, .emp, .int .i64 0] 0 [v1, v2, i6 t.wrong] = [v1, v2, i6 t.wrong] from rfl]
    simp only [go_sem, reduceIte, reduceCtorEq, Nat.reduceEqDiff, Nat.reduceBEq, Nat.reduceAdd, Nat.reduceMul, Nat.reduceLeDiff, g1, g2, g3, g6, hN]
    have eF := hE.upd z2 (.box [v1, v2, i6 t.wrong])
    have gF1 := hG1.store hB2 (.box [v1, v2, i6 t.wrong])
    have gF2 := hG2.store hB2 (.box [v1, v2, i6 t.wrong])
    refine fin_cell1 2 3 b2 40 _ (by simp [upd_at, hN]) agg40 sz40 (by simp [upd_at, g2]) (updH_same _ _ _) rfl ⟨eT t, H, settle_agg eF rfl fun i x y hx hy w v hH hr => ?_, rfl, rfl⟩
    match i, hx, hy with
    | 0, hx, hy => cases hx; cases hy; exact (gF1.weaken eF).2 w v hH hr
    | 1, hx, hy => cases hx; cases hy; exact (gF2.weaken eF).2 w v hH hr
    | 2, hx, hy => cases hx; cases hy; exact hr.mono (Evolve.drop eF)
end Go.Lift
set_option linter.unusedSimpArgs false
set_option linter.unusedVariables false
namespace Go.Lift
open Go Go.Proofs
/-- Sizes for which nothing overflows. -/
structure HSm (h : House) : Prop where
  women : h.table.women.length ≤ 1073741824
  pieces : h.table.pieces.length ≤ 1073741824
  marks : ∀ p ∈ h.table.pieces, p.marks.length ≤ 1073741824
  sick : h.sick.length ≤ 1073741824
  touches : h.touches.length ≤ 1073741824
  boiled : h.boiled.length ≤ 1073741824
  signs : h.signs.length ≤ 1073741824
theorem HSm.tsm {h : House} (s : HSm h) : TSm h.table := ⟨by have := s.women; unfold Sm; omega, by have := s.pieces; unfold Sm; omega, fun p hp => by have := s.marks p hp; unfold Sm; omega⟩
theorem HSm.sk {h : House} (s : HSm h) : Sm h.sick.length := by have := s.sick; unfold Sm; omega
theorem house_c (h : House) (hs : HSm h) : Pure Tryz.prog 22 [eH h] (eH h) := by
  intro H
  have q1 := hs.touches
  have q2 := hs.boiled
  have q3 := hs.signs
  refine fn_of hmix fc22 (by simp) ?_
  rw [ienv1]
  simp only [go_sem, reduceIte, reduceCtorEq, Nat.reduceEqDiff, Nat.reduceBEq, Nat.reduceAdd, Nat.reduceMul, Nat.reduceLeDiff, ac22, eH]
  refine v_box _ rfl fun b1 hb1 => ?_
  simp only [go_sem, reduceIte, reduceCtorEq, Nat.reduceEqDiff, Nat.reduceBEq, Nat.reduceAdd, Nat.reduceMul, Nat.reduceLeDiff]
  refine v_alloc fun b2 hb2 => ?_
  have n12 : b1 ≠ b2 := fun h => by subst h; simp at hb2
  have e1 := (Ext.refl H).new hb1 (.box [.slice (h.table.women.map eW), .slice (h.table.pieces.map eP), i6 h.table.wrong, .slice (eI h.sick), i6 h.others, i6 h.last, .slice (h.touches.map eTo), .slice (h.boiled.map eB), .slice (h.signs.map eS)])
  have z2 : H b2 = none := e1.isNone hb2
  have e2 := e1.new hb2 (.box [.emp, .emp, .int .i64 0, .emp, .int .i64 0, .int .i64 0, .emp, .emp, .emp])
  simp only [go_sem, reduceIte, reduceCtorEq, Nat.reduceEqDiff, Nat.reduceBEq, Nat.reduceAdd, Nat.reduceMul, Nat.reduceLeDiff, updH_ne _ _ n12, take_f', List.getElem?_cons_zero]
  refine pgo_call (table_c h.table (by have := hs.women; omega) (by have := hs.pieces; omega) (fun p hp => by have := hs.marks p hp; omega)) ?_
  simp only [go_sem, reduceIte, reduceCtorEq, Nat.reduceEqDiff, Nat.reduceBEq, Nat.reduceAdd, Nat.reduceMul, Nat.reduceLeDiff, updH_ne _ _ n12, take_f', List.getElem?_cons_zero]
  refine pgo_call (copyL_c h.sick (by have := hs.sick; omega)) ?_
  simp only [go_sem, reduceIte, reduceCtorEq, Nat.reduceEqDiff, Nat.reduceBEq, Nat.reduceAdd, Nat.reduceMul, Nat.reduceLeDiff, updH_ne _ _ n12, take_f', List.getElem?_cons_zero, eT, bcH, Option.map_some]
  refine v_alloc fun b3 hb3 => ?_
  have n13 : b1 ≠ b3 := fun h => by subst h; simp [updH, n12] at hb3
  have n23 : b2 ≠ b3 := fun h => by subst h; simp at hb3
  have z3 : H b3 = none := e2.isNone hb3
  simp only [go_sem, reduceIte, reduceCtorEq, Nat.reduceEqDiff, Nat.reduceBEq, Nat.reduceAdd, Nat.reduceMul, Nat.reduceLeDiff, updH_ne _ _ n12, updH_ne _ _ n13, take_f', List.getElem?_cons_zero]
  rw [v_store]
  refine ⟨rfl, rfl, by simp [AV.cells, AV.isCell], _, updH_same _ _ _, by simp, ?_⟩
  rw [c_agg, show placeAt [.emp, .emp, .int .i64 0, .emp, .int .i64 0, .int .i64 0, .emp, .emp, .emp] 0 [.slice (h.table.women.map eW), .slice (h.table.pieces.map eP), i6 h.table.wrong, .slice (eI h.sick), i6 h.others, i6 h.last, .emp, .emp, .emp] = [.slice (h.table.women.map eW), .slice (h.table.pieces.map eP), i6 h.table.wrong, .slice (eI h.sick), i6 h.others, i6 h.last, .emp, .emp, .emp] from rfl]
  simp only [go_sem, reduceIte, reduceCtorEq, Nat.reduceEqDiff, Nat.reduceBEq, Nat.reduceAdd, Nat.reduceMul, Nat.reduceLeDiff]
  -- the touches
  refine x_for h.touches.length (fun j env H1 => Ext H H1 ∧ H1 b1 = some (.box [.slice (h.table.women.map eW), .slice (h.table.pieces.map eP), i6 h.table.wrong, .slice (eI h.sick), i6 h.others, i6 h.last, .slice (h.touches.map eTo), .slice (h.boiled.map eB), .slice (h.signs.map eS)]) ∧ H1 b2 = some (.box [.emp, .emp, .int .i64 0, .emp, .int .i64 0, .int .i64 0, .emp, .emp, .emp]) ∧ (∃ v1, H1 b3 = some (.box [.slice (h.table.women.map eW), .slice (h.table.pieces.map eP), i6 h.table.wrong, .slice (eI h.sick), i6 h.others, i6 h.last, v1, .emp, .emp]) ∧ Grown 4 H H1 v1 ((h.touches.take j).map eTo)) ∧ env 1 = .ptr b1 0 ∧ env 2 = .ptr b2 0 ∧ env 3 = .ptr b3 0 ∧ env 4 = i6 j ∧ env 99 = .any)
    ⟨(e2.new hb3 _).upd z3 _, by rw [updH_ne _ _ n13, updH_ne _ _ n13, updH_ne _ _ n12]; exact updH_same _ _ _, by rw [updH_ne _ _ n23, updH_ne _ _ n23]; exact updH_same _ _ _, ⟨.emp, updH_same _ _ _, .inl ⟨rfl, rfl⟩⟩, by simp [upd_at], by simp [upd_at], by simp [upd_at], by simp [upd_at], by simp [upd_at]⟩ ?_
  rintro j env H1 hj ⟨hE, hB1, hB2, ⟨v1, hB3, hG⟩, g1, g2, g3, g4, hN⟩
  by_cases hlt : (j : Int) < (h.touches.length : Int)
  · have hlt' : j < h.touches.length := by omega
    simp only [go_sem, reduceIte, reduceCtorEq, Nat.reduceEqDiff, Nat.reduceBEq, Nat.reduceAdd, Nat.reduceMul, Nat.reduceLeDiff, g1, g2, g3, g4, hN, hlt, hB1, take_f', List.getElem?_cons_zero, map_get (f := eTo) hlt', eTo]
    refine v_alloc fun b5 hb5 => ?_
    have n15 : b1 ≠ b5 := fun h => by subst h; rw [hB1] at hb5; cases hb5
    have n25 : b2 ≠ b5 := fun h => by subst h; rw [hB2] at hb5; cases hb5
    have n35 : b3 ≠ b5 := fun h => by subst h; rw [hB3] at hb5; cases hb5
    simp only [go_sem, reduceIte, reduceCtorEq, Nat.reduceEqDiff, Nat.reduceBEq, Nat.reduceAdd, Nat.reduceMul, Nat.reduceLeDiff, g1, g2, g3, g4, hN]
    rw [v_store]
    refine ⟨rfl, rfl, by simp [AV.cells, AV.isCell], _, updH_same _ _ _, by simp, ?_⟩
    rw [c_agg, show placeAt [.int .i64 0, .int .i64 0, .int .i64 0, .int .i64 0] 0 [i6 h.touches[j].a, i6 h.touches[j].b, i6 h.touches[j].lo, i6 h.touches[j].hi] = [i6 h.touches[j].a, i6 h.touches[j].b, i6 h.touches[j].lo, i6 h.touches[j].hi] from rfl]
    have hE5 : ∀ o1 o2, Ext H (updH (updH H1 b5 o1) b5 o2) := fun o1 o2 => (hE.new hb5 _).upd (hE.isNone hb5) _
    have hG5 : ∀ cs o2, Grown 4 H (updH (updH H1 b5 (.box cs)) b5 o2) v1 ((h.touches.take j).map eTo) := fun cs o2 => (hG.new hb5 (.box cs)).store (updH_same _ _ _) o2
    simp only [go_sem, reduceIte, reduceCtorEq, Nat.reduceEqDiff, Nat.reduceBEq, Nat.reduceAdd, Nat.reduceMul, Nat.reduceLeDiff, g1, g2, g3, g4, hN, updH_ne _ _ n35, hB3, take_f', List.getElem?_cons_zero, List.getElem?_cons_succ, bc2, bcTo, Option.map_some, d_bsa]
    refine v_append (hG5 _ _) (hE5 _ _) rfl (eTo_good _) (eTo_good [h.touches[j]]) (eTo_cell [h.touches[j]]) (by simp; omega) (by simp; omega) ?_
    intro v' H2 hg' he' hk'
    have K1 : H2 b1 = some (.box [.slice (h.table.women.map eW), .slice (h.table.pieces.map eP), i6 h.table.wrong, .slice (eI h.sick), i6 h.others, i6 h.last, .slice (h.touches.map eTo), .slice (h.boiled.map eB), .slice (h.signs.map eS)]) := hk'.box (hG5 _ _) (by rw [updH_ne _ _ n15, updH_ne _ _ n15]; exact hB1)
    have K2 : H2 b2 = some (.box [.emp, .emp, .int .i64 0, .emp, .int .i64 0, .int .i64 0, .emp, .emp, .emp]) := hk'.box (hG5 _ _) (by rw [updH_ne _ _ n25, updH_ne _ _ n25]; exact hB2)
    have K3 : H2 b3 = some (.box [.slice (h.table.women.map eW), .slice (h.table.pieces.map eP), i6 h.table.wrong, .slice (eI h.sick), i6 h.others, i6 h.last, v1, .emp, .emp]) := hk'.box (hG5 _ _) (by rw [updH_ne _ _ n35, updH_ne _ _ n35]; exact hB3)
    simp only [go_sem, reduceIte, reduceCtorEq, Nat.reduceEqDiff, Nat.reduceBEq, Nat.reduceAdd, Nat.reduceMul, Nat.reduceLeDiff, g1, g2, g3, g4, hN]
    rw [v_store]
    refine ⟨hg'.cellv.1, by rw [hg'.cellv.2.1]; rfl, by rw [hg'.cellv.2.1]; intro y hy; simp at hy; subst hy; exact hg'.cellv.2.2, _, K3, by simp, ?_⟩
    rw [hg'.cellv.2.1, show placeAt [.slice (h.table.women.map eW), .slice (h.table.pieces.map eP), i6 h.table.wrong, .slice (eI h.sick), i6 h.others, i6 h.last, v1, .emp, .emp] (0 + 6) [v'] = [.slice (h.table.women.map eW), .slice (h.table.pieces.map eP), i6 h.table.wrong, .slice (eI h.sick), i6 h.others, i6 h.last, v', .emp, .emp] from rfl]
    simp only [go_sem, reduceIte, reduceCtorEq, Nat.reduceEqDiff, Nat.reduceBEq, Nat.reduceAdd, Nat.reduceMul, Nat.reduceLeDiff, g1, g2, g3, g4, hN, wsucc (show j < 4611686018427387904 by omega), hlt', updH_ne _ _ n13, updH_ne _ _ n23, K1, K2]
    refine ⟨he'.upd z3 _, v', rfl, ?_⟩
    rw [take_snoc hlt', List.map_append]; exact hg'.store K3 _
  have hj' : j = h.touches.length := by omega
  subst hj'
  rw [List.take_length] at hG
  simp only [go_sem, reduceIte, reduceCtorEq, Nat.reduceEqDiff, Nat.reduceBEq, Nat.reduceAdd, Nat.reduceMul, Nat.reduceLeDiff, g1, g2, g3, g4, hN, hlt, hB1, take_f', List.getElem?_cons_zero]
  -- the boilings
  refine x_for h.boiled.length (fun j env H1 => Ext H H1 ∧ H1 b1 = some (.box [.slice (h.table.women.map eW), .slice (h.table.pieces.map eP), i6 h.table.wrong, .slice (eI h.sick), i6 h.others, i6 h.last, .slice (h.touches.map eTo), .slice (h.boiled.map eB), .slice (h.signs.map eS)]) ∧ H1 b2 = some (.box [.emp, .emp, .int .i64 0, .emp, .int .i64 0, .int .i64 0, .emp, .emp, .emp]) ∧ (∃ v2, H1 b3 = some (.box [.slice (h.table.women.map eW), .slice (h.table.pieces.map eP), i6 h.table.wrong, .slice (eI h.sick), i6 h.others, i6 h.last, v1, v2, .emp]) ∧ Grown 4 H H1 v1 (h.touches.map eTo) ∧ Grown 2 H H1 v2 ((h.boiled.take j).map eB) ∧ Apart v2 v1) ∧ env 1 = .ptr b1 0 ∧ env 2 = .ptr b2 0 ∧ env 3 = .ptr b3 0 ∧ env 6 = i6 j ∧ env 99 = .any)
    ⟨hE, hB1, hB2, ⟨.emp, hB3, hG, .inl ⟨rfl, rfl⟩, fun b c e c' e' h => by cases h⟩, by simp [upd_at, g1], by simp [upd_at, g2], by simp [upd_at, g3], by simp [upd_at], by simp [upd_at, hN]⟩ ?_
  clear hE hB1 hB2 hB3 hG g1 g2 g3 g4 hN hlt hj env H1
  rintro j env H1 hj ⟨hE, hB1, hB2, ⟨v2, hB3, hG1, hG2, hap⟩, g1, g2, g3, g6, hN⟩
  by_cases hlt : (j : Int) < (h.boiled.length : Int)
  · have hlt' : j < h.boiled.length := by omega
    simp only [go_sem, reduceIte, reduceCtorEq, Nat.reduceEqDiff, Nat.reduceBEq, Nat.reduceAdd, Nat.reduceMul, Nat.reduceLeDiff, g1, g2, g3, g6, hN, hlt, hB1, hB3, take_f', List.getElem?_cons_zero, List.getElem?_cons_succ, map_get (f := eB) hlt', eB, bc2, Option.map_some, d_bsa]
    refine v_append_in hG2 hE rfl (eB_good _) (eB_good [h.boiled[j]]) (eB_cell [h.boiled[j]]) (by simp; omega) (by simp; omega) ?_
    intro v' H2 hg' he' hk' hoth
    obtain ⟨hG1', hap'⟩ := hoth 4 v1 _ hG1 hap
    have K1 := hk' b1 _ hB1 (by intros; simp)
    have K2 := hk' b2 _ hB2 (by intros; simp)
    have K3 := hk' b3 _ hB3 (by intros; simp)
    simp only [go_sem, reduceIte, reduceCtorEq, Nat.reduceEqDiff, Nat.reduceBEq, Nat.reduceAdd, Nat.reduceMul, Nat.reduceLeDiff, g1, g2, g3, g6, hN]
    rw [v_store]
    refine ⟨hg'.cellv.1, by rw [hg'.cellv.2.1]; rfl, by rw [hg'.cellv.2.1]; intro y hy; simp at hy; subst hy; exact hg'.cellv.2.2, _, K3, by simp, ?_⟩
    rw [hg'.cellv.2.1, show placeAt [.slice (h.table.women.map eW), .slice (h.table.pieces.map eP), i6 h.table.wrong, .slice (eI h.sick), i6 h.others, i6 h.last, v1, v2, .emp] (0 + 7) [v'] = [.slice (h.table.women.map eW), .slice (h.table.pieces.map eP), i6 h.table.wrong, .slice (eI h.sick), i6 h.others, i6 h.last, v1, v', .emp] from rfl]
    simp only [go_sem, reduceIte, reduceCtorEq, Nat.reduceEqDiff, Nat.reduceBEq, Nat.reduceAdd, Nat.reduceMul, Nat.reduceLeDiff, g1, g2, g3, g6, hN, wsucc (show j < 4611686018427387904 by omega), hlt', updH_ne _ _ n13, updH_ne _ _ n23, K1, K2]
    refine ⟨he'.upd z3 _, v', rfl, hG1'.store K3 _, ?_, hap'⟩
    rw [take_snoc hlt', List.map_append]; exact hg'.store K3 _
  have hj' : j = h.boiled.length := by omega
  subst hj'
  rw [List.take_length] at hG2
  simp only [go_sem, reduceIte, reduceCtorEq, Nat.reduceEqDiff, Nat.reduceBEq, Nat.reduceAdd, Nat.reduceMul, Nat.reduceLeDiff, g1, g2, g3, g6, hN, hlt, hB1, take_f', List.getElem?_cons_zero]
  -- the signs
  refine x_for h.signs.length (fun j env H1 => Ext H H1 ∧ H1 b1 = some (.box [.slice (h.table.women.map eW), .slice (h.table.pieces.map eP), i6 h.table.wrong, .slice (eI h.sick), i6 h.others, i6 h.last, .slice (h.touches.map eTo), .slice (h.boiled.map eB), .slice (h.signs.map eS)]) ∧ H1 b2 = some (.box [.emp, .emp, .int .i64 0, .emp, .int .i64 0, .int .i64 0, .emp, .emp, .emp]) ∧ (∃ v3, H1 b3 = some (.box [.slice (h.table.women.map eW), .slice (h.table.pieces.map eP), i6 h.table.wrong, .slice (eI h.sick), i6 h.others, i6 h.last, v1, v2, v3]) ∧ Grown 4 H H1 v1 (h.touches.map eTo) ∧ Grown 2 H H1 v2 (h.boiled.map eB) ∧ Grown 2 H H1 v3 ((h.signs.take j).map eS) ∧ Apart v3 v1 ∧ Apart v3 v2) ∧ env 1 = .ptr b1 0 ∧ env 2 = .ptr b2 0 ∧ env 3 = .ptr b3 0 ∧ env 7 = i6 j ∧ env 99 = .any)
    ⟨hE, hB1, hB2, ⟨.emp, hB3, hG1, hG2, .inl ⟨rfl, rfl⟩, (fun b c e c' e' h => by cases h), fun b c e c' e' h => by cases h⟩, by simp [upd_at, g1], by simp [upd_at, g2], by simp [upd_at, g3], by simp [upd_at], by simp [upd_at, hN]⟩ ?_
  clear hE hB1 hB2 hB3 hG1 hG2 hap g1 g2 g3 g6 hN hlt hj env H1
  rintro j env H1 hj ⟨hE, hB1, hB2, ⟨v3, hB3, hG1, hG2, hG3, hap1, hap2⟩, g1, g2, g3, g7, hN⟩
  by_cases hlt : (j : Int) < (h.signs.length : Int)
  · have hlt' : j < h.signs.length := by omega
    simp only [go_sem, reduceIte, reduceCtorEq, Nat.reduceEqDiff, Nat.reduceBEq, Nat.reduceAdd, Nat.reduceMul, Nat.reduceLeDiff, g1, g2, g3, g7, hN, hlt, hB1, hB3, take_f', List.getElem?_cons_zero, List.getElem?_cons_succ, map_get (f := eS) hlt', eS, bcS, Option.map_some, d_bsa]
    refine v_append_in hG3 hE rfl (eS_good _) (eS_good [h.signs[j]]) (eS_cell [h.signs[j]]) (by simp; omega) (by simp; omega) ?_
    intro v' H2 hg' he' hk' hoth
    obtain ⟨hG1', hap1'⟩ := hoth 4 v1 _ hG1 hap1
    obtain ⟨hG2', hap2'⟩ := hoth 2 v2 _ hG2 hap2
    have K1 := hk' b1 _ hB1 (by intros; simp)
    have K2 := hk' b2 _ hB2 (by intros; simp)
    have K3 := hk' b3 _ hB3 (by intros; simp)
    simp only [go_sem, reduceIte, reduceCtorEq, Nat.reduceEqDiff, Nat.reduceBEq, Nat.reduceAdd, Nat.reduceMul, Nat.reduceLeDiff, g1, g2, g3, g7, hN]
    rw [v_store]
    refine ⟨hg'.cellv.1, by rw [hg'.cellv.2.1]; rfl, by rw [hg'.cellv.2.1]; intro y hy; simp at hy; subst hy; exact hg'.cellv.2.2, _, K3, by simp, ?_⟩
    rw [hg'.cellv.2.1, show placeAt [.slice (h.table.women.map eW), .slice (h.table.pieces.map eP), i6 h.table.wrong, .slice (eI h.sick), i6 h.others, i6 h.last, v1, v2, v3] (0 + 8) [v'] = [.slice (h.table.women.map eW), .slice (h.table.pieces.map eP), i6 h.table.wrong, .slice (eI h.sick), i6 h.others, i6 h.last, v1, v2, v'] from rfl]
    simp only [go_sem, reduceIte, reduceCtorEq, Nat.reduceEqDiff, Nat.reduceBEq, Nat.reduceAdd, Nat.reduceMul, Nat.reduceLeDiff, g1, g2, g3, g7, hN, wsucc (show j < 4611686018427387904 by omega), hlt', updH_ne _ _ n13, updH_ne _ _ n23, K1, K2]
    refine ⟨he'.upd z3 _, v', rfl, hG1'.store K3 _, hG2'.store K3 _, ?_, hap1', hap2'⟩
    rw [take_snoc hlt', List.map_append]; exact hg'.store K3 _
  have hj' : j = h.signs.length := by omega
  subst hj'
  rw [List.take_length] at hG3
  simp only [go_sem, reduceIte, reduceCtorEq, Nat.reduceEqDiff, Nat.reduceBEq, Nat.reduceAdd, Nat.reduceMul, Nat.reduceLeDiff, g1, g2, g3, g7, hN, hlt, hB1, hB3, take_f', List.getElem?_cons_zero]
  rw [v_store]
  refine ⟨rfl, rfl, by
    intro y hy
    simp only [AV.cells, List.mem_cons, List.not_mem_nil, or_false] at hy
    rcases hy with rfl | rfl | rfl | rfl | rfl | rfl | rfl | rfl | rfl
    · rfl
    · rfl
    · rfl
    · rfl
    · rfl
    · rfl
    · exact hG1.cellv.2.2
    · exact hG2.cellv.2.2
    · exact hG3.cellv.2.2, _, hB2, by simp, ?_⟩
  rw [c_agg, show placeAt [.emp, .emp, .int .i64 0, .emp, .int .i64 0, .int .i64 0, .emp, .emp, .emp] 0 [.slice (h.table.women.map eW), .slice (h.table.pieces.map eP), i6 h.table.wrong, .slice (eI h.sick), i6 h.others, i6 h.last, v1, v2, v3] = [.slice (h.table.women.map eW), .slice (h.table.pieces.map eP), i6 h.table.wrong, .slice (eI h.sick), i6 h.others, i6 h.last, v1, v2, v3] from rfl]
  simp only [go_sem, reduceIte, reduceCtorEq, Nat.reduceEqDiff, Nat.reduceBEq, Nat.reduceAdd, Nat.reduceMul, Nat.reduceLeDiff, g1, g2, g3, g7, hN]
  have eF := hE.upd z2 (.box [.slice (h.table.women.map eW), .slice (h.table.pieces.map eP), i6 h.table.wrong, .slice (eI h.sick), i6 h.others, i6 h.last, v1, v2, v3])
  have gF1 := hG1.store hB2 (.box [.slice (h.table.women.map eW), .slice (h.table.pieces.map eP), i6 h.table.wrong, .slice (eI h.sick), i6 h.others, i6 h.last, v1, v2, v3])
  have gF2 := hG2.store hB2 (.box [.slice (h.table.women.map eW), .slice (h.table.pieces.map eP), i6 h.table.wrong, .slice (eI h.sick), i6 h.others, i6 h.last, v1, v2, v3])
  have gF3 := hG3.store hB2 (.box [.slice (h.table.women.map eW), .slice (h.table.pieces.map eP), i6 h.table.wrong, .slice (eI h.sick), i6 h.others, i6 h.last, v1, v2, v3])
  refine fin_cell1 2 9 b2 45 _ (by simp [upd_at, hN]) agg45 sz45 (by simp [upd_at, g2]) (updH_same _ _ _) rfl ⟨eH h, H, settle_agg eF rfl fun i x y hx hy w v hH hr => ?_, rfl, rfl⟩
  match i, hx, hy with
  | 0, hx, hy => cases hx; cases hy; exact hr.mono (Evolve.drop eF)
  | 1, hx, hy => cases hx; cases hy; exact hr.mono (Evolve.drop eF)
  | 2, hx, hy => cases hx; cases hy; exact hr.mono (Evolve.drop eF)
  | 3, hx, hy => cases hx; cases hy; exact hr.mono (Evolve.drop eF)
  | 4, hx, hy => cases hx; cases hy; exact hr.mono (Evolve.drop eF)
  | 5, hx, hy => cases hx; cases hy; exact hr.mono (Evolve.drop eF)
  | 6, hx, hy => cases hx; cases hy; exact (gF1.weaken eF).2 w v hH hr
  | 7, hx, hy => cases hx; cases hy; exact (gF2.weaken eF).2 w v hH hr
  | 8, hx, hy => cases hx; cases hy; exact (gF3.weaken eF).2 w v hH hr
end Go.Lift
set_option linter.unusedSimpArgs false
set_option linter.unusedVariables false
namespace Go.Lift
open Go Go.Proofs
def tubT : Table := ⟨[⟨1, 2, 2⟩, ⟨1, 1, 2⟩, ⟨2, 1, 1⟩], [⟨[1], 0⟩, ⟨[1, 2], 0⟩, ⟨[1], 1⟩, ⟨[2], 1⟩], 0⟩
def tubH (k : Nat) : House := ⟨tubT, [2], 1, 2, [⟨3, 4, 0, 1⟩, ⟨4, 0, 0, 1⟩, ⟨0, 1, 2, 2⟩], [], ([⟨0, false⟩, ⟨1, true⟩] : List Sign).take k⟩
def tubC (a b : Int) : Course := ⟨[0, 0, 1, 2], [a, b, 2]⟩
theorem tub_check0 : checkHouse (tubH 0) = 0 := by decide +kernel
theorem tub_check1 : checkHouse (tubH 1) = 0 := by decide +kernel
theorem tub_check2 : checkHouse (tubH 2) = 0 := by decide +kernel
theorem tub_play : playE (tubH 0) (tubC 1 0) = 0 ∧ truesUpto (lastOf (tubH 0) (tubC 1 0) []) 10 = [3, 4] := by decide +kernel
theorem tub_ask0 : askErrH (tubH 0) true = 0 := by decide +kernel
theorem tub_carry : carryOf (tubH 0) = [3, 3, 2, 1, 1] := by decide +kernel
theorem tub_whose : whoseS (tubH 0) = [0, 1] := by decide +kernel
theorem tub_hour : hourOK (tubH 0) 1 = true := by decide +kernel
theorem tub_boil : boilOf' (tubH 0) 1 = [0, 3, 4] := by decide +kernel
theorem tub_order : orderE (tubH 0) 1 = 0 ∧ orderOf (tubH 0) 1 = [0, 0] := by decide +kernel
theorem tub_ask1 : askErrH (tubH 1) true = 0 := by decide +kernel
theorem tub_boil1 : boilOf' (tubH 1) 1 = [] := by decide +kernel
theorem tub_first : (List.range (tubH 2).signs.length).find? (badAt (tubH 2)) = some 1 := by decide +kernel
theorem tub_leave : leaveOf (tubH 2) = [0] := by decide +kernel
end Go.Lift
set_option linter.unusedSimpArgs false
set_option linter.unusedVariables false
namespace Go.Lift
open Go Go.Proofs
def thinT (t : Table) : Bool := decide (t.women.length ≤ 30) && decide (t.pieces.length ≤ 30) && t.pieces.all fun p => decide (p.marks.length ≤ 30)
theorem thinT_c (t : Table) : Pure Tryz.prog 113 [eT t] (.bool (thinT t)) := by
  intro H
  refine fn_of hmix fc113 (by simp) ?_
  rw [ienv1]
  simp only [go_sem, reduceIte, reduceCtorEq, Nat.reduceEqDiff, Nat.reduceBEq, Nat.reduceAdd, Nat.reduceMul, Nat.reduceLeDiff, ac113, eT]
  refine v_box _ rfl fun b1 hb1 => ?_
  have e1 := (Ext.refl H).new hb1 (.box [.slice (t.women.map eW), .slice (t.pieces.map eP), i6 t.wrong])
  by_cases c1 : 30 < (t.women.length : Int)
  · simp only [go_sem, reduceIte, reduceCtorEq, Nat.reduceEqDiff, Nat.reduceBEq, Nat.reduceAdd, Nat.reduceMul, Nat.reduceLeDiff, c1]
    refine fin_ret 2 (by simp [upd_at]) ⟨_, H, Settle.refl e1, ?_, rfl⟩
    simp [upd_at, thinT, show ¬ t.women.length ≤ 30 by omega]
  by_cases c2 : 30 < (t.pieces.length : Int)
  · simp only [go_sem, reduceIte, reduceCtorEq, Nat.reduceEqDiff, Nat.reduceBEq, Nat.reduceAdd, Nat.reduceMul, Nat.reduceLeDiff, c1, c2]
    refine fin_ret 2 (by simp [upd_at]) ⟨_, H, Settle.refl e1, ?_, rfl⟩
    simp [upd_at, thinT, show ¬ t.pieces.length ≤ 30 by omega]
  simp only [go_sem, reduceIte, reduceCtorEq, Nat.reduceEqDiff, Nat.reduceBEq, Nat.reduceAdd, Nat.reduceMul, Nat.reduceLeDiff, c1, c2]
  refine x_for t.pieces.length (fun j env H1 => Ext H H1 ∧ H1 b1 = some (.box [.slice (t.women.map eW), .slice (t.pieces.map eP), i6 t.wrong]) ∧ env 1 = .ptr b1 0 ∧ env 3 = i6 j ∧ env 29 = .any ∧ (t.pieces.take j).all (fun p => decide (p.marks.length ≤ 30)) = true)
    ⟨e1, updH_same _ _ _, by simp [upd_at], by simp [upd_at], by simp [upd_at], by simp⟩ ?_
  rintro j env H1 hj ⟨hE, hB, g1, g3, hN, hq⟩
  by_cases hlt : (j : Int) < (t.pieces.length : Int)
  · have hlt' : j < t.pieces.length := by omega
    by_cases c3 : 30 < (t.pieces[j].marks.length : Int)
    · simp only [go_sem, reduceIte, reduceCtorEq, Nat.reduceEqDiff, Nat.reduceBEq, Nat.reduceAdd, Nat.reduceMul, Nat.reduceLeDiff, g1, g3, hN, hlt, hB, take_f', List.getElem?_cons_zero, map_get (f := eP) hlt', eP, c3]
      refine fin_ret 2 (by simp [upd_at, hN]) ⟨_, H, Settle.refl hE, ?_, rfl⟩
      have : t.pieces.all (fun p => decide (p.marks.length ≤ 30)) = false := List.all_eq_false.2 ⟨_, List.getElem_mem hlt', by simp; omega⟩
      simp only [upd_at, if_true, thinT, this, Bool.and_false]
    · simp only [go_sem, reduceIte, reduceCtorEq, Nat.reduceEqDiff, Nat.reduceBEq, Nat.reduceAdd, Nat.reduceMul, Nat.reduceLeDiff, g1, g3, hN, hlt, hB, take_f', List.getElem?_cons_zero, map_get (f := eP) hlt', eP, c3, wsucc (show j < 4611686018427387904 by omega), hlt']
      refine ⟨hE, ?_⟩
      rw [take_snoc hlt', List.all_append, hq]; simp; omega
  · simp only [go_sem, reduceIte, reduceCtorEq, Nat.reduceEqDiff, Nat.reduceBEq, Nat.reduceAdd, Nat.reduceMul, Nat.reduceLeDiff, g1, g3, hN, hlt, hB, take_f', List.getElem?_cons_zero]
    have : j = t.pieces.length := by omega
    subst this
    rw [List.take_length] at hq
    refine fin_ret 2 (by simp [upd_at, hN]) ⟨_, H, Settle.refl hE, ?_, rfl⟩
    simp only [upd_at, if_true, thinT, hq, Bool.and_true, AV.bool.injEq]
    rw [decide_eq_true (show t.women.length ≤ 30 by omega), decide_eq_true (show t.pieces.length ≤ 30 by omega)]; rfl
def shortH (h : House) : Bool := thinT h.table && decide (h.sick.length ≤ 30) && decide (h.touches.length ≤ 30) && decide (h.boiled.length ≤ 30) && decide (h.signs.length ≤ 30)
theorem dle (n : Nat) : decide ((n : Int) ≤ 30) = decide (n ≤ 30) := by
  rw [decide_eq_decide]; omega
theorem short_c (h : House) : Pure Tryz.prog 64 [eH h] (.bool (shortH h)) := by
  intro H
  refine fn_of hmix fc64 (by simp) ?_
  rw [ienv1]
  simp only [go_sem, reduceIte, reduceCtorEq, Nat.reduceEqDiff, Nat.reduceBEq, Nat.reduceAdd, Nat.reduceMul, Nat.reduceLeDiff, ac64, eH]
  refine v_box _ rfl fun b1 hb1 => ?_
  have e1 := (Ext.refl H).new hb1 (.box [.slice (h.table.women.map eW), .slice (h.table.pieces.map eP), i6 h.table.wrong, .slice (eI h.sick), i6 h.others, i6 h.last, .slice (h.touches.map eTo), .slice (h.boiled.map eB), .slice (h.signs.map eS)])
  simp only [go_sem, reduceIte, reduceCtorEq, Nat.reduceEqDiff, Nat.reduceBEq, Nat.reduceAdd, Nat.reduceMul, Nat.reduceLeDiff]
  refine (thinT_c h.table).go ?_
  cases c1 : thinT h.table
  · simp only [go_sem, reduceIte, reduceCtorEq, Nat.reduceEqDiff, Nat.reduceBEq, Nat.reduceAdd, Nat.reduceMul, Nat.reduceLeDiff]
    refine fin_ret 2 (by simp [upd_at]) ⟨_, H, Settle.refl e1, ?_, rfl⟩
    simp [upd_at, shortH, c1]
  simp only [go_sem, reduceIte, reduceCtorEq, Nat.reduceEqDiff, Nat.reduceBEq, Nat.reduceAdd, Nat.reduceMul, Nat.reduceLeDiff, dle]
  cases c2 : decide (h.sick.length ≤ 30)
  · simp only [go_sem, reduceIte, reduceCtorEq, Nat.reduceEqDiff, Nat.reduceBEq, Nat.reduceAdd, Nat.reduceMul, Nat.reduceLeDiff]
    refine fin_ret 2 (by simp [upd_at]) ⟨_, H, Settle.refl e1, ?_, rfl⟩
    simp only [upd_at, if_true, shortH, c1, c2, Bool.and_false, Bool.false_and]
  simp only [go_sem, reduceIte, reduceCtorEq, Nat.reduceEqDiff, Nat.reduceBEq, Nat.reduceAdd, Nat.reduceMul, Nat.reduceLeDiff, dle]
  cases c3 : decide (h.touches.length ≤ 30)
  · simp only [go_sem, reduceIte, reduceCtorEq, Nat.reduceEqDiff, Nat.reduceBEq, Nat.reduceAdd, Nat.reduceMul, Nat.reduceLeDiff]
    refine fin_ret 2 (by simp [upd_at]) ⟨_, H, Settle.refl e1, ?_, rfl⟩
    simp only [upd_at, if_true, shortH, c1, c3, Bool.and_false, Bool.false_and]
  simp only [go_sem, reduceIte, reduceCtorEq, Nat.reduceEqDiff, Nat.reduceBEq, Nat.reduceAdd, Nat.reduceMul, Nat.reduceLeDiff, dle]
  cases c4 : decide (h.boiled.length ≤ 30)
  · simp only [go_sem, reduceIte, reduceCtorEq, Nat.reduceEqDiff, Nat.reduceBEq, Nat.reduceAdd, Nat.reduceMul, Nat.reduceLeDiff]
    refine fin_ret 2 (by simp [upd_at]) ⟨_, H, Settle.refl e1, ?_, rfl⟩
    simp only [upd_at, if_true, shortH, c1, c4, Bool.and_false, Bool.false_and]
  simp only [go_sem, reduceIte, reduceCtorEq, Nat.reduceEqDiff, Nat.reduceBEq, Nat.reduceAdd, Nat.reduceMul, Nat.reduceLeDiff, dle]
  refine fin_ret 2 (by simp [upd_at]) ⟨_, H, Settle.refl e1, ?_, rfl⟩
  simp only [upd_at, if_true, shortH, c1, c2, c3, c4, Bool.true_and]
theorem short_sm {h : House} (hs : shortH h = true) : HSm h := by
  simp only [shortH, thinT, Bool.and_eq_true, decide_eq_true_eq, List.all_eq_true] at hs
  obtain ⟨⟨⟨⟨⟨⟨s1, s2⟩, s3⟩, s4⟩, s5⟩, s6⟩, s7⟩ := hs
  exact ⟨by omega, by omega, fun p hp => by have := s3 p hp; omega, by omega, by omega, by omega, by omega⟩
def thinH (h : House) : Bool := shortH h && (!decide (checkHouse h = 0) || decide (thingsW h ≤ 7))
theorem thinH_c (h : House) : Pure Tryz.prog 19 [eH h] (.bool (thinH h)) := by
  intro H
  refine fn_of hmix fc19 (by simp) ?_
  rw [ienv1]
  simp only [go_sem, reduceIte, reduceCtorEq, Nat.reduceEqDiff, Nat.reduceBEq, Nat.reduceAdd, Nat.reduceMul, Nat.reduceLeDiff, ac19, eH]
  refine v_box _ rfl fun b1 hb1 => ?_
  have e1 := (Ext.refl H).new hb1 (.box [.slice (h.table.women.map eW), .slice (h.table.pieces.map eP), i6 h.table.wrong, .slice (eI h.sick), i6 h.others, i6 h.last, .slice (h.touches.map eTo), .slice (h.boiled.map eB), .slice (h.signs.map eS)])
  simp only [go_sem, reduceIte, reduceCtorEq, Nat.reduceEqDiff, Nat.reduceBEq, Nat.reduceAdd, Nat.reduceMul, Nat.reduceLeDiff]
  refine (short_c h).go ?_
  cases c1 : shortH h
  · simp only [go_sem, reduceIte, reduceCtorEq, Nat.reduceEqDiff, Nat.reduceBEq, Nat.reduceAdd, Nat.reduceMul, Nat.reduceLeDiff]
    refine fin_ret 2 (by simp [upd_at]) ⟨_, H, Settle.refl e1, ?_, rfl⟩
    simp [upd_at, thinH, c1]
  have hs := short_sm c1
  simp only [go_sem, reduceIte, reduceCtorEq, Nat.reduceEqDiff, Nat.reduceBEq, Nat.reduceAdd, Nat.reduceMul, Nat.reduceLeDiff]
  refine (faultH_c h hs.tsm hs.sk).go ?_
  by_cases c2 : checkHouse h = 0
  rotate_left
  · simp only [go_sem, reduceIte, reduceCtorEq, Nat.reduceEqDiff, Nat.reduceBEq, Nat.reduceAdd, Nat.reduceMul, Nat.reduceLeDiff, c2]
    refine fin_ret 2 (by simp [upd_at]) ⟨_, H, Settle.refl e1, ?_, rfl⟩
    simp [upd_at, thinH, c1, c2]
  simp only [go_sem, reduceIte, reduceCtorEq, Nat.reduceEqDiff, Nat.reduceBEq, Nat.reduceAdd, Nat.reduceMul, Nat.reduceLeDiff, c2]
  refine (thingsR_c h).go ?_
  simp only [go_sem, reduceIte, reduceCtorEq, Nat.reduceEqDiff, Nat.reduceBEq, Nat.reduceAdd, Nat.reduceMul, Nat.reduceLeDiff]
  refine fin_ret 2 (by simp [upd_at]) ⟨_, H, Settle.refl e1, ?_, rfl⟩
  simp [upd_at, thinH, c1, c2]
theorem fault_c (h : House) (hs : HSm h) : Pure Tryz.prog 31 [eH h] (i6 (checkHouse h)) := by
  intro H
  refine fn_of hmix fc31 (by simp) ?_
  rw [ienv1]
  simp only [go_sem, reduceIte, reduceCtorEq, Nat.reduceEqDiff, Nat.reduceBEq, Nat.reduceAdd, Nat.reduceMul, Nat.reduceLeDiff, ac31, eH]
  refine v_box _ rfl fun b1 hb1 => ?_
  simp only [go_sem, reduceIte, reduceCtorEq, Nat.reduceEqDiff, Nat.reduceBEq, Nat.reduceAdd, Nat.reduceMul, Nat.reduceLeDiff]
  refine (faultH_c h hs.tsm hs.sk).go ?_
  simp only [go_sem, reduceIte, reduceCtorEq, Nat.reduceEqDiff, Nat.reduceBEq, Nat.reduceAdd, Nat.reduceMul, Nat.reduceLeDiff]
  refine fin_ret 2 (by simp [upd_at]) ⟨_, H, Settle.refl ((Ext.refl H).new hb1 _), ?_, rfl⟩
  simp [upd_at]
def readyH (h : House) : Bool := thinH h && decide (checkHouse h = 0)
theorem ready_c (h : House) : Pure Tryz.prog 35 [eH h] (.bool (readyH h)) := by
  intro H
  refine fn_of hmix fc35 (by simp) ?_
  rw [ienv1]
  simp only [go_sem, reduceIte, reduceCtorEq, Nat.reduceEqDiff, Nat.reduceBEq, Nat.reduceAdd, Nat.reduceMul, Nat.reduceLeDiff, ac35, eH]
  refine v_box _ rfl fun b1 hb1 => ?_
  have e1 := (Ext.refl H).new hb1 (.box [.slice (h.table.women.map eW), .slice (h.table.pieces.map eP), i6 h.table.wrong, .slice (eI h.sick), i6 h.others, i6 h.last, .slice (h.touches.map eTo), .slice (h.boiled.map eB), .slice (h.signs.map eS)])
  simp only [go_sem, reduceIte, reduceCtorEq, Nat.reduceEqDiff, Nat.reduceBEq, Nat.reduceAdd, Nat.reduceMul, Nat.reduceLeDiff]
  refine (thinH_c h).go ?_
  cases c1 : thinH h
  · simp only [go_sem, reduceIte, reduceCtorEq, Nat.reduceEqDiff, Nat.reduceBEq, Nat.reduceAdd, Nat.reduceMul, Nat.reduceLeDiff]
    refine fin_ret 2 (by simp [upd_at]) ⟨_, H, Settle.refl e1, ?_, rfl⟩
    simp [upd_at, readyH, c1]
  have hs : HSm h := by
    rw [thinH, Bool.and_eq_true] at c1; exact short_sm c1.1
  simp only [go_sem, reduceIte, reduceCtorEq, Nat.reduceEqDiff, Nat.reduceBEq, Nat.reduceAdd, Nat.reduceMul, Nat.reduceLeDiff]
  refine (fault_c h hs).go ?_
  simp only [go_sem, reduceIte, reduceCtorEq, Nat.reduceEqDiff, Nat.reduceBEq, Nat.reduceAdd, Nat.reduceMul, Nat.reduceLeDiff]
  refine fin_ret 2 (by simp [upd_at]) ⟨_, H, Settle.refl e1, ?_, rfl⟩
  simp [upd_at, readyH, c1]
end Go.Lift
set_option linter.unusedSimpArgs false
set_option linter.unusedVariables false
namespace Go.Lift
open Go Go.Proofs
theorem agg130 : isAggB Tryz.prog 130 = some true := by kernel_rfl
theorem sz130 : szB Tryz.prog 130 = some 2 := by kernel_rfl
theorem between_c (a b : Int) : Pure Tryz.prog 125 [i6 a, i6 b] (.agg [i6 a, i6 b]) := by
  intro H
  refine fn_of hmix fc125 (by simp) ?_
  rw [ienv2]
  simp only [go_sem, reduceIte, reduceCtorEq, Nat.reduceEqDiff, Nat.reduceBEq, Nat.reduceAdd, Nat.reduceMul, Nat.reduceLeDiff, ac125]
  refine v_alloc fun b4 hb4 => ?_
  simp only [go_sem, reduceIte, reduceCtorEq, Nat.reduceEqDiff, Nat.reduceBEq, Nat.reduceAdd, Nat.reduceMul, Nat.reduceLeDiff, bc2, Option.map_some]
  rw [v_store]
  refine ⟨rfl, rfl, by simp [AV.cells, AV.isCell], _, updH_same _ _ _, by simp, ?_⟩
  rw [c_agg, show placeAt [.int .i64 0, .int .i64 0] 0 [i6 a, i6 b] = [i6 a, i6 b] from rfl]
  simp only [go_sem, reduceIte, reduceCtorEq, Nat.reduceEqDiff, Nat.reduceBEq, Nat.reduceAdd, Nat.reduceMul, Nat.reduceLeDiff]
  exact fin_cell1 4 2 b4 130 _ (by simp [upd_at]) agg130 sz130 (by simp [upd_at]) (updH_same _ _ _) rfl ⟨_, H, Settle.refl (((Ext.refl H).new hb4 _).upd hb4 _), rfl, rfl⟩
theorem bsI4 (H : AHeap) (a b c d : Int) : detV (.bslice 1) [.int .i64 a, .int .i64 b, .int .i64 c, .int .i64 d] H = some (.slice (eI [a, b, c, d])) := by simp [detV, AV.ok, AV.cells, eI]
theorem bsI5 (H : AHeap) (a b c d e : Int) : detV (.bslice 1) [.int .i64 a, .int .i64 b, .int .i64 c, .int .i64 d, .int .i64 e] H = some (.slice (eI [a, b, c, d, e])) := by simp [detV, AV.ok, AV.cells, eI]
theorem bsI3 (H : AHeap) (a b c : Int) : detV (.bslice 1) [.int .i64 a, .int .i64 b, .int .i64 c] H = some (.slice (eI [a, b, c])) := by simp [detV, AV.ok, AV.cells, eI]
theorem bsI2 (H : AHeap) (a b : Int) : detV (.bslice 1) [.int .i64 a, .int .i64 b] H = some (.slice (eI [a, b])) := by simp [detV, AV.ok, AV.cells, eI]
theorem bsI1 (H : AHeap) (a : Int) : detV (.bslice 1) [.int .i64 a] H = some (.slice (eI [a])) := by simp [detV, AV.ok, AV.cells, eI]
theorem passed_c (a b : Int) : Pure Tryz.prog 75 [i6 a, i6 b] (eC (tubC a b)) := by
  intro H
  refine fn_of hmix fc75 (by simp) ?_
  rw [ienv2]
  simp only [go_sem, reduceIte, reduceCtorEq, Nat.reduceEqDiff, Nat.reduceBEq, Nat.reduceAdd, Nat.reduceMul, Nat.reduceLeDiff, ac75]
  refine v_alloc fun b4 hb4 => ?_
  simp only [go_sem, reduceIte, reduceCtorEq, Nat.reduceEqDiff, Nat.reduceBEq, Nat.reduceAdd, Nat.reduceMul, Nat.reduceLeDiff, bsI4, bsI3, bc36, Option.map_some]
  rw [v_store]
  refine ⟨rfl, rfl, by simp [AV.cells, AV.isCell], _, updH_same _ _ _, by simp, ?_⟩
  rw [c_agg, show placeAt [.emp, .emp] 0 [.slice (eI [0, 0, 1, 2]), .slice (eI [a, b, 2])] = [.slice (eI [0, 0, 1, 2]), .slice (eI [a, b, 2])] from rfl]
  simp only [go_sem, reduceIte, reduceCtorEq, Nat.reduceEqDiff, Nat.reduceBEq, Nat.reduceAdd, Nat.reduceMul, Nat.reduceLeDiff]
  exact fin_cell1 4 2 b4 71 _ (by simp [upd_at]) agg71 sz71 (by simp [upd_at]) (updH_same _ _ _) rfl ⟨_, H, Settle.refl (((Ext.refl H).new hb4 _).upd hb4 _), rfl, rfl⟩
theorem bs3a (H : AHeap) (a b c d e f g h i : AV) : detV (.bslice 3) [.agg [a, b, c], .agg [d, e, f], .agg [g, h, i]] H = some (.slice [[a, b, c], [d, e, f], [g, h, i]]) := by simp [detV, AV.ok, AV.cells]
theorem bs2a (H : AHeap) (a b c d e f g h : AV) : detV (.bslice 2) [.agg [a, b], .agg [c, d], .agg [e, f], .agg [g, h]] H = some (.slice [[a, b], [c, d], [e, f], [g, h]]) := by simp [detV, AV.ok, AV.cells]
theorem bs2b (H : AHeap) (a b c d : AV) : detV (.bslice 2) [.agg [a, b], .agg [c, d]] H = some (.slice [[a, b], [c, d]]) := by simp [detV, AV.ok, AV.cells]
theorem bs4a (H : AHeap) (a b c d e f g h i j k l : AV) : detV (.bslice 4) [.agg [a, b, c, d], .agg [e, f, g, h], .agg [i, j, k, l]] H = some (.slice [[a, b, c, d], [e, f, g, h], [i, j, k, l]]) := by simp [detV, AV.ok, AV.cells]
theorem bcS0 (a : Int) : buildCells [.int .i64 0, .bool false] [(0, 1)] [.int .i64 a] = some [i6 a, .bool false] := by simp [buildCells, placeAt, AV.ok, AV.cells]
theorem bcP0 (es : List (List AV)) : buildCells [.emp, .int .i64 0] [(0, 1)] [.slice es] = some [.slice es, .int .i64 0] := by simp [buildCells, placeAt, AV.ok, AV.cells]
theorem bcT2 (a b : List (List AV)) : buildCells [.emp, .emp, .int .i64 0] [(0, 1), (1, 1)] [.slice a, .slice b] = some [.slice a, .slice b, .int .i64 0] := by simp [buildCells, placeAt, AV.ok, AV.cells]
theorem bcH2 (a b c : AV) (d f g : List (List AV)) (n m : Int) : buildCells [.emp, .emp, .int .i64 0, .emp, .int .i64 0, .int .i64 0, .emp, .emp, .emp] [(0, 3), (3, 1), (4, 1), (5, 1), (6, 1), (8, 1)] [.agg [a, b, c], .slice d, .int .i64 n, .int .i64 m, .slice f, .slice g] = some [a, b, c, .slice d, i6 n, i6 m, .slice f, .emp, .slice g] := by
  simp [buildCells, placeAt, AV.ok, AV.cells]
theorem tub_c (k : Nat) (hk : k ≤ 2) : Pure Tryz.prog 74 [i6 k] (eH (tubH k)) := by
  intro H
  refine fn_of hmix fc74 (by simp) ?_
  rw [ienv1]
  simp only [go_sem, reduceIte, reduceCtorEq, Nat.reduceEqDiff, Nat.reduceBEq, Nat.reduceAdd, Nat.reduceMul, Nat.reduceLeDiff, ac74]
  refine v_alloc fun b2 hb2 => ?_
  simp only [go_sem, reduceIte, reduceCtorEq, Nat.reduceEqDiff, Nat.reduceBEq, Nat.reduceAdd, Nat.reduceMul, Nat.reduceLeDiff, bcS0, bcS, bs2b, bc2, bcW, bs3a, bsI1, bsI2, bcP0, bcP, bs2a, bcT2, Option.map_some]
  refine v_alloc fun b4 hb4 => ?_
  have n24 : b2 ≠ b4 := fun h => by subst h; simp at hb4
  have e1 := (Ext.refl H).new hb2 (.box [.emp, .emp, .int .i64 0, .emp, .int .i64 0, .int .i64 0, .emp, .emp, .emp])
  have z4 : H b4 = none := e1.isNone hb4
  simp only [go_sem, reduceIte, reduceCtorEq, Nat.reduceEqDiff, Nat.reduceBEq, Nat.reduceAdd, Nat.reduceMul, Nat.reduceLeDiff]
  rw [v_store]
  refine ⟨rfl, rfl, by simp [AV.cells, AV.isCell], _, updH_same _ _ _, by simp, ?_⟩
  have e2 : ∀ o1 o2, Ext H (updH (updH (updH H b2 (.box [.emp, .emp, .int .i64 0, .emp, .int .i64 0, .int .i64 0, .emp, .emp, .emp])) b4 o1) b4 o2) := fun o1 o2 => (e1.new hb4 o1).upd z4 o2
  simp only [go_sem, reduceIte, reduceCtorEq, Nat.reduceEqDiff, Nat.reduceBEq, Nat.reduceAdd, Nat.reduceMul, Nat.reduceLeDiff, placeAt, List.append_nil, List.nil_append, List.drop_nil, bsI1]
  refine pgo_call (between_c 0 1) ?_
  simp only [go_sem, reduceIte, reduceCtorEq, Nat.reduceEqDiff, Nat.reduceBEq, Nat.reduceAdd, Nat.reduceMul, Nat.reduceLeDiff, bcTo, Option.map_some]
  refine pgo_call (between_c 0 1) ?_
  simp only [go_sem, reduceIte, reduceCtorEq, Nat.reduceEqDiff, Nat.reduceBEq, Nat.reduceAdd, Nat.reduceMul, Nat.reduceLeDiff, bcTo, Option.map_some]
  refine pgo_call (between_c 2 2) ?_
  simp only [go_sem, reduceIte, reduceCtorEq, Nat.reduceEqDiff, Nat.reduceBEq, Nat.reduceAdd, Nat.reduceMul, Nat.reduceLeDiff, bcTo, Option.map_some, bs4a, show (0 : Int) ≤ (k : Int) by omega, show (k : Int) ≤ ((2 : Nat) : Int) by omega, bcH2]
  rw [v_store]
  refine ⟨rfl, rfl, by simp [AV.cells, AV.isCell], _, by rw [updH_ne _ _ n24, updH_ne _ _ n24]; exact updH_same _ _ _, by simp, ?_⟩
  rw [c_agg]
  simp only [go_sem, reduceIte, reduceCtorEq, Nat.reduceEqDiff, Nat.reduceBEq, Nat.reduceAdd, Nat.reduceMul, Nat.reduceLeDiff]
  refine fin_cell1 2 9 b2 45 _ (by simp [upd_at]) agg45 sz45 (by simp [upd_at]) (updH_same _ _ _) rfl ⟨eH (tubH k), H, settle_agg ((e2 _ _).upd hb2 _) rfl fun i x y hx hy w v hH hr => ?_, rfl, rfl⟩
  match i, hx, hy with
  | 0, hx, hy => cases hx; cases hy; exact hr.mono (Evolve.drop ((e2 _ _).upd hb2 _))
  | 1, hx, hy => cases hx; cases hy; exact hr.mono (Evolve.drop ((e2 _ _).upd hb2 _))
  | 2, hx, hy => cases hx; cases hy; exact hr.mono (Evolve.drop ((e2 _ _).upd hb2 _))
  | 3, hx, hy => cases hx; cases hy; exact hr.mono (Evolve.drop ((e2 _ _).upd hb2 _))
  | 4, hx, hy => cases hx; cases hy; exact hr.mono (Evolve.drop ((e2 _ _).upd hb2 _))
  | 5, hx, hy => cases hx; cases hy; exact hr.mono (Evolve.drop ((e2 _ _).upd hb2 _))
  | 6, hx, hy => cases hx; cases hy; exact hr.mono (Evolve.drop ((e2 _ _).upd hb2 _))
  | 7, hx, hy => cases hx; cases hy; exact (Rep.weaken_emp hr).mono (Evolve.drop ((e2 _ _).upd hb2 _))
  | 8, hx, hy =>
    cases hx; cases hy
    have : List.map eS (List.take k [⟨0, false⟩, ⟨1, true⟩]) = List.take k [[i6 0, .bool false], [i6 1, .bool true]] := by rw [List.map_take]; rfl
    rw [show (tubH k).signs = List.take k [⟨0, false⟩, ⟨1, true⟩] from rfl, this]
    exact hr.mono (Evolve.drop ((e2 _ _).upd hb2 _))
theorem tub_sm (k : Nat) : HSm (tubH k) := by
  have hm : ∀ p ∈ (tubH k).table.pieces, p.marks.length ≤ 1073741824 := by
    intro p hp
    simp only [tubH, tubT, List.mem_cons, List.not_mem_nil, or_false] at hp
    rcases hp with rfl | rfl | rfl | rfl <;> simp
  refine ⟨by simp [tubH, tubT], by simp [tubH, tubT], hm, by simp [tubH], by simp [tubH], by simp [tubH], ?_⟩
  simp [tubH]; omega
theorem awake_c : Pure Tryz.prog 20 [] (.bool true) := by
  intro H
  refine fn_of hmix fc20 (by simp) ?_
  rw [ienv0]
  have u0 := tub_c 0 (by omega)
  have u1 := tub_c 1 (by omega)
  have u2 := tub_c 2 (by omega)
  have s0 := tub_sm 0
  have s1 := tub_sm 1
  have s2 := tub_sm 2
  have k1 := playS_c (tubH 0) s0.tsm s0.sk (tubC 1 0) (by unfold Sm; simp [tubC]) (by unfold Sm; simp [tubC])
  rw [tub_play.1, tub_play.2] at k1
  have k2 := carry_c (tubH 0) s0.tsm s0.sk
  rw [tub_ask0, tub_carry] at k2
  have k3 := whoseS_c (tubH 0) s0.tsm s0.sk
  rw [tub_ask0, tub_whose] at k3
  have k4 := boil_c (tubH 0) s0.tsm s0.sk 1
  rw [tub_hour, tub_ask0, tub_boil] at k4
  have k5 := order_c (tubH 0) s0.tsm s0.sk 1
  rw [tub_order.1, tub_order.2] at k5
  have k6 := boil_c (tubH 1) s1.tsm s1.sk 1
  rw [show hourOK (tubH 1) 1 = true from tub_hour, tub_ask1, tub_boil1] at k6
  have k7 := first_c (tubH 2) s2.tsm s2.sk
  rw [firstR, if_pos tub_check2, tub_first] at k7
  have k8 := leave_c (tubH 2) s2.tsm s2.sk
  rw [tub_check2, tub_leave] at k8
  simp only [go_sem, reduceIte, reduceCtorEq, Nat.reduceEqDiff, Nat.reduceBEq, Nat.reduceAdd, Nat.reduceMul, Nat.reduceLeDiff, ac20]
  refine u0.go ?_
  simp only [go_sem, reduceIte, reduceCtorEq, Nat.reduceEqDiff, Nat.reduceBEq, Nat.reduceAdd, Nat.reduceMul, Nat.reduceLeDiff]
  refine (passed_c 1 0).go ?_
  simp only [go_sem, reduceIte, reduceCtorEq, Nat.reduceEqDiff, Nat.reduceBEq, Nat.reduceAdd, Nat.reduceMul, Nat.reduceLeDiff]
  refine k1.go ?_
  simp only [go_sem, reduceIte, reduceCtorEq, Nat.reduceEqDiff, Nat.reduceBEq, Nat.reduceAdd, Nat.reduceMul, Nat.reduceLeDiff, listR, List.getElem?_cons_zero, List.getElem?_cons_succ]
  refine u0.go ?_
  simp only [go_sem, reduceIte, reduceCtorEq, Nat.reduceEqDiff, Nat.reduceBEq, Nat.reduceAdd, Nat.reduceMul, Nat.reduceLeDiff]
  refine k2.go ?_
  simp only [go_sem, reduceIte, reduceCtorEq, Nat.reduceEqDiff, Nat.reduceBEq, Nat.reduceAdd, Nat.reduceMul, Nat.reduceLeDiff, listR, List.getElem?_cons_zero, List.getElem?_cons_succ]
  refine u0.go ?_
  simp only [go_sem, reduceIte, reduceCtorEq, Nat.reduceEqDiff, Nat.reduceBEq, Nat.reduceAdd, Nat.reduceMul, Nat.reduceLeDiff]
  refine k3.go ?_
  simp only [go_sem, reduceIte, reduceCtorEq, Nat.reduceEqDiff, Nat.reduceBEq, Nat.reduceAdd, Nat.reduceMul, Nat.reduceLeDiff, listR, List.getElem?_cons_zero, List.getElem?_cons_succ]
  refine u0.go ?_
  simp only [go_sem, reduceIte, reduceCtorEq, Nat.reduceEqDiff, Nat.reduceBEq, Nat.reduceAdd, Nat.reduceMul, Nat.reduceLeDiff]
  refine k4.go ?_
  simp only [go_sem, reduceIte, reduceCtorEq, Nat.reduceEqDiff, Nat.reduceBEq, Nat.reduceAdd, Nat.reduceMul, Nat.reduceLeDiff, listR, List.getElem?_cons_zero, List.getElem?_cons_succ]
  refine u0.go ?_
  simp only [go_sem, reduceIte, reduceCtorEq, Nat.reduceEqDiff, Nat.reduceBEq, Nat.reduceAdd, Nat.reduceMul, Nat.reduceLeDiff]
  refine k5.go ?_
  simp only [go_sem, reduceIte, reduceCtorEq, Nat.reduceEqDiff, Nat.reduceBEq, Nat.reduceAdd, Nat.reduceMul, Nat.reduceLeDiff, listR, List.getElem?_cons_zero, List.getElem?_cons_succ]
  refine u1.go ?_
  simp only [go_sem, reduceIte, reduceCtorEq, Nat.reduceEqDiff, Nat.reduceBEq, Nat.reduceAdd, Nat.reduceMul, Nat.reduceLeDiff]
  refine k6.go ?_
  simp only [go_sem, reduceIte, reduceCtorEq, Nat.reduceEqDiff, Nat.reduceBEq, Nat.reduceAdd, Nat.reduceMul, Nat.reduceLeDiff, listR, List.getElem?_cons_zero, List.getElem?_cons_succ]
  refine u2.go ?_
  simp only [go_sem, reduceIte, reduceCtorEq, Nat.reduceEqDiff, Nat.reduceBEq, Nat.reduceAdd, Nat.reduceMul, Nat.reduceLeDiff]
  refine k7.go ?_
  simp only [go_sem, reduceIte, reduceCtorEq, Nat.reduceEqDiff, Nat.reduceBEq, Nat.reduceAdd, Nat.reduceMul, Nat.reduceLeDiff, listR, List.getElem?_cons_zero, List.getElem?_cons_succ]
  refine u2.go ?_
  simp only [go_sem, reduceIte, reduceCtorEq, Nat.reduceEqDiff, Nat.reduceBEq, Nat.reduceAdd, Nat.reduceMul, Nat.reduceLeDiff]
  refine k8.go ?_
  simp only [go_sem, reduceIte, reduceCtorEq, Nat.reduceEqDiff, Nat.reduceBEq, Nat.reduceAdd, Nat.reduceMul, Nat.reduceLeDiff, listR, List.getElem?_cons_zero, List.getElem?_cons_succ, bsI2]
  refine (same_c [3, 4] [3, 4] (by unfold Sm; simp)).go ?_
  simp only [go_sem, reduceIte, reduceCtorEq, Nat.reduceEqDiff, Nat.reduceBEq, Nat.reduceAdd, Nat.reduceMul, Nat.reduceLeDiff, bsI5]
  refine (same_c [3, 3, 2, 1, 1] [3, 3, 2, 1, 1] (by unfold Sm; simp)).go ?_
  simp only [go_sem, reduceIte, reduceCtorEq, Nat.reduceEqDiff, Nat.reduceBEq, Nat.reduceAdd, Nat.reduceMul, Nat.reduceLeDiff, bsI2]
  refine (same_c [0, 1] [0, 1] (by unfold Sm; simp)).go ?_
  simp only [go_sem, reduceIte, reduceCtorEq, Nat.reduceEqDiff, Nat.reduceBEq, Nat.reduceAdd, Nat.reduceMul, Nat.reduceLeDiff, bsI3]
  refine (same_c [0, 3, 4] [0, 3, 4] (by unfold Sm; simp)).go ?_
  simp only [go_sem, reduceIte, reduceCtorEq, Nat.reduceEqDiff, Nat.reduceBEq, Nat.reduceAdd, Nat.reduceMul, Nat.reduceLeDiff, bsI2]
  refine (same_c [0, 0] [0, 0] (by unfold Sm; simp)).go ?_
  simp only [go_sem, reduceIte, reduceCtorEq, Nat.reduceEqDiff, Nat.reduceBEq, Nat.reduceAdd, Nat.reduceMul, Nat.reduceLeDiff, bsI1, show ((0 : Nat) : Int) = 0 from rfl, show ((1 : Nat) : Int) = 1 from rfl]
  refine (same_c [0] [0] (by unfold Sm; simp)).go ?_
  simp only [go_sem, reduceIte, reduceCtorEq, Nat.reduceEqDiff, Nat.reduceBEq, Nat.reduceAdd, Nat.reduceMul, Nat.reduceLeDiff]
  refine fin_ret' 0 (by simp [upd_at]) ?_
  simp [upd_at]
end Go.Lift
set_option linter.unusedSimpArgs false
set_option linter.unusedVariables false
namespace Go.Lift
open Go Go.Proofs
inductive Sh where
  | int (k : IntKind)
  | bool
  | slice (ss : List Sh)
mutual
inductive Fits : Sh → AV → Prop
  | int (k : IntKind) (n : Int) (h : (Lit.int k n).wf = true) : Fits (.int k) (.int k n)
  | bool (b : Bool) : Fits .bool (.bool b)
  | slice (ss : List Sh) (es : List (List AV)) (h : ∀ e ∈ es, FitsL ss e) : Fits (.slice ss) (.slice es)
inductive FitsL : List Sh → List AV → Prop
  | nil : FitsL [] []
  | cons (s : Sh) (ss : List Sh) (x : AV) (xs : List AV) (h : Fits s x) (t : FitsL ss xs) : FitsL (s :: ss) (x :: xs)
end
theorem FitsL.len : ∀ {ss : List Sh} {xs : List AV}, FitsL ss xs → xs.length = ss.length
  | [], [], _ => rfl
  | _ :: _, _ :: _, .cons _ _ _ _ _ t => by simp [FitsL.len t]
theorem FitsL.app : ∀ {a b : List Sh} {xs ys : List AV}, FitsL a xs → FitsL b ys → FitsL (a ++ b) (xs ++ ys)
  | [], _, [], _, _, h => h
  | _ :: _, _, _ :: _, _, .cons s ss x xs h t, k => .cons s _ x _ h (FitsL.app t k)
def shapesFs (P : Program) (sh : TypeId → Option (List Sh)) : Nat → List Field → Option (List Sh)
  | _, [] => some []
  | off, f :: fs => match sh f.type, shapesFs P sh (off + P.cellsOf f.type) fs with
    | some a, some b => if f.offset = off ∧ a.length = P.cellsOf f.type then some (a ++ b) else none
    | _, _ => none
def shapes (P : Program) : Nat → TypeId → Option (List Sh)
  | 0, _ => none
  | n + 1, t => match P.underlying t with
    | some .bool => some [.bool]
    | some (.int k) => some [.int k]
    | some (.slice e) => (shapes P n e).bind fun ss => if P.cellsOf e = ss.length ∧ 0 < ss.length then some [.slice ss] else none
    | some (.struct fs) => (shapesFs P (shapes P n) 0 fs.toList).bind fun ss => if P.cellsOf t = ss.length then some ss else none
    | _ => none
abbrev H0 : AHeap := fun _ => none
def Dec (w : World) (ss : List Sh) (cs : List Value) : Prop := ∃ xs : List AV, FitsL ss xs ∧ xs.length = cs.length ∧ ∀ (i : Nat) (v : Value) (x : AV), cs[i]? = some v → xs[i]? = some x → Rep H0 w v x
theorem Dec.one {w : World} {s : Sh} {v : Value} {x : AV} (hf : Fits s x) (hr : Rep H0 w v x) : Dec w [s] [v] := by
  refine ⟨[x], .cons _ _ _ _ hf .nil, rfl, fun i u y hu hy => ?_⟩
  cases i with
  | zero => cases hu; cases hy; exact hr
  | succ i => simp at hu
theorem Dec.app {w : World} {a b : List Sh} {cs ds : List Value} (h : Dec w a cs) (k : Dec w b ds) : Dec w (a ++ b) (cs ++ ds) := by
  obtain ⟨xs, h1, h2, h3⟩ := h
  obtain ⟨ys, k1, k2, k3⟩ := k
  refine ⟨xs ++ ys, h1.app k1, by simp [h2, k2], fun i v x hv hx => ?_⟩
  by_cases hi : i < cs.length
  · rw [List.getElem?_append_left hi] at hv
    rw [List.getElem?_append_left (by omega)] at hx
    exact h3 i v x hv hx
  · rw [List.getElem?_append_right (by omega)] at hv
    rw [List.getElem?_append_right (by omega), h2] at hx
    exact k3 _ v x hv hx
theorem addOff {a : Addr} (ha : a.spot = none) (n : Nat) : a.add n = ⟨a.block, a.off + n, none⟩ := by
  obtain ⟨b, o, s⟩ := a
  simp only at ha
  subst ha
  unfold Addr.add
  split
  · rename_i h; subst h; rfl
  · rfl
theorem decode {H : Type} {enc : TypeId × Value → H} {P : Program} {w : World} {base : Nat} {held : Bool} : ∀ (n : Nat) (t : TypeId) (ss : List Sh) (fuel : Nat) (cs : List Value) (x : DataW H × List MemPlace), shapes P n t = some ss →
    DataW.trod enc P w base (fun _ => true) held fuel t cs = some x → Dec w ss cs := by
  intro n
  induction n with
  | zero => intro t ss fuel cs x h; cases h
  | succ n ih =>
    intro t ss fuel cs x hs h
    simp only [shapes] at hs
    split at hs
    · rename_i ht
      cases hs
      obtain ⟨b, rfl, _⟩ := DataW.trod_bool ht h
      exact Dec.one (.bool b) (.bool b)
    · rename_i k ht
      cases hs
      obtain ⟨m, rfl, _, hw⟩ := DataW.trod_int ht h
      exact Dec.one (.int k m hw) (.int k m)
    · rename_i e ht
      rw [Option.bind_eq_some_iff] at hs
      obtain ⟨se, hse, hs⟩ := hs
      split at hs
      · rename_i hc
        cases hs
        rcases Deep.open_slice ht h with ⟨rfl, _⟩ | ⟨a, len, cap, m, n', D, Pl, rfl, _, hlc, _, hm, _, hx⟩
        · exact Dec.one (.slice se [] (by simp)) (.nil none 0)
        rw [if_pos rfl] at hm
        have hm' := hm.symm
        subst hm'
        rcases Nat.eq_zero_or_pos len with rfl | hpos
        · exact Dec.one (.slice se [] (by simp)) (.nil (some a) _)
        obtain ⟨X, hX⟩ := Deep.choose_lt (α := List Value × List AV) (n := len) (p := fun i y => w.cells? base (a.add (i * P.cellsOf e)) (P.cellsOf e) = some y.1 ∧ FitsL se y.2 ∧ y.2.length = y.1.length ∧ ∀ (j : Nat) (v : Value) (x : AV), y.1[j]? = some v → y.2[j]? = some x → Rep H0 w v x) (fun i hi => by
          obtain ⟨cs', h1, h2⟩ := hx i (by omega)
          obtain ⟨xs, f1, f2, f3⟩ := ih e se n' cs' _ hse h2
          exact ⟨(cs', xs), h1, f1, f2, f3⟩)
        have hsz : ∀ i, i < len → (X i).2.length = P.cellsOf e := fun i hi => by rw [(hX i hi).2.1.len, hc.1]
        have hspot : a.spot = none := by
          have h0 := (World.cells?_some (hX 0 hpos).1)
          have h1 := h0.2.2 0 (by omega)
          have h2 : (X 0).1[0]? = some ((X 0).1[0]'(by rw [h0.2.1]; omega)) := by simp
          rw [h2] at h1
          have := World.cell?_spot h1
          rw [Nat.zero_mul] at this
          simpa [Addr.add] using this
        have hrep : Rep H0 w (.slice (some ⟨a.block, a.off, none⟩) ((List.range len).map fun i => (X i).2).length cap) (.slice ((List.range len).map fun i => (X i).2)) := by
          refine Rep.slice a.block a.off cap (P.cellsOf e) ((List.range len).map fun i => (X i).2) (fun i j => (X i).1.getD j undef) (by simp; omega) ?_ ?_ ?_
          · intro el hel
            rw [List.mem_map] at hel
            obtain ⟨i, hi, rfl⟩ := hel
            exact hsz i (List.mem_range.1 hi)
          · intro i j hi hj
            have hi' : i < len := by simpa using hi
            have h0 := World.cells?_some (hX i hi').1
            have h1 := h0.2.2 j hj
            rw [addOff hspot, addOff rfl] at h1
            refine ⟨.inl rfl, ?_⟩
            simp only at h1
            rw [h1, List.getD_eq_getElem?_getD, List.getElem?_eq_getElem (by rw [h0.2.1]; exact hj)]; rfl
          · intro i j el y hel hy
            have hi' : i < len := by
              rcases Nat.lt_or_ge i len with h | h
              · exact h
              · rw [List.getElem?_eq_none (by simp; omega)] at hel; cases hel
            rw [List.getElem?_map, List.getElem?_range hi'] at hel
            simp only [Option.map_some, Option.some.injEq] at hel
            subst hel
            have hj : j < (X i).2.length := by
              rcases Nat.lt_or_ge j (X i).2.length with h | h
              · exact h
              · rw [List.getElem?_eq_none h] at hy; cases hy
            have hj' : j < (X i).1.length := by rw [← (hX i hi').2.2.1]; exact hj
            exact (hX i hi').2.2.2 j _ y (by rw [List.getD_eq_getElem?_getD, List.getElem?_eq_getElem hj']; rfl) hy
        have ha : a = ⟨a.block, a.off, none⟩ := by cases a; simp only at hspot; rw [hspot]
        rw [← ha] at hrep
        have hl : ((List.range len).map fun i => (X i).2).length = len := by simp
        rw [hl] at hrep
        exact Dec.one (.slice se _ (fun el hel => by rw [List.mem_map] at hel; obtain ⟨i, hi, rfl⟩ := hel; exact (hX i (List.mem_range.1 hi)).2.1)) hrep
      · cases hs
    · rename_i fs ht
      rw [Option.bind_eq_some_iff] at hs
      obtain ⟨sf, hsf, hs⟩ := hs
      split at hs
      · rename_i hc
        cases hs
        obtain ⟨xs, n', rfl, rfl, hl, hlen, hf⟩ := DataW.trod_struct ht h
        have key : ∀ (l : List Field) (off : Nat) (sg : List Sh), (∀ f ∈ l, ∃ y, DataW.trod enc P w base (fun _ => true) held n' f.type ((cs.drop f.offset).take (P.cellsOf f.type)) = some y) → shapesFs P (shapes P n) off l = some sg → Dec w sg ((cs.drop off).take sg.length) := by
          intro l
          induction l with
          | nil => intro off sg _ hg; cases hg; exact ⟨[], .nil, by simp, fun i v x hv => by simp at hv⟩
          | cons f l ihl =>
            intro off sg hall hg
            simp only [shapesFs] at hg
            split at hg
            · rename_i sa sb ha hb
              split at hg
              · rename_i hcond
                cases hg
                obtain ⟨y, hy⟩ := hall f List.mem_cons_self
                have d1 := ih f.type sa n' _ y ha hy
                have d2 := ihl _ sb (fun g hg => hall g (List.mem_cons_of_mem _ hg)) hb
                rw [hcond.1, ← hcond.2] at d1
                rw [← hcond.2] at d2
                have := d1.app d2
                have e : (cs.drop off).take (sa ++ sb).length = (cs.drop off).take sa.length ++ (cs.drop (off + sa.length)).take sb.length := by
                  rw [List.length_append, List.take_add, List.drop_drop]
                rw [e]; exact this
              · cases hg
            · cases hg
        have hall : ∀ f ∈ fs.toList, ∃ y, DataW.trod enc P w base (fun _ => true) held n' f.type ((cs.drop f.offset).take (P.cellsOf f.type)) = some y := by
          intro f hfm
          obtain ⟨i, hi, rfl⟩ := List.getElem_of_mem hfm
          have hi' : i < fs.size := by simpa using hi
          have := hf i fs[i] (by simp [hi'])
          rw [List.getElem?_eq_getElem (by omega)] at this
          exact ⟨_, by simpa using this⟩
        have d := key fs.toList 0 ss hall hsf
        rw [List.drop_zero, List.take_of_length_le (by rw [hl, hc]; exact Nat.le_refl _)] at d
        exact d
      · cases hs
    · cases hs
end Go.Lift
set_option linter.unusedSimpArgs false
set_option linter.unusedVariables false
namespace Go.Lift
open Go Go.Proofs Go.Proofs.YthnfcdkiaihfcaaGreat
open Go.ChangeShapes Go.WideShapes Go.ChangeAt Go.RowKit
def isSt (P : Program) (t : TypeId) : Bool := match P.underlying t with
  | some (.struct _) => true
  | _ => false
def ArgOf (P : Program) (t : TypeId) (x : AV) : Prop := ∃ ss xs, shapes P 9 t = some ss ∧ FitsL ss xs ∧ ((isSt P t = true ∧ x = .agg xs) ∨ (isSt P t = false ∧ xs = [x]))
inductive ArgsOf (P : Program) : List TypeId → List AV → Prop
  | nil : ArgsOf P [] []
  | cons (t : TypeId) (ts : List TypeId) (x : AV) (xs : List AV) (h : ArgOf P t x) (r : ArgsOf P ts xs) : ArgsOf P (t :: ts) (x :: xs)
section
variable {H : Type} {enc : TypeId × Value → H} {P : Program} {w : World}
theorem arg_of {t : TypeId} {v : Value} {d : DataW H} {p : List MemPlace} {base : Nat} (hv : Value.okWide P w .any base t v) (h : DataW.Trod enc P w 0 (fun _ => true) true t v d p) (hs : (shapes P 9 t).isSome = true) : ∃ x, ArgOf P t x ∧ Rep H0 w v x := by
  obtain ⟨fuel, h⟩ := h
  obtain ⟨ss, hss⟩ := Option.isSome_iff_exists.1 hs
  obtain ⟨xs, h1, h2, h3⟩ := decode 9 t ss fuel _ _ hss h
  cases hst : isSt P t with
  | true =>
    have hst' := hst
    unfold isSt at hst'
    split at hst'
    · rename_i fs ht
      obtain ⟨cs, rfl, _⟩ := okWide_struct ht hv
      refine ⟨.agg xs, ⟨ss, xs, hss, h1, .inl ⟨hst, rfl⟩⟩, .agg cs xs (by simpa [Value.cells] using h2.symm) fun i x hx => ?_⟩
      have hi : i < cs.size := by
        rcases Nat.lt_or_ge i xs.length with hh | hh
        · rw [h2] at hh; simpa [Value.cells] using hh
        · rw [List.getElem?_eq_none hh] at hx; cases hx
      exact h3 i _ x (by simp [Value.cells, hi]) hx
    · cases hst'
  | false =>
    have one : v.cells.toList = [v] := by
      have hst' := hst
      unfold isSt at hst'
      simp only [shapes] at hss
      split at hss
      · rename_i ht; obtain ⟨b, rfl⟩ := okWide_bool ht hv; rfl
      · rename_i k ht; obtain ⟨n, rfl⟩ := okWide_int ht hv; rfl
      · rename_i e ht; obtain ⟨a, l, c, rfl⟩ := okWide_slice ht hv; rfl
      · rename_i fs ht; rw [ht] at hst'; cases hst'
      · cases hss
    rw [one] at h2 h3
    match xs, h2 with
    | [x], _ => exact ⟨x, ⟨ss, [x], hss, h1, .inr ⟨hst, rfl⟩⟩, h3 0 v x rfl rfl⟩
theorem args_of : ∀ {ts : List TypeId} {vs : List Value} {ds : List (DataW H)} {p : List MemPlace} {base : Nat}, DataW.TrodAll enc P w 0 (fun _ => true) true ts vs ds p →
    (∀ (j : Nat) t v, ts[j]? = some t → vs[j]? = some v → Value.okWide P w .any base t v) → (∀ t ∈ ts, (shapes P 9 t).isSome = true) →
    ∃ xs, ArgsOf P ts xs ∧ vs.length = xs.length ∧ ds.length = ts.length ∧ ∀ (i : Nat) v x, vs[i]? = some v → xs[i]? = some x → Rep H0 w v x
  | [], _, _, _, _, h, _, _ => by
    obtain ⟨rfl, rfl, rfl⟩ := trodAll_nil h
    exact ⟨[], .nil, rfl, rfl, fun i v x hv => by simp at hv⟩
  | t :: ts, _, _, _, _, h, hval, hs => by
    obtain ⟨v, vs1, d, ds1, a, b, rfl, rfl, rfl, h1, h2⟩ := trodAll_cons h
    obtain ⟨x, hx, hr⟩ := arg_of (hval 0 t v rfl rfl) h1 (hs t List.mem_cons_self)
    obtain ⟨xs, k1, k2, k3, k4⟩ := args_of h2 (fun j u y hu hy => hval (j + 1) u y (by simpa using hu) (by simpa using hy)) (fun u hu => hs u (List.mem_cons_of_mem _ hu))
    refine ⟨x :: xs, .cons _ _ _ _ hx k1, by simp [k2], by simp [k3], fun i y z hy hz => ?_⟩
    cases i with
    | zero => cases hy; cases hz; exact hr
    | succ i => exact k4 i y z (by simpa using hy) (by simpa using hz)
theorem trodAll_below (hl : laidOutB P = true) {W W' : World} (hb : Below W.heap.size W W') : ∀ {ts : List TypeId} {vs : List Value} {ds : List (DataW H)} {p : List MemPlace}, (∀ t ∈ ts, P.readableRec t = true ∧ t < P.types.size) →
    DataW.TrodAll enc P W 0 (fun _ => true) true ts vs ds p → (∀ x ∈ p, x.block < W.heap.size) → ∀ sp : Nat → Bool, (∀ x ∈ p, sp x.block = true) → DataW.TrodAll enc P W' 0 sp true ts vs ds p
  | [], _, _, _, _, h, _, sp, _ => by
    obtain ⟨rfl, rfl, rfl⟩ := trodAll_nil h
    rfl
  | t :: ts, _, _, _, ht, h, hlt, sp, hsp => by
    obtain ⟨v, vs1, d, ds1, a, b, rfl, rfl, rfl, h1, h2⟩ := trodAll_cons h
    refine ⟨a, b, ?_, trodAll_below hl hb (fun u hu => ht u (List.mem_cons_of_mem _ hu)) h2 (fun x hx => hlt x (by simp [hx])) sp (fun x hx => hsp x (by simp [hx])), rfl⟩
    exact WideElems.Trod_stays hl (ht t List.mem_cons_self).1 (ht t List.mem_cons_self).2 h1 (fun x hx => hb.same (hlt x (by simp [hx]))) (fun x hx => hsp x (by simp [hx]))
theorem post_of_below {f : Func} {s : ChangeSpec} {W W' : World} {args : Array Value} {ds gs : List (DataW H)} {before : List MemPlace} {tb : TypeId}
    (hl : laidOutB P = true) (hp : ∀ t ∈ f.params.toList, P.readableRec t = true ∧ t < P.types.size) (hv : s.vars = []) (hr : f.resultTypes = #[tb]) (htb : P.underlying tb = some .bool)
    (hs : (s.fn H ds).results = [.lit (.bool true)] ∧ (s.fn H ds).args = ds ∧ (s.fn H ds).vars = [])
    (hW : DataW.Whole enc P f.params.toList s.vars false W args.toList ds gs before) (hb : Below W.heap.size W W') :
    s.post enc P f false true false false W args (.bool true) W' := by
  have hWW := hW
  have hlt : ∀ x ∈ before, x.block < W.heap.size := fun x hx => by simpa using hW.lt x hx
  obtain ⟨p, q, hA, hV, rfl, hfz, _⟩ := hW
  rw [hv] at hV
  obtain ⟨rfl, rfl⟩ := trodVars_none hV
  rw [List.append_nil] at hfz hlt hWW
  have args' := trodAll_below hl hb hp hA hlt
  have e1 : (Value.bool true).resultList f.resultTypes.size = [.bool true] := by rw [hr]; rfl
  have res : ∀ b sp hd, DataW.TrodAll enc P W' b sp hd f.resultTypes.toList ((Value.bool true).resultList f.resultTypes.size) [.lit (.bool true)] [] := fun b sp hd => by
    rw [e1, hr]
    exact trodAll_mk1 (shut_bool htb true)
  refine ⟨ds, [], p, [], p, [], hWW, by rw [List.append_nil, hs.1]; exact res _ _ _, ?_, ?_, hb.frame _, fun h => by cases h⟩
  · rw [List.append_nil, hs.2.1]
    exact args' _ (fun x hx => by simpa using hlt x hx)
  · rw [List.append_nil, hs.2.2, hv]; rfl
end
theorem below_of {W W' : World} (h : Evolve H0 W H0 W') : Below W.heap.size W W' := ⟨h.os, h.tape, h.output, h.size, fun k hk => (h.block k hk rfl).2⟩
theorem calls_pure {P : Program} {k : FuncId} {xs : List AV} {W : World} {args : Array Value} (call : Pure P k xs (.bool true)) (h2 : args.toList.length = xs.length) (h4 : ∀ (i : Nat) v x, args.toList[i]? = some v → xs[i]? = some x → Rep H0 W v x) :
    Calls P k args W fun e W' => e = .returned (.bool true) ∧ Below W.heap.size W W' := by
  have hc := (call H0).2 W args (fun b o hb => by cases hb) ⟨by simpa using h2, fun i x hx => by
    have hi : i < args.size := by
      rcases Nat.lt_or_ge i xs.length with hh | hh
      · have : args.toList.length = args.size := by simp
        omega
      · rw [List.getElem?_eq_none hh] at hx; cases hx
    have := h4 i (args[i]) x (by simp [hi]) hx
    simpa [Array.getD, hi] using this⟩
  refine (hc.calls fun k => show (WF none).room k from room_wide k).mono fun e W' he => ?_
  obtain ⟨v, rfl, r, H', ⟨rfl, rfl⟩, _, hrep, hev⟩ := he
  cases hrep
  exact ⟨rfl, below_of hev⟩
theorem own_knob : ownKnob Tryz.prog.godebug = none := by kernel_rfl
theorem laid_out : laidOutB Tryz.prog = true := by kernel_rfl
theorem und4 : Tryz.prog.underlying 4 = some .bool := by kernel_rfl
def parsOK (P : Program) (fn : Func) : Bool := fn.params.toList.all fun t => P.readableRec t && decide (t < P.types.size) && (shapes P 9 t).isSome
set_option maxRecDepth 100000 in
theorem law_step {k : FuncId} {fn : Func} {s : ChangeSpec} {dom : List PathCond} {os : Os} (started : os.Started) {H : Type} {enc : TypeId × Value → H}
    (hf : Tryz.checked.prog.funcs[k]? = some fn) (hno : Tryz.checked.prog.inits.idxOf? k = none) (hr : fn.resultTypes = #[4]) (hp : parsOK Tryz.prog fn = true) (hv : s.vars = [])
    (hs : ∀ ds : List (DataW H), ds.length = fn.params.size → (s.fn H ds).results = [.lit (.bool true)] ∧ (s.fn H ds).args = ds ∧ (s.fn H ds).vars = [])
    (wit : ∃ (w : World) (tape : Tape) (i : Input), w.os = os ∧ (w.forCall tape i).Shaped Tryz.checked.prog ∧ i.vars = [] ∧ Input.okWide Tryz.checked.prog (w.forCall tape i) .any w.heap.size k i ∧
      s.pre6 enc Tryz.checked.prog fn dom false (w.forCall tape i).memory i.args ∧ ({} : Assume).holds Tryz.checked.prog (lone (Frame.enter Tryz.checked.prog k i.args .normal) [] (w.forCall tape i)))
    (call : ∀ xs, ArgsOf Tryz.prog fn.params.toList xs → Pure Tryz.prog k xs (.bool true)) :
    ReturnsInHanded {} Tryz.checked os k .any (s.pre6 enc Tryz.checked.prog fn dom false) (s.post enc Tryz.checked.prog fn false true false false) := by
  refine returnsInHanded_of_change (C := Tryz.checked) own_knob started hno hf wit ?_
  intro W base args ds gs before hval hW _ _
  simp only [parsOK, List.all_eq_true, Bool.and_eq_true, decide_eq_true_eq] at hp
  have hWW := hW
  obtain ⟨p, q, hA, hV, _⟩ := hW
  have hV' := hV
  rw [hv] at hV'
  obtain ⟨rfl, rfl⟩ := trodVars_none hV'
  have hA' : DataW.TrodAll enc Tryz.prog W 0 (fun _ => true) true fn.params.toList args.toList ds p := hA
  have hval' : ∀ (j : Nat) t v, fn.params.toList[j]? = some t → args.toList[j]? = some v → Value.okWide Tryz.prog W .any base t v := fun j t v ht hvv => hval j t v (by rw [← Array.getElem?_toList]; exact ht) (by rw [← Array.getElem?_toList]; exact hvv)
  obtain ⟨xs, h1, h2, h3, h4⟩ := args_of (P := Tryz.prog) hA' hval' (fun t ht => (hp t ht).2)
  refine (calls_pure (call xs h1) h2 h4).mono fun e W' ⟨he, hb⟩ => ?_
  subst he
  exact ⟨_, rfl, post_of_below laid_out (fun t ht => (hp t ht).1) hv hr und4 (hs ds (by rw [h3]; simp)) hWW hb⟩
end Go.Lift
set_option linter.unusedSimpArgs false
set_option linter.unusedVariables false
namespace Go.Lift
open Go Go.Proofs Go.Proofs.YthnfcdkiaihfcaaGreat
theorem lift_list {α : Type} {f : α → List AV} {ss : List Sh} (h : ∀ e, FitsL ss e → ∃ a, e = f a) : ∀ es : List (List AV), (∀ e ∈ es, FitsL ss e) → ∃ l : List α, es = l.map f
  | [], _ => ⟨[], rfl⟩
  | e :: es, k => by
    obtain ⟨a, rfl⟩ := h e (k e List.mem_cons_self)
    obtain ⟨l, rfl⟩ := lift_list h es (fun x hx => k x (List.mem_cons_of_mem _ hx))
    exact ⟨a :: l, rfl⟩
theorem fit_int {k : IntKind} {x : AV} (h : Fits (.int k) x) : ∃ n, x = .int k n ∧ (Lit.int k n).wf = true := by cases h with | int _ n hn => exact ⟨n, rfl, hn⟩
theorem fit_i6 {x : AV} (h : Fits (.int .i64) x) : ∃ n, x = i6 n := by cases h with | int _ n hn => exact ⟨n, rfl⟩
theorem fit_slice {α : Type} {f : α → List AV} {ss : List Sh} (h : ∀ e, FitsL ss e → ∃ a, e = f a) {x : AV} (hx : Fits (.slice ss) x) : ∃ l : List α, x = .slice (l.map f) := by
  cases hx with
  | slice _ es hes => obtain ⟨l, rfl⟩ := lift_list h es hes; exact ⟨l, rfl⟩
theorem fitL_int {k : IntKind} (e : List AV) (h : FitsL [.int k] e) : ∃ n : Int, e = [.int k n] ∧ (Lit.int k n).wf = true := by
  cases h with
  | cons _ _ x _ h t =>
    cases t
    obtain ⟨n, rfl, hn⟩ := fit_int h
    exact ⟨n, rfl, hn⟩
theorem fit_eI {x : AV} (hx : Fits (.slice [.int .i64]) x) : ∃ l : List Int, x = .slice (eI l) := fit_slice (f := fun n => [i6 n]) (fun e he => by obtain ⟨n, rfl, _⟩ := fitL_int e he; exact ⟨n, rfl⟩) hx
theorem fit_eW {x : AV} (hx : Fits (.slice [.int .i64, .int .i64, .int .i64]) x) : ∃ l : List Woman, x = .slice (l.map eW) := fit_slice (fun e he => by
  cases he with
  | cons _ _ x1 _ h1 t =>
    cases t with
    | cons _ _ x2 _ h2 t =>
      cases t with
      | cons _ _ x3 _ h3 t =>
        cases t
        obtain ⟨a, rfl⟩ := fit_i6 h1
        obtain ⟨b, rfl⟩ := fit_i6 h2
        obtain ⟨c, rfl⟩ := fit_i6 h3
        exact ⟨⟨a, b, c⟩, rfl⟩) hx
theorem fit_eP {x : AV} (hx : Fits (.slice [.slice [.int .i64], .int .i64]) x) : ∃ l : List Piece, x = .slice (l.map eP) := fit_slice (fun e he => by
  cases he with
  | cons _ _ x1 _ h1 t =>
    cases t with
    | cons _ _ x2 _ h2 t =>
      cases t
      obtain ⟨a, rfl⟩ := fit_eI h1
      obtain ⟨b, rfl⟩ := fit_i6 h2
      exact ⟨⟨a, b⟩, rfl⟩) hx
theorem fit_eB {x : AV} (hx : Fits (.slice [.int .i64, .int .i64]) x) : ∃ l : List Boiling, x = .slice (l.map eB) := fit_slice (fun e he => by
  cases he with
  | cons _ _ x1 _ h1 t =>
    cases t with
    | cons _ _ x2 _ h2 t =>
      cases t
      obtain ⟨a, rfl⟩ := fit_i6 h1
      obtain ⟨b, rfl⟩ := fit_i6 h2
      exact ⟨⟨a, b⟩, rfl⟩) hx
theorem fitL_eS (e : List AV) (he : FitsL [.int .i64, .bool] e) : ∃ s, e = eS s := by
  cases he with
  | cons _ _ x1 _ h1 t =>
    cases t with
    | cons _ _ x2 _ h2 t =>
      cases t
      obtain ⟨a, rfl⟩ := fit_i6 h1
      cases h2 with
      | bool b => exact ⟨⟨a, b⟩, rfl⟩
theorem fit_eS {x : AV} (hx : Fits (.slice [.int .i64, .bool]) x) : ∃ l : List Sign, x = .slice (l.map eS) := fit_slice fitL_eS hx
theorem fit_eTo {x : AV} (hx : Fits (.slice [.int .i64, .int .i64, .int .i64, .int .i64]) x) : ∃ l : List Touch, x = .slice (l.map eTo) := fit_slice (fun e he => by
  cases he with
  | cons _ _ x1 _ h1 t =>
    cases t with
    | cons _ _ x2 _ h2 t =>
      cases t with
      | cons _ _ x3 _ h3 t =>
        cases t with
        | cons _ _ x4 _ h4 t =>
          cases t
          obtain ⟨a, rfl⟩ := fit_i6 h1
          obtain ⟨b, rfl⟩ := fit_i6 h2
          obtain ⟨c, rfl⟩ := fit_i6 h3
          obtain ⟨d, rfl⟩ := fit_i6 h4
          exact ⟨⟨a, b, c, d⟩, rfl⟩) hx
def houseSh : List Sh := [.slice [.int .i64, .int .i64, .int .i64], .slice [.slice [.int .i64], .int .i64], .int .i64, .slice [.int .i64], .int .i64, .int .i64, .slice [.int .i64, .int .i64, .int .i64, .int .i64], .slice [.int .i64, .int .i64], .slice [.int .i64, .bool]]
theorem fit_house {xs : List AV} (h : FitsL houseSh xs) : ∃ h : House, AV.agg xs = eH h := by
  unfold houseSh at h
  cases h with
  | cons _ _ x1 _ h1 t =>
  cases t with
  | cons _ _ x2 _ h2 t =>
  cases t with
  | cons _ _ x3 _ h3 t =>
  cases t with
  | cons _ _ x4 _ h4 t =>
  cases t with
  | cons _ _ x5 _ h5 t =>
  cases t with
  | cons _ _ x6 _ h6 t =>
  cases t with
  | cons _ _ x7 _ h7 t =>
  cases t with
  | cons _ _ x8 _ h8 t =>
  cases t with
  | cons _ _ x9 _ h9 t =>
  cases t
  obtain ⟨a1, rfl⟩ := fit_eW h1
  obtain ⟨a2, rfl⟩ := fit_eP h2
  obtain ⟨a3, rfl⟩ := fit_i6 h3
  obtain ⟨a4, rfl⟩ := fit_eI h4
  obtain ⟨a5, rfl⟩ := fit_i6 h5
  obtain ⟨a6, rfl⟩ := fit_i6 h6
  obtain ⟨a7, rfl⟩ := fit_eTo h7
  obtain ⟨a8, rfl⟩ := fit_eB h8
  obtain ⟨a9, rfl⟩ := fit_eS h9
  exact ⟨⟨⟨a1, a2, a3⟩, a4, a5, a6, a7, a8, a9⟩, rfl⟩
theorem sh31 : shapes Tryz.prog 9 31 = some houseSh := by kernel_rfl
theorem sh63 : shapes Tryz.prog 9 63 = some [.slice [.int .i64], .slice [.int .i64]] := by kernel_rfl
theorem sh3 : shapes Tryz.prog 9 3 = some [.int .i64] := by kernel_rfl
theorem sh26 : shapes Tryz.prog 9 26 = some [.slice [.int .i64]] := by kernel_rfl
theorem sh5 : shapes Tryz.prog 9 5 = some [.int .u8] := by kernel_rfl
theorem sh60 : shapes Tryz.prog 9 60 = some [.int .u16] := by kernel_rfl
theorem sh77 : shapes Tryz.prog 9 77 = some [.int .i64, .bool] := by kernel_rfl
theorem sh111 : shapes Tryz.prog 9 111 = some [.slice [.int .u16]] := by kernel_rfl
theorem st31 : isSt Tryz.prog 31 = true := by kernel_rfl
theorem st63 : isSt Tryz.prog 63 = true := by kernel_rfl
theorem st77 : isSt Tryz.prog 77 = true := by kernel_rfl
theorem st3 : isSt Tryz.prog 3 = false := by kernel_rfl
theorem st26 : isSt Tryz.prog 26 = false := by kernel_rfl
theorem st5 : isSt Tryz.prog 5 = false := by kernel_rfl
theorem st60 : isSt Tryz.prog 60 = false := by kernel_rfl
theorem st111 : isSt Tryz.prog 111 = false := by kernel_rfl
theorem arg_st {P : Program} {t : TypeId} {x : AV} {ss : List Sh} (h : ArgOf P t x) (hs : shapes P 9 t = some ss) (ht : isSt P t = true) : ∃ xs, FitsL ss xs ∧ x = .agg xs := by
  obtain ⟨ss', xs, h1, h2, h3⟩ := h
  rw [hs] at h1; cases h1
  rcases h3 with ⟨_, h3⟩ | ⟨h3, _⟩
  · exact ⟨xs, h2, h3⟩
  · rw [ht] at h3; cases h3
theorem arg_one {P : Program} {t : TypeId} {x : AV} {s : Sh} (h : ArgOf P t x) (hs : shapes P 9 t = some [s]) (ht : isSt P t = false) : Fits s x := by
  obtain ⟨ss', xs, h1, h2, h3⟩ := h
  rw [hs] at h1; cases h1
  rcases h3 with ⟨h3, _⟩ | ⟨_, rfl⟩
  · rw [ht] at h3; cases h3
  · cases h2 with
    | cons _ _ _ _ h _ => exact h
theorem arg31 {x : AV} (h : ArgOf Tryz.prog 31 x) : ∃ h : House, x = eH h := by
  obtain ⟨xs, h1, rfl⟩ := arg_st h sh31 st31
  exact fit_house h1
theorem arg63 {x : AV} (h : ArgOf Tryz.prog 63 x) : ∃ c : Course, x = eC c := by
  obtain ⟨xs, h1, rfl⟩ := arg_st h sh63 st63
  cases h1 with
  | cons _ _ x1 _ h1 t =>
  cases t with
  | cons _ _ x2 _ h2 t =>
  cases t
  obtain ⟨a, rfl⟩ := fit_eI h1
  obtain ⟨b, rfl⟩ := fit_eI h2
  exact ⟨⟨a, b⟩, rfl⟩
theorem arg77 {x : AV} (h : ArgOf Tryz.prog 77 x) : ∃ s : Sign, x = .agg (eS s) := by
  obtain ⟨xs, h1, rfl⟩ := arg_st h sh77 st77
  obtain ⟨s, rfl⟩ := fitL_eS _ h1
  exact ⟨s, rfl⟩
theorem arg3 {x : AV} (h : ArgOf Tryz.prog 3 x) : ∃ n : Int, x = i6 n ∧ (Lit.int .i64 n).wf = true := fit_int (arg_one h sh3 st3)
theorem arg26 {x : AV} (h : ArgOf Tryz.prog 26 x) : ∃ l : List Int, x = .slice (eI l) := fit_eI (arg_one h sh26 st26)
theorem arg5 {x : AV} (h : ArgOf Tryz.prog 5 x) : ∃ n : Nat, x = .int .u8 (n : Int) ∧ n < 256 := by
  obtain ⟨n, rfl, hn⟩ := fit_int (arg_one h sh5 st5)
  simp only [Lit.wf, Bool.and_eq_true, decide_eq_true_eq] at hn
  have hn1 : (0 : Int) ≤ n := hn.1
  have hn2 : n ≤ (255 : Int) := hn.2
  refine ⟨n.toNat, by rw [Int.toNat_of_nonneg (by omega)], by omega⟩
theorem arg60 {x : AV} (h : ArgOf Tryz.prog 60 x) : ∃ n : Nat, x = .int .u16 (n : Int) ∧ n < 65536 := by
  obtain ⟨n, rfl, hn⟩ := fit_int (arg_one h sh60 st60)
  simp only [Lit.wf, Bool.and_eq_true, decide_eq_true_eq] at hn
  have hn1 : (0 : Int) ≤ n := hn.1
  have hn2 : n ≤ (65535 : Int) := hn.2
  refine ⟨n.toNat, by rw [Int.toNat_of_nonneg (by omega)], by omega⟩
def eU (l : List Nat) : List (List AV) := l.map fun n : Nat => [AV.int .u16 (n : Int)]
theorem u16_list : ∀ es : List (List AV), (∀ e ∈ es, FitsL [.int .u16] e) → ∃ l : List Nat, es = eU l ∧ ∀ n ∈ l, n < 65536
  | [], _ => ⟨[], rfl, by simp⟩
  | e :: es, k => by
    obtain ⟨n, rfl, hn⟩ := fitL_int e (k e List.mem_cons_self)
    obtain ⟨l, rfl, hl⟩ := u16_list es (fun x hx => k x (List.mem_cons_of_mem _ hx))
    simp only [Lit.wf, Bool.and_eq_true, decide_eq_true_eq] at hn
    have hn1 : (0 : Int) ≤ n := hn.1
    have hn2 : n ≤ (65535 : Int) := hn.2
    refine ⟨n.toNat :: l, ?_, ?_⟩
    · show _ = [AV.int .u16 ((n.toNat : Nat) : Int)] :: _
      rw [Int.toNat_of_nonneg (by omega)]; rfl
    · intro m hm
      rcases List.mem_cons.1 hm with rfl | hm
      · omega
      · exact hl m hm
theorem arg111 {x : AV} (h : ArgOf Tryz.prog 111 x) : ∃ l : List Nat, x = .slice (eU l) ∧ ∀ n ∈ l, n < 65536 := by
  have := arg_one h sh111 st111
  cases this with
  | slice _ es hes => obtain ⟨l, rfl, hl⟩ := u16_list es hes; exact ⟨l, rfl, hl⟩
end Go.Lift
