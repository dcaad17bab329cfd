/- Part 23 of the proof: the tools and contracts. Conditions: none. -/
import Derived.Test.YthnfcdkiaihfcaaGreatP22
set_option linter.unusedSimpArgs false
set_option linter.unusedVariables false
namespace Go.Lift
open Go Go.Proofs
section
variable {P : Program} {H : AHeap} {env : Env} {K : Env → AHeap → Prop}
def gone (P : Program) (v : AV) (b : Bool) (d : Nat) (tag : Tag) (xs : List Opd) (us : List AOp) (t : ATr) (K : Env → AHeap → Prop) (env : Env) (H : AHeap) : Prop := match v with
  | .bool c => if c = b then aopV P tag (xs.map (ev env)) H (ContL P us t K env d) else ContL P us t K env d (.tup []) H
  | .tup [] => ContL P us t K env d (.tup []) H
  | _ => False
theorem l_oneg (d : Nat) (tag : Tag) (xs : List Opd) (tt : Nat) (b : Bool) (us : List AOp) (t : ATr) : atl P (.one ⟨some d, tag, xs, some (tt, b)⟩ us t) K env H = gone P (env tt) b d tag xs us t K env H := _root_.id rfl
theorem go_ff (d : Nat) (tag : Tag) (xs : List Opd) (us : List AOp) (t : ATr) : gone P (.bool false) false d tag xs us t K env H = aopV P tag (xs.map (ev env)) H (ContL P us t K env d) := _root_.id rfl
theorem go_tf (d : Nat) (tag : Tag) (xs : List Opd) (us : List AOp) (t : ATr) : gone P (.bool true) false d tag xs us t K env H = ContL P us t K env d (.tup []) H := _root_.id rfl
theorem pgo_here {fr' : Unit} {K : Env → Prop} {d : Nat} {f : FuncId} {xs : List AV} {rest : List (Bool × AOp)} {r : AV}
    (hp : ACalls P f xs H fun r' H' => r' = r ∧ H' = H) (h : apre P rest (upd env d r) H K) : pgo P true false d (.call f) xs rest K env H := ⟨r, hp, h⟩
end
theorem pad7_of {o pre : List Int} {n : Nat} (h1 : o.take pre.length = pre) (h2 : o.drop n = List.replicate (7 - n) 0) (hn : pre.length = n) : o = pad7 pre := by
  simp only [pad7, padTo, List.take_length]
  conv => lhs; rw [← List.take_append_drop n o]
  rw [h2, ← hn, h1]
section
variable {yv : AV} {full : List Course} {J E : List Course → (Nat → Prop) → AHeap → Prop}
theorem ownGo_c (h : House) (hv : HV h) (T : Taker Tryz.prog yv eSc full J E) (by_ bs bt bw bo : Nat) (h1 : by_ ≠ bs) (h2 : bt ≠ bs) (h3 : bw ≠ bs) (h4 : bo ≠ bs) :
    ∀ (k : Nat) (pre : List Int) (s : List Course) (F : Nat → Prop) (H : AHeap) (o hs : List Int), pre.length + k = h.table.pieces.length → o.length = 7 → o.take pre.length = pre → o.drop h.table.pieces.length = List.replicate (7 - h.table.pieces.length) 0 →
      hs.length = 6 → hs.drop h.touches.length = List.replicate (6 - h.touches.length) 0 →
      s ++ (enumW (whoseT h.table) k pre).flatMap (coursesOf h) <+: full → J s F H → ¬ F by_ → ¬ F bs → ¬ F bt → ¬ F bw → ¬ F bo → H by_ = some (.box [yv]) → H bs = some (.box ((o ++ hs).map i6)) →
      H bt = some (.box [.func (.func 154) [] [.elem (hCells h), .ptr by_ 0, .ptr bs 0, .ptr bt 0]]) → H bw = some (.box [eII (whoseT h.table)]) →
      H bo = some (.box [.func (.func 153) [] [.elem (hCells h), .ptr bs 0, .ptr bt 0, .ptr bw 0, .ptr bo 0]]) →
      ACalls Tryz.prog 153 [i6 pre.length, .elem (hCells h), .ptr bs 0, .ptr bt 0, .ptr bw 0, .ptr bo 0] H fun r H' => ∃ F' o' hs', Frame0 F H bs F' H' ∧ H' bs = some (.box (List.map i6 (o' ++ hs'))) ∧ o'.length = 7 ∧ o'.take pre.length = pre ∧ o'.drop h.table.pieces.length = List.replicate (7 - h.table.pieces.length) 0 ∧
        hs'.length = 6 ∧ hs'.drop h.touches.length = List.replicate (6 - h.touches.length) 0 ∧
        ((r = .bool true ∧ J (s ++ (enumW (whoseT h.table) k pre).flatMap (coursesOf h)) F' H') ∨ (r = .bool false ∧ ∃ l1 l2, (enumW (whoseT h.table) k pre).flatMap (coursesOf h) = l1 ++ l2 ∧ E (s ++ l1) F' H')) := by
  have hm6 := hv.ok.touches
  have hp7 := hv.ok.pcs
  intro k
  induction k with
  | zero =>
    intro pre s F H o hs hk ho htake hdrop hs6 hsd hfull hJ n1 n2 n3 n4 n5 hy hbs hbt hbw hbo
    refine fn_of hmix fc153 (by simp) ?_
    rw [ienv6]
    have hpl : pre.length = h.table.pieces.length := by omega
    have hop := pad7_of htake hdrop hpl
    simp only [go_sem, reduceIte, reduceCtorEq, Nat.reduceEqDiff, Nat.reduceBEq, Nat.reduceAdd, Nat.reduceMul, Nat.reduceLeDiff, ac153, hCells, hpl]
    refine (pieces_c h).go ?_
    simp only [go_sem, reduceIte, reduceCtorEq, Nat.reduceEqDiff, Nat.reduceBEq, Nat.reduceAdd, Nat.reduceMul, Nat.reduceLeDiff, show (h.table.pieces.length : Int) ≤ ((7 : Nat) : Int) by omega]
    have htk : (o ++ hs).take h.table.pieces.length = pre := by
      rw [List.take_append_of_le_length (by omega), ← hpl, htake]
    have hcall := borrow (x := eT h.table) (n := h.table.pieces.length) (cap := 7) (l := o ++ hs) (r := isTruthT h.table pre) hbs (by simp; omega) hp7 (by rw [htk]; exact proveTruth_c h.table pre hv.ok.sm (by unfold Sm; omega))
    refine pgo_here (fr' := ()) hcall ?_
    cases hT : isTruthT h.table pre
    · have hco : (enumW (whoseT h.table) 0 pre).flatMap (coursesOf h) = [] := by simp [enumW, coursesOf, hT]
      simp only [go_sem, reduceIte, reduceCtorEq, Nat.reduceEqDiff, Nat.reduceBEq, Nat.reduceAdd, Nat.reduceMul, Nat.reduceLeDiff, ↓l_oneg, go_tf]
      refine fin_ret' 7 (by simp [upd_at]) ?_
      simp only [upd_at, if_true]
      rw [hco]
      exact ⟨F, o, hs, Frame0.refl _ _ _, hbs, ho, by rw [← hpl]; exact htake, hdrop, hs6, hsd, .inl ⟨trivial, by simpa using hJ⟩⟩
    · have hco : (enumW (whoseT h.table) 0 pre).flatMap (coursesOf h) = (enumH h h.touches.length []).map fun hs => ⟨pre, hs⟩ := by simp [enumW, coursesOf, hT]
      rw [hco] at hfull
      simp only [go_sem, reduceIte, reduceCtorEq, Nat.reduceEqDiff, Nat.reduceBEq, Nat.reduceAdd, Nat.reduceMul, Nat.reduceLeDiff, ↓l_oneg, go_ff, hbt, take_f', List.getElem?_cons_zero, List.nil_append, List.cons_append]
      have hg := touchGo_c h hv T by_ bs bt h1 h2 pre (by rw [← hop]; exact ho) h.touches.length [] s F H hs (by simp) hs6 rfl hsd hfull hJ n1 n2 n3 hy (by rw [← hop]; exact hbs) hbt
      refine hg.mono ?_
      rintro r H' ⟨F', hs', hfr, hbs', hs6', _, hsd', hcase⟩
      have hrb : ∃ rb, r = .bool rb := by rcases hcase with ⟨rfl, _⟩ | ⟨rfl, _⟩ <;> exact ⟨_, rfl⟩
      obtain ⟨rb, rfl⟩ := hrb
      simp only [go_sem, reduceIte, reduceCtorEq, Nat.reduceEqDiff, Nat.reduceBEq, Nat.reduceAdd, Nat.reduceMul, Nat.reduceLeDiff]
      refine fin_ret' 7 (by simp [upd_at]) ?_
      simp only [upd_at, if_true]
      rw [hco]
      exact ⟨F', o, hs', hfr, by rw [hop]; exact hbs', ho, by rw [← hpl]; exact htake, hdrop, hs6', hsd', hcase⟩
  | succ k ih =>
    intro pre s F H o hs hk ho htake hdrop hs6 hsd hfull hJ n1 n2 n3 n4 n5 hy hbs hbt hbw hbo
    refine fn_of hmix fc153 (by simp) ?_
    rw [ienv6]
    have hpl : pre.length < h.table.pieces.length := by omega
    have hne : ¬ ((pre.length : Int) = (h.table.pieces.length : Int)) := by omega
    have hwlen : (whoseT h.table).length = h.table.pieces.length := by simp [whoseT]
    have hpw : pre.length < (whoseT h.table).length := by omega
    have hgp : (whoseT h.table).getD pre.length [] = (whoseT h.table)[pre.length] := by simp [hpw]
    obtain ⟨wl, hwl⟩ : ∃ wl, wl = (whoseT h.table)[pre.length] := ⟨_, rfl⟩
    have hwl5 : wl.length ≤ 5 := by
      have := whoIs_len h.table pre.length h.table.women.length
      have h5 := (checkTable_len hv.tab).1
      simp [hwl, whoseT]; omega
    have henum : enumW (whoseT h.table) (k + 1) pre = wl.flatMap fun n => enumW (whoseT h.table) k (pre ++ [n]) := by simp only [enumW, hgp, hwl]
    simp only [go_sem, reduceIte, reduceCtorEq, Nat.reduceEqDiff, Nat.reduceBEq, Nat.reduceAdd, Nat.reduceMul, Nat.reduceLeDiff, ac153, hCells]
    refine (pieces_c h).go ?_
    simp only [go_sem, reduceIte, reduceCtorEq, Nat.reduceEqDiff, Nat.reduceBEq, Nat.reduceAdd, Nat.reduceMul, Nat.reduceLeDiff, hne, hbw, take_f', List.getElem?_cons_zero, eII, map_get (f := fun x : List Int => [AV.slice (eI x)]) hpw, ← hwl]
    refine x_for wl.length (fun m env H' => ∃ F' o' hs', Frame0 F H bs F' H' ∧ H' bs = some (.box (List.map i6 (o' ++ hs'))) ∧ o'.length = 7 ∧ o'.take pre.length = pre ∧ o'.drop h.table.pieces.length = List.replicate (7 - h.table.pieces.length) 0 ∧ hs'.length = 6 ∧ hs'.drop h.touches.length = List.replicate (6 - h.touches.length) 0 ∧ J (s ++ ((wl.take m).flatMap fun n => enumW (whoseT h.table) k (pre ++ [n])).flatMap (coursesOf h)) F' H' ∧
        env 0 = i6 pre.length ∧ env 2 = .ptr bs 0 ∧ env 5 = .ptr bo 0 ∧ env 28 = .slice (eI wl) ∧ env 29 = i6 wl.length ∧ env 30 = i6 m ∧ env 44 = .any)
      ⟨F, o, hs, Frame0.refl _ _ _, hbs, ho, htake, hdrop, hs6, hsd, by simpa using hJ, by simp [upd_at], by simp [upd_at], by simp [upd_at], by simp [upd_at], by simp [upd_at], by simp [upd_at], by simp [upd_at]⟩ ?_
    rintro m env H1 hm ⟨F1, o1, hs1, hfr, hbs1, ho1, htake1, hdrop1, hs61, hsd1, hJ1, g0, g2, g5, g28, g29, g30, hN⟩
    have hy1 : H1 by_ = some (.box [yv]) := by rw [hfr.kept by_ n1 h1 ⟨_, hy⟩]; exact hy
    have hbt1 := (hfr.kept bt n3 h2 ⟨_, hbt⟩).trans hbt
    have hbw1 := (hfr.kept bw n4 h3 ⟨_, hbw⟩).trans hbw
    have hbo1 := (hfr.kept bo n5 h4 ⟨_, hbo⟩).trans hbo
    have m1 := hfr.out n1 ⟨_, hy⟩
    have m2 := hfr.out n2 ⟨_, hbs⟩
    have m3 := hfr.out n3 ⟨_, hbt⟩
    have m4 := hfr.out n4 ⟨_, hbw⟩
    have m5 := hfr.out n5 ⟨_, hbo⟩
    by_cases hlt : (m : Int) < (wl.length : Int)
    · have hlt' : m < wl.length := by omega
      simp only [go_sem, reduceIte, reduceCtorEq, Nat.reduceEqDiff, Nat.reduceBEq, Nat.reduceAdd, Nat.reduceMul, Nat.reduceLeDiff, g0, g2, g5, g28, g29, g30, hN, hlt, eI_get hlt', show (pre.length : Int) < ((7 : Nat) : Int) by omega, Nat.mul_one]
      rw [v_store]
      refine ⟨rfl, rfl, by simp [AV.cells, AV.isCell], _, hbs1, by simp [ho1]; omega, ?_⟩
      rw [show (AV.int .i64 wl[m]).cells = [i6 wl[m]] from rfl, iset _ _ _ (by simp [ho1]; omega)]
      have hset : (o1 ++ hs1).set pre.length wl[m] = o1.set pre.length wl[m] ++ hs1 := by
        rw [List.set_append_left _ _ (by omega)]
      rw [hset]
      simp only [go_sem, reduceIte, reduceCtorEq, Nat.reduceEqDiff, Nat.reduceBEq, Nat.reduceAdd, Nat.reduceMul, Nat.reduceLeDiff, g0, g2, g5, g28, g29, g30, hN, updH_ne _ _ h4, hbo1, wsucc (show pre.length < 4611686018427387904 by omega), List.nil_append, List.cons_append, take_f', List.getElem?_cons_zero]
      have hlen : (pre ++ [wl[m]]).length = pre.length + 1 := by simp
      have hJ2 : J (s ++ ((wl.take m).flatMap fun n => enumW (whoseT h.table) k (pre ++ [n])).flatMap (coursesOf h)) F1 (updH H1 bs (.box ((o1.set pre.length wl[m] ++ hs1).map i6))) :=
        T.stable _ _ _ _ hJ1 (fun x hx => by rw [updH_ne _ _ (fun e => m2 (by rw [← e]; exact hx))])
      have hcall := ih (pre ++ [wl[m]]) (s ++ ((wl.take m).flatMap fun n => enumW (whoseT h.table) k (pre ++ [n])).flatMap (coursesOf h)) F1 (updH H1 bs (.box ((o1.set pre.length wl[m] ++ hs1).map i6))) (o1.set pre.length wl[m]) hs1 (by rw [hlen]; omega) (by simp [ho1]) (by
          rw [hlen, List.take_add_one, List.take_set_of_le (Nat.le_refl _), htake1, List.getElem?_set_self (by omega)]; rfl)
        (by rw [List.drop_set_of_lt hpl]; exact hdrop1) hs61 hsd1 (by
          refine List.IsPrefix.trans ?_ hfull
          rw [List.append_assoc]
          refine List.prefix_append_right_inj _ |>.2 ?_
          rw [henum]
          conv => rhs; rw [← List.take_append_drop m wl, List.drop_eq_getElem_cons hlt']
          rw [List.flatMap_append, List.flatMap_cons, ← List.append_assoc, List.flatMap_append, List.flatMap_append]
          exact List.prefix_append _ _) hJ2 m1 m2 m3 m4 m5 (by rw [updH_ne _ _ h1]; exact hy1) (updH_same _ _ _) (by rw [updH_ne _ _ h2]; exact hbt1) (by rw [updH_ne _ _ h3]; exact hbw1) (by rw [updH_ne _ _ h4]; exact hbo1)
      rw [hlen] at hcall
      refine hcall.mono ?_
      rintro r H2 ⟨F2, o2, hs2, hfr2, hbs2, ho2, htake2, hdrop2, hs62, hsd2, hcase⟩
      have hfr12 : Frame0 F1 H1 bs F1 (updH H1 bs (.box ((o1.set pre.length wl[m] ++ hs1).map i6))) := ⟨fun x h => .inl h, fun x _ hx _ => updH_ne _ _ hx⟩
      have hfrA := (hfr.trans hfr12 ⟨_, hbs1⟩).trans hfr2 ⟨_, updH_same _ _ _⟩
      have htk : o2.take pre.length = pre := by
        have := congrArg (List.take pre.length) htake2
        rw [List.take_take, List.take_left', Nat.min_eq_left (by simp)] at this
        · exact this
        · rfl
      rcases hcase with ⟨rfl, hJ3⟩ | ⟨rfl, l1, l2, hl, hE3⟩
      · simp only [go_sem, reduceIte, reduceCtorEq, Nat.reduceEqDiff, Nat.reduceBEq, Nat.reduceAdd, Nat.reduceMul, Nat.reduceLeDiff, g0, g2, g5, g28, g29, g30, hN, wsucc (show m < 4611686018427387904 by omega), hlt']
        refine ⟨F2, o2, hs2, hfrA, hbs2, ho2, htk, hdrop2, hs62, hsd2, ?_⟩
        rw [List.take_add_one, List.getElem?_eq_getElem hlt', Option.toList_some, List.flatMap_append, List.flatMap_append, ← List.append_assoc]
        simpa using hJ3
      · simp only [go_sem, reduceIte, reduceCtorEq, Nat.reduceEqDiff, Nat.reduceBEq, Nat.reduceAdd, Nat.reduceMul, Nat.reduceLeDiff, g0, g2, g5, g28, g29, g30, hN]
        refine fin_ret' 7 (by simp [upd_at, hN]) ?_
        simp only [upd_at, if_true]
        refine ⟨F2, o2, hs2, hfrA, hbs2, ho2, htk, hdrop2, hs62, hsd2, .inr ⟨trivial, ((wl.take m).flatMap fun n => enumW (whoseT h.table) k (pre ++ [n])).flatMap (coursesOf h) ++ l1, l2 ++ ((wl.drop (m + 1)).flatMap fun n => enumW (whoseT h.table) k (pre ++ [n])).flatMap (coursesOf h), ?_, by rw [← List.append_assoc]; exact hE3⟩⟩
        rw [henum]
        conv => lhs; rw [← List.take_append_drop m wl, List.drop_eq_getElem_cons hlt']
        rw [List.flatMap_append, List.flatMap_cons, List.flatMap_append, List.flatMap_append, hl]
        simp only [List.append_assoc]
    · simp only [go_sem, reduceIte, reduceCtorEq, Nat.reduceEqDiff, Nat.reduceBEq, Nat.reduceAdd, Nat.reduceMul, Nat.reduceLeDiff, g0, g2, g5, g28, g29, g30, hN, hlt]
      have : m = wl.length := by omega
      subst this
      refine fin_ret' 7 (by simp [upd_at, hN]) ?_
      simp only [upd_at, if_true]
      refine ⟨F1, o1, hs1, hfr, hbs1, ho1, htake1, hdrop1, hs61, hsd1, .inl ⟨trivial, ?_⟩⟩
      rw [henum]
      rw [List.take_length] at hJ1
      exact hJ1
end
end Go.Lift

set_option linter.unusedSimpArgs false
set_option linter.unusedVariables false
namespace Go.Lift
open Go Go.Proofs
theorem c_func (f : Fn) (a b : List AV) : (AV.func f a b).cells = [.func f a b] := _root_.id rfl
theorem placeOne (x y : AV) : placeAt [x] 0 [y] = [y] := by simp [placeAt]
theorem scenes_c (h : House) : Pure Tryz.prog 126 [eH h] (.func (.func 152) [] [.elem (hCells h)]) := by
  intro H
  refine fn_of hmix fc126 (by simp) ?_
  rw [ienv1]
  simp only [go_sem, reduceIte, reduceCtorEq, Nat.reduceEqDiff, Nat.reduceBEq, Nat.reduceAdd, Nat.reduceMul, Nat.reduceLeDiff, ac126, eH]
  refine v_box _ rfl fun b hb => ?_
  simp only [go_sem, reduceIte, reduceCtorEq, Nat.reduceEqDiff, Nat.reduceBEq, Nat.reduceAdd, Nat.reduceMul, Nat.reduceLeDiff]
  refine fin_ret 2 (by simp [upd_at]) ⟨_, H, ?_, rfl, rfl⟩
  simp only [upd_at, if_true]
  exact settle_func (updH_same _ _ _) ((Ext.refl H).new hb _) hb

theorem scenesGo_c (h : House) (hv : HV h) {fn : Fn} {ff fc : List AV} {J E : List Course → (Nat → Prop) → AHeap → Prop} (T : Taker Tryz.prog (.func fn ff fc) eSc (allC h) J E) (F : Nat → Prop) (H : AHeap) (hJ : J [] F H) :
    ACalls Tryz.prog 152 [.func fn ff fc, .elem (hCells h)] H fun r H' => r = .tup [] ∧ ∃ F', (∀ x, F' x → F x ∨ H x = none) ∧ (∀ x, ¬ F x → (∃ o, H x = some o) → H' x = H x) ∧
      (J (allC h) F' H' ∨ ∃ l1 l2, allC h = l1 ++ l2 ∧ E l1 F' H') := by
  have hm6 := hv.ok.touches
  have hp7 := hv.ok.pcs
  refine fn_of hmix fc152 (by simp) ?_
  rw [ienv2]
  simp only [go_sem, reduceIte, reduceCtorEq, Nat.reduceEqDiff, Nat.reduceBEq, Nat.reduceAdd, Nat.reduceMul, Nat.reduceLeDiff, ac152, hCells]
  refine v_box _ rfl fun b1 hb1 => ?_
  simp only [go_sem, reduceIte, reduceCtorEq, Nat.reduceEqDiff, Nat.reduceBEq, Nat.reduceAdd, Nat.reduceMul, Nat.reduceLeDiff]
  refine v_alloc fun b2 hb2 => ?_
  simp only [go_sem, reduceIte, reduceCtorEq, Nat.reduceEqDiff, Nat.reduceBEq, Nat.reduceAdd, Nat.reduceMul, Nat.reduceLeDiff]
  refine (whose_c h.table hv.ok.sm).go ?_
  simp only [go_sem, reduceIte, reduceCtorEq, Nat.reduceEqDiff, Nat.reduceBEq, Nat.reduceAdd, Nat.reduceMul, Nat.reduceLeDiff, whoseR, hv.ask, List.getElem?_cons_zero, List.getElem?_cons_succ]
  refine v_alloc fun b3 hb3 => ?_
  simp only [go_sem, reduceIte, reduceCtorEq, Nat.reduceEqDiff, Nat.reduceBEq, Nat.reduceAdd, Nat.reduceMul, Nat.reduceLeDiff, List.getElem?_cons_zero, List.getElem?_cons_succ]
  rw [v_store]
  refine ⟨rfl, rfl, by simp [AV.cells, AV.isCell, eII], _, updH_same _ _ _, by simp, ?_⟩
  rw [show (eII (whoseT h.table)).cells = [eII (whoseT h.table)] from rfl, placeAll [.emp] [eII (whoseT h.table)] rfl]
  simp only [go_sem, reduceIte, reduceCtorEq, Nat.reduceEqDiff, Nat.reduceBEq, Nat.reduceAdd, Nat.reduceMul, Nat.reduceLeDiff, List.getElem?_cons_zero, List.getElem?_cons_succ]
  refine v_alloc fun b4 hb4 => ?_
  simp only [go_sem, reduceIte, reduceCtorEq, Nat.reduceEqDiff, Nat.reduceBEq, Nat.reduceAdd, Nat.reduceMul, Nat.reduceLeDiff]
  refine v_alloc fun b5 hb5 => ?_
  simp only [go_sem, reduceIte, reduceCtorEq, Nat.reduceEqDiff, Nat.reduceBEq, Nat.reduceAdd, Nat.reduceMul, Nat.reduceLeDiff]
  rw [v_store]
  have n12 : b1 ≠ b2 := fun h => by subst h; simp at hb2
  have n13 : b1 ≠ b3 := fun h => by subst h; simp [updH, n12] at hb3
  have n23 : b2 ≠ b3 := fun h => by subst h; simp at hb3
  have n14 : b1 ≠ b4 := fun h => by subst h; simp [updH, n12, n13] at hb4
  have n24 : b2 ≠ b4 := fun h => by subst h; simp [updH, n23] at hb4
  have n34 : b3 ≠ b4 := fun h => by subst h; simp at hb4
  have n15 : b1 ≠ b5 := fun h => by subst h; simp [updH, n12, n13, n14] at hb5
  have n25 : b2 ≠ b5 := fun h => by subst h; simp [updH, n23, n24] at hb5
  have n35 : b3 ≠ b5 := fun h => by subst h; simp [updH, n34] at hb5
  have n45 : b4 ≠ b5 := fun h => by subst h; simp at hb5
  refine ⟨rfl, rfl, by simp [AV.cells, AV.isCell], [.nilf], by rw [updH_ne _ _ n45]; exact updH_same _ _ _, by simp, ?_⟩
  simp only [c_func, placeOne]
  simp only [go_sem, reduceIte, reduceCtorEq, Nat.reduceEqDiff, Nat.reduceBEq, Nat.reduceAdd, Nat.reduceMul, Nat.reduceLeDiff]
  rw [v_store]
  refine ⟨rfl, rfl, by simp [AV.cells, AV.isCell], [.nilf], by rw [updH_ne _ _ n45.symm]; exact updH_same _ _ _, by simp, ?_⟩
  simp only [c_func, placeOne]
  generalize hHH : updH _ b5 (.box [.func (.func 154) [] [_, .ptr b1 0, .ptr b2 0, .ptr b5 0]]) = HH
  have B5 : HH b5 = some (.box [.func (.func 154) [] [.elem (hCells h), .ptr b1 0, .ptr b2 0, .ptr b5 0]]) := by subst hHH; exact updH_same _ _ _
  have B4 : HH b4 = some (.box [.func (.func 153) [] [.elem (hCells h), .ptr b2 0, .ptr b5 0, .ptr b3 0, .ptr b4 0]]) := by subst hHH; rw [updH_ne _ _ n45]; exact updH_same _ _ _
  have B1 : HH b1 = some (.box [.func fn ff fc]) := by subst hHH; simp [updH, n12, n13, n14, n15, AV.cells]
  have B2 : HH b2 = some (.box ((List.replicate 7 (0 : Int) ++ List.replicate 6 0).map i6)) := by subst hHH; simp [updH, n23, n24, n25]
  have B3 : HH b3 = some (.box [eII (whoseT h.table)]) := by subst hHH; simp [updH, n34, n35]
  have e1 : Ext H (updH H b1 (.box (AV.func fn ff fc).cells)) := (Ext.refl H).new hb1 _
  have z2 : H b2 = none := e1.isNone hb2
  have e2 := e1.new hb2 (.box [.int .i64 0, .int .i64 0, .int .i64 0, .int .i64 0, .int .i64 0, .int .i64 0, .int .i64 0, .int .i64 0, .int .i64 0, .int .i64 0, .int .i64 0, .int .i64 0, .int .i64 0])
  have z3 : H b3 = none := e2.isNone hb3
  have e3 := (e2.new hb3 (.box [.emp])).upd z3 (.box [eII (whoseT h.table)])
  have z4 : H b4 = none := e3.isNone hb4
  have e4 := e3.new hb4 (.box [.nilf])
  have z5 : H b5 = none := e4.isNone hb5
  have hother : ∀ x, x ≠ b1 → x ≠ b2 → x ≠ b3 → x ≠ b4 → x ≠ b5 → HH x = H x := fun x h1 h2 h3 h4 h5 => by subst hHH; simp [updH, h1, h2, h3, h4, h5]
  clear hHH
  have hdom := T.dom _ _ _ hJ
  have hF : ∀ x, H x = none → ¬ F x := fun x hx h => by obtain ⟨o, ho⟩ := hdom x h; rw [ho] at hx; cases hx
  have hJ' : J [] F HH := T.stable _ _ _ _ hJ (fun x hx => hother x (fun h => hF _ hb1 (h ▸ hx)) (fun h => hF _ z2 (h ▸ hx)) (fun h => hF _ z3 (h ▸ hx)) (fun h => hF _ z4 (h ▸ hx)) (fun h => hF _ z5 (h ▸ hx)))
  simp only [go_sem, reduceIte, reduceCtorEq, Nat.reduceEqDiff, Nat.reduceBEq, Nat.reduceAdd, Nat.reduceMul, Nat.reduceLeDiff, B4, take_f', List.getElem?_cons_zero, List.nil_append, List.cons_append]
  have hc := ownGo_c h hv T b1 b2 b5 b3 b4 n12 n25.symm n23.symm n24.symm h.table.pieces.length [] [] F HH (List.replicate 7 0) (List.replicate 6 0) (by simp) (by simp) rfl (by rw [List.drop_replicate]) (by simp) (by rw [List.drop_replicate]) (by simp [allC]) hJ' (hF _ hb1) (hF _ z2) (hF _ z5) (hF _ z3) (hF _ z4) B1 B2 B5 B3 B4
  refine hc.mono ?_
  rintro r H2 ⟨F2, o2, hs2, hfr, _, _, _, _, _, _, hcase⟩
  simp only [go_sem, reduceIte, reduceCtorEq, Nat.reduceEqDiff, Nat.reduceBEq, Nat.reduceAdd, Nat.reduceMul, Nat.reduceLeDiff]
  refine fin_none (by simp [upd_at]) ⟨rfl, F2, fun x hx => ?_, fun x hx hh => ?_, ?_⟩
  · rcases hfr.foot x hx with h | h
    · exact .inl h
    · right
      by_cases h1 : x = b1
      · subst h1; exact hb1
      by_cases h2 : x = b2
      · subst h2; exact z2
      by_cases h3 : x = b3
      · subst h3; exact z3
      by_cases h4 : x = b4
      · subst h4; exact z4
      by_cases h5 : x = b5
      · subst h5; exact z5
      rw [← hother x h1 h2 h3 h4 h5]; exact h
  · obtain ⟨o, ho⟩ := hh
    have hne : ∀ y, H y = none → x ≠ y := fun y hy h => by rw [h, hy] at ho; cases ho
    have he := hother x (hne _ hb1) (hne _ z2) (hne _ z3) (hne _ z4) (hne _ z5)
    rw [hfr.kept x hx (hne _ z2) ⟨o, by rw [he]; exact ho⟩, he]
  · rcases hcase with ⟨_, h⟩ | ⟨_, l1, l2, hl, h⟩
    · exact .inl (by simpa [allC] using h)
    · exact .inr ⟨l1, l2, by simpa [allC] using hl, by simpa using h⟩
end Go.Lift

set_option linter.unusedSimpArgs false
set_option linter.unusedVariables false
namespace Go.Lift
open Go Go.Proofs
/-- The product of so many numbers, from one on. -/
def prodL (f : Nat → Nat) (a : Nat) : Nat → Nat
  | 0 => 1
  | k + 1 => f a * prodL f (a + 1) k
theorem prodL_snoc (f : Nat → Nat) : ∀ (k a : Nat), prodL f a (k + 1) = prodL f a k * f (a + k)
  | 0, a => by simp [prodL]
  | k + 1, a => by
    rw [prodL, prodL_snoc f k (a + 1), prodL, Nat.mul_assoc]
    congr 3; omega
theorem prodL_mono {f g : Nat → Nat} : ∀ (k a : Nat), (∀ i, a ≤ i → i < a + k → f i ≤ g i) → prodL f a k ≤ prodL g a k
  | 0, a, _ => Nat.le_refl _
  | k + 1, a, h => by
    rw [prodL, prodL]
    exact Nat.mul_le_mul (h a (by omega) (by omega)) (prodL_mono k (a + 1) fun i h1 h2 => h i (by omega) (by omega))
theorem sum_const {α : Type} (l : List α) (f : α → Nat) (c : Nat) (h : ∀ x ∈ l, f x = c) : (l.map f).sum = l.length * c := by
  induction l with
  | nil => simp
  | cons x l ih => rw [List.map_cons, List.sum_cons, ih (fun y hy => h y (List.mem_cons_of_mem _ hy)), h x (List.mem_cons_self), List.length_cons, Nat.add_mul]; omega
theorem enumW_len (wh : List (List Int)) : ∀ (k : Nat) (pre : List Int), (enumW wh k pre).length = prodL (fun i => (wh.getD i []).length) pre.length k
  | 0, pre => by simp [enumW, prodL]
  | k + 1, pre => by
    rw [enumW, List.length_flatMap, prodL, sum_const _ _ (prodL (fun i => (wh.getD i []).length) (pre.length + 1) k)]
    intro w _
    rw [enumW_len wh k, List.length_append, List.length_singleton]
def hourN (h : House) (i : Nat) : Nat := ((h.touches.getD i default).hi - (h.touches.getD i default).lo + 1).toNat
theorem enumH_len (h : House) : ∀ (k : Nat) (pre : List Int), (enumH h k pre).length = prodL (hourN h) pre.length k
  | 0, pre => by simp [enumH, prodL]
  | k + 1, pre => by
    rw [enumH, List.length_flatMap, prodL, sum_const _ _ (prodL (hourN h) (pre.length + 1) k)]
    · simp [hourN]
    intro w _
    rw [enumH_len h k, List.length_append, List.length_singleton]
def womN (t : Table) (i : Nat) : Nat := (womenOf t.women (t.pieces.getD i default).marks).length
theorem capmul (a b : Nat) (hb : 1 ≤ b) : (if (2001 : Int) < ((min 2001 a : Nat) : Int) * (b : Int) then 2001 else ((min 2001 a : Nat) : Int) * (b : Int)) = ((min 2001 (a * b) : Nat) : Int) := by
  rcases Nat.lt_or_ge 2001 a with h | h
  · rw [Nat.min_eq_left (by omega)]
    have h1 : 2001 ≤ a * b := Nat.le_trans (by omega) (Nat.le_mul_of_pos_right a hb)
    have h2 : (2001 : Int) ≤ ((2001 : Nat) : Int) * (b : Int) := by omega
    rw [Nat.min_eq_left h1]
    split <;> omega
  · rw [Nat.min_eq_right h]
    have h1 : (a : Int) * (b : Int) = ((a * b : Nat) : Int) := by simp
    rw [h1]
    split <;> omega
theorem manyUpto_eq (t : Table) (h : ∀ i, i < t.pieces.length → 1 ≤ womN t i) : ∀ j, j ≤ t.pieces.length → manyUpto t j = ((min 2001 (prodL (womN t) 0 j) : Nat) : Int)
  | 0, _ => by simp [manyUpto, prodL]
  | j + 1, hj => by
    rw [manyUpto, manyUpto_eq t h j (by omega), prodL_snoc, Nat.zero_add]
    exact capmul _ _ (h j (by omega))
theorem timesUpto_eq (h : House) (a : Nat) (ht : ∀ i, i < h.touches.length → 1 ≤ hourN h i) : ∀ j, j ≤ h.touches.length → timesUpto h ((min 2001 a : Nat) : Int) j = ((min 2001 (a * prodL (hourN h) 0 j) : Nat) : Int)
  | 0, _ => by simp [timesUpto, prodL]
  | j + 1, hj => by
    rw [timesUpto, timesUpto_eq h a ht j (by omega), prodL_snoc, Nat.zero_add, ← Nat.mul_assoc]
    have h1 := ht j (by omega)
    have h2 : (h.touches.getD j default).hi - (h.touches.getD j default).lo + 1 = ((hourN h j : Nat) : Int) := by unfold hourN at h1 ⊢; omega
    rw [h2]
    exact capmul _ _ h1
theorem womN_pos {t : Table} (hc : checkTable t = 0) : ∀ i, i < t.pieces.length → 1 ≤ womN t i := fun i hi => by
  unfold checkTable at hc
  split at hc
  · cases hc
  · split at hc
    · cases hc
    · rename_i h1
      simp only [not_or, Bool.not_eq_false] at h1
      have := List.all_eq_true.1 h1.2.2 _ (List.getElem_mem hi)
      simp only [pieceOK, Bool.and_eq_true, decide_eq_true_eq] at this
      have hg : t.pieces.getD i default = t.pieces[i] := by simp [hi]
      rw [womN, hg]; exact this.2
theorem prodO_le {t : Table} (hc : checkTable t = 0) : prodL (womN t) 0 t.pieces.length ≤ 2000 := by
  have h1 := manyUpto_eq t (womN_pos hc) t.pieces.length (Nat.le_refl _)
  unfold checkTable at hc
  split at hc
  · cases hc
  · split at hc
    · cases hc
    · split at hc
      · cases hc
      · omega
theorem hourN_pos {h : House} (hv : HV h) : ∀ i, i < h.touches.length → 1 ≤ hourN h i := fun i hi => by
  have := hv.tim _ (List.getElem_mem hi)
  have hg : h.touches.getD i default = h.touches[i] := by simp [hi]
  rw [hourN, hg]; omega
theorem manyH_eq {h : House} (hv : HV h) : manyH h = ((min 2001 (prodL (womN h.table) 0 h.table.pieces.length * prodL (hourN h) 0 h.touches.length) : Nat) : Int) := by
  rw [manyH, manyUpto_eq h.table (womN_pos hv.tab) _ (Nat.le_refl _), timesUpto_eq h _ (hourN_pos hv) _ (Nat.le_refl _)]
theorem whoIs_sub {t : Table} (hp : t.pieces.length ≤ 7) {i : Nat} (hi : i < t.pieces.length) : ∀ k ∈ whoIs t i t.women.length, k ∈ womenOf t.women (t.pieces.getD i default).marks := by
  intro k hk
  simp only [whoIs, List.mem_map, List.mem_filter, List.any_eq_true, decide_eq_true_eq] at hk
  obtain ⟨m, ⟨_, q, hq, hqi⟩, rfl⟩ := hk
  obtain ⟨o, ho, rfl, _⟩ := (truthsUpto_mem t _ q).1 hq
  obtain ⟨h1, h2⟩ := agg_ok_owners t o ((mem_allO t o).1 ho)
  rw [pad7_get o i (by omega)] at hqi
  have := h2 i hi
  rw [hqi] at this; exact this
theorem whoIs_le {t : Table} (hp : t.pieces.length ≤ 7) {i : Nat} (hi : i < t.pieces.length) : (whoIs t i t.women.length).length ≤ womN t i := by
  simp only [whoIs, womN, womenOf, womenUpto, List.length_map, ← List.countP_eq_length_filter]
  refine List.countP_mono_left fun k hk hp' => ?_
  have h1 := whoIs_sub hp hi (Int.ofNat k) (by
    simp only [whoIs, List.mem_map, List.mem_filter]
    exact ⟨k, ⟨hk, hp'⟩, rfl⟩)
  simp only [womenOf, womenUpto, List.mem_map, List.mem_filter] at h1
  obtain ⟨k', ⟨_, h2⟩, h3⟩ := h1
  have : k' = k := Int.ofNat.inj h3
  subst this; exact h2
theorem allC_len {h : House} (hv : HV h) : (allC h).length ≤ 2000 := by
  have hm := hv.many
  have h1 : (allC h).length ≤ (enumW (whoseT h.table) h.table.pieces.length []).length * prodL (hourN h) 0 h.touches.length := by
    rw [allC, List.length_flatMap]
    generalize enumW (whoseT h.table) h.table.pieces.length [] = l
    induction l with
    | nil => simp
    | cons o l ih =>
      rw [List.map_cons, List.sum_cons, List.length_cons, Nat.add_mul, Nat.one_mul]
      have : (coursesOf h o).length ≤ prodL (hourN h) 0 h.touches.length := by
        unfold coursesOf
        split
        · rw [List.length_map, enumH_len]; exact Nat.le_refl _
        · simp
      omega
  rw [enumW_len] at h1
  have h2 : prodL (fun i => ((whoseT h.table).getD i []).length) 0 h.table.pieces.length ≤ prodL (womN h.table) 0 h.table.pieces.length := by
    refine prodL_mono _ _ fun i _ hi => ?_
    have hi' : i < h.table.pieces.length := by omega
    have : (whoseT h.table).getD i [] = whoIs h.table i h.table.women.length := by simp [whoseT, hi']
    rw [this]; exact whoIs_le hv.ok.pcs hi'
  have h3 := Nat.mul_le_mul_right (prodL (hourN h) 0 h.touches.length) h2
  rw [manyH_eq hv] at hm
  have : ([] : List Int).length = 0 := rfl
  rw [this] at h1
  omega
end Go.Lift

set_option linter.unusedSimpArgs false
set_option linter.unusedVariables false
namespace Go.Lift
open Go Go.Proofs
theorem ACalls.weaken {P : Program} {f : FuncId} {xs ys : List AV} {H : AHeap} {R : AV → AHeap → Prop} (hl : xs.length = ys.length) (h : ∀ (i : Nat) (x y : AV), xs[i]? = some x → ys[i]? = some y → ∀ w v, Rep H w v x → Rep H w v y) (hc : ACalls P f ys H R) : ACalls P f xs H R := by
  refine ⟨hc.1, fun w vs hH hv => hc.2 w vs hH ⟨by rw [hv.1, hl], fun i y hy => ?_⟩⟩
  have hi : i < ys.length := by
    rcases Nat.lt_or_ge i ys.length with h | h
    · exact h
    · rw [List.getElem?_eq_none h] at hy; cases hy
  have hx : xs[i]? = some xs[i] := by simp [show i < xs.length by omega]
  exact h i _ y hx hy w _ (hv.2 i _ hx)
theorem Pure.emp1 {P : Program} {f : FuncId} {a r : AV} (hp : Pure P f [a, .slice []] r) : Pure P f [a, .emp] r := fun H => ACalls.weaken (xs := [a, .emp]) (ys := [a, .slice []]) rfl (hc := hp H) fun i x y hx hy w v hr => by
  match i, hx, hy with
  | 0, hx, hy => cases hx; cases hy; exact hr
  | 1, hx, hy => cases hx; cases hy; exact Rep.weaken_emp hr
theorem Pure.emp2 {P : Program} {f : FuncId} {a b r : AV} (hp : Pure P f [a, b, .slice []] r) : Pure P f [a, b, .emp] r := fun H => ACalls.weaken (xs := [a, b, .emp]) (ys := [a, b, .slice []]) rfl (hc := hp H) fun i x y hx hy w v hr => by
  match i, hx, hy with
  | 0, hx, hy => cases hx; cases hy; exact hr
  | 1, hx, hy => cases hx; cases hy; exact hr
  | 2, hx, hy => cases hx; cases hy; exact Rep.weaken_emp hr

def enumG (f : Nat → List Int) : Nat → List Int → List (List Int)
  | 0, pre => [pre]
  | k + 1, pre => (f pre.length).flatMap fun w => enumG f k (pre ++ [w])
theorem mem_enumG (f : Nat → List Int) : ∀ (k : Nat) (pre o : List Int), o ∈ enumG f k pre ↔ ∃ suf, o = pre ++ suf ∧ suf.length = k ∧ ∀ i, i < k → suf.getD i 0 ∈ f (pre.length + i)
  | 0, pre, o => by
    simp only [enumG, List.mem_singleton]
    constructor
    · rintro rfl; exact ⟨[], by simp, rfl, fun i h => by omega⟩
    · rintro ⟨suf, rfl, h, _⟩
      rw [List.length_eq_zero_iff.1 h]; simp
  | k + 1, pre, o => by
    simp only [enumG, List.mem_flatMap]
    constructor
    · rintro ⟨w, hw, ho⟩
      obtain ⟨suf, rfl, hl, hi⟩ := (mem_enumG f k _ o).1 ho
      refine ⟨w :: suf, by simp, by simp [hl], fun i h => ?_⟩
      cases i with
      | zero => simpa using hw
      | succ i =>
        have := hi i (by omega)
        simp only [List.length_append, List.length_singleton] at this
        rw [show pre.length + (i + 1) = pre.length + 1 + i by omega]
        simpa using this
    · rintro ⟨suf, rfl, hl, hi⟩
      cases suf with
      | nil => simp at hl
      | cons w suf =>
        refine ⟨w, by simpa using hi 0 (by omega), (mem_enumG f k _ _).2 ⟨suf, by simp, by simpa using hl, fun i h => ?_⟩⟩
        have := hi (i + 1) (by omega)
        simp only [List.length_append, List.length_singleton]
        rw [show pre.length + 1 + i = pre.length + (i + 1) by omega]
        simpa using this
theorem enumW_eq (wh : List (List Int)) : ∀ (k : Nat) (pre : List Int), enumW wh k pre = enumG (fun i => wh.getD i []) k pre
  | 0, _ => rfl
  | k + 1, pre => by simp only [enumW, enumG, enumW_eq wh k]
def hoursAt (h : House) (i : Nat) : List Int := (List.range (hourN h i)).map fun j : Nat => (h.touches.getD i default).lo + (j : Int)
theorem enumH_eq (h : House) : ∀ (k : Nat) (pre : List Int), enumH h k pre = enumG (hoursAt h) k pre
  | 0, _ => rfl
  | k + 1, pre => by simp only [enumH, enumG, enumH_eq h k]; rfl
theorem enumO_eq (t : Table) : ∀ (k : Nat) (pre : List Int), enumO t k pre = enumG (fun i => womenOf t.women (t.pieces.getD i default).marks) k pre
  | 0, _ => rfl
  | k + 1, pre => by simp only [enumO, enumG, enumO_eq t k]
theorem mem_hoursAt (h : House) (i : Nat) (n : Int) : n ∈ hoursAt h i ↔ (h.touches.getD i default).lo ≤ n ∧ n ≤ (h.touches.getD i default).hi := by
  simp only [hoursAt, hourN, List.mem_map, List.mem_range]
  constructor
  · rintro ⟨j, h1, rfl⟩; omega
  · rintro ⟨h1, h2⟩; exact ⟨(n - (h.touches.getD i default).lo).toNat, by omega, by omega⟩
theorem mem_enumH (h : House) (hs : List Int) : hs ∈ enumH h h.touches.length [] ↔ hoursOK h hs = true := by
  rw [enumH_eq, mem_enumG]
  simp only [hoursOK, Bool.and_eq_true, decide_eq_true_eq, List.all_eq_true, List.mem_range, mem_hoursAt, List.length_nil, Nat.zero_add, List.nil_append]
  constructor
  · rintro ⟨suf, rfl, h1, h2⟩; exact ⟨h1, fun i hi => h2 i (by omega)⟩
  · rintro ⟨h1, h2⟩; exact ⟨hs, rfl, h1, fun i hi => h2 i (by omega)⟩
theorem isTruthT_iff {t : Table} (hc : checkTable t = 0) (o : List Int) : isTruthT t o = true ↔ o ∈ allO t ∧ ((wrongOf t (pad7 o)).length : Int) ≤ t.wrong := by
  simp only [isTruthT, hc, mem_allO, Bool.and_eq_true, decide_eq_true_eq, true_and]; rfl
theorem truth_whose {t : Table} (hc : checkTable t = 0) {o : List Int} (ho : isTruthT t o = true) : o ∈ enumW (whoseT t) t.pieces.length [] := by
  obtain ⟨h1, h2⟩ := (isTruthT_iff hc o).1 ho
  obtain ⟨h3, h4, h5⟩ := allO_owner (checkTable_len hc).2 h1
  rw [enumW_eq, mem_enumG]
  refine ⟨o, rfl, h3, fun i hi => ?_⟩
  have : (whoseT t).getD (([] : List Int).length + i) [] = whoIs t i t.women.length := by simp [whoseT, hi]
  simp only [this]
  obtain ⟨w, hw, hwl⟩ := h5 i hi
  simp only [whoIs, List.mem_map, List.mem_filter, List.mem_range, List.any_eq_true, decide_eq_true_eq]
  refine ⟨w, ⟨hwl, pad7 o, (truthsUpto_mem t _ _).2 ⟨o, h1, rfl, h2⟩, hw⟩, ?_⟩
  rw [← pad7_get o i (by omega), hw]; rfl
theorem mem_allC {h : House} (hc : checkTable h.table = 0) (c : Course) : c ∈ allC h ↔ courseOK h c = true := by
  simp only [allC, List.mem_flatMap, coursesOf, courseOK, Bool.and_eq_true]
  constructor
  · rintro ⟨o, _, hco⟩
    split at hco
    · rename_i ht
      rw [List.mem_map] at hco
      obtain ⟨hs, h1, rfl⟩ := hco
      exact ⟨ht, (mem_enumH h hs).1 h1⟩
    · cases hco
  · rintro ⟨h1, h2⟩
    refine ⟨c.owners, truth_whose hc h1, ?_⟩
    rw [if_pos h1, List.mem_map]
    exact ⟨c.hours, (mem_enumH h _).2 h2, rfl⟩
theorem courseOK_len {h : House} {c : Course} (hc : courseOK h c = true) : c.owners.length = h.table.pieces.length ∧ c.hours.length = h.touches.length := by
  simp only [courseOK, hoursOK, Bool.and_eq_true, decide_eq_true_eq] at hc
  exact ⟨isTruthT_len hc.1, hc.2.1⟩
theorem pad6_len (l : List Int) (h : l.length ≤ 6) : (pad6 l).length = 6 := by simp [pad6]; omega

/-- What carries a sickness at last in a course, with more boilings; the truths without some signs. -/
def lastOf (h : House) (c : Course) (more : List Boiling) : List Bool := playOf h (pad7 c.owners) (pad6 c.hours) ((h.boiled ++ more).map bKey)
theorem lastOf_len (h : House) (c : Course) (more : List Boiling) : (lastOf h c more).length = 10 := playOf_len _ _ _ _
def isTrue (h : House) (out : List Int) (c : Course) : Bool := rightOK h (lastOf h c []) out
def truH (h : House) (out : List Int) : List Course := (allC h).filter (isTrue h out)
def eKn (h : House) (c : Course) : List AV := (pad7 c.owners ++ pad6 c.hours).map i6 ++ (lastOf h c []).map .bool
theorem bc76 (zs a b : List AV) (hz : zs.length = 23) (ha : a.length = 13) (hb : b.length = 10) : buildCells zs [(0, 13), (13, 10)] [.agg a, .agg b] = some (a ++ b) := by
  have h1 : placeAt zs 0 a = a ++ zs.drop 13 := by simp [placeAt, ha]
  have h2 : placeAt (a ++ zs.drop 13) 13 b = a ++ b := by
    simp only [placeAt, hb]
    rw [List.take_append_of_le_length (by omega), List.take_of_length_le (by omega), List.drop_of_length_le (by simp [ha, hz]), List.append_nil]
  simp only [buildCells, AV.ok, AV.cells, ha, hb, hz, h1, h2]
  simp [ha, hz]
end Go.Lift

set_option linter.unusedSimpArgs false
set_option linter.unusedVariables false
namespace Go.Lift
open Go Go.Proofs
structure JB (h : House) (ga gb : Code) (env0 : Env) (r l b2 b7 b8 bw : Nat) (s : List Course) (F : Nat → Prop) (H : AHeap) : Prop where
  dom : ∀ x, F x → ∃ o, H x = some o
  fl : F l
  fr : F r
  f2 : F b2
  f7 : F b7
  f8 : F b8
  fw : F bw
  hl : H l = some (.loop .ready none 52 env0 #[25] ga gb r)
  hr : H r = some .deferd
  h2 : H b2 = some (.box [.slice (h.table.women.map eW), .slice (h.table.pieces.map eP), i6 h.table.wrong, .slice (eI h.sick), i6 h.others, i6 h.last, .slice (h.touches.map eTo), .slice (h.boiled.map eB), .slice (h.signs.map eS)])
  h7 : H b7 = some (.box [.ptr bw 0])
  h8 : H b8 = some (.box [.amap (bMap h.boiled)])
  rest : ∃ v, H bw = some (.box [.slice (h.table.women.map eW), .slice (h.table.pieces.map eP), i6 h.table.wrong, .slice (eI h.sick), i6 h.others, i6 h.last, .slice (h.touches.map eTo), .slice (h.boiled.map eB), .slice (h.signs.map eS), v]) ∧ Grown 23 (fun _ => none) H v ((s.filter (isTrue h [])).map (eKn h)) ∧ (∀ b cap es', v = .grow b cap es' → F b)

theorem eKn_len (h : House) {c : Course} (h1 : c.owners.length ≤ 7) (h2 : c.hours.length ≤ 6) : (eKn h c).length = 23 := by
  simp [eKn, pad7_len _ h1, pad6_len _ h2, lastOf_len]
theorem eKn_cell (h : House) (c : Course) : ∀ x ∈ eKn h c, AV.isCell x = true := by
  intro x hx
  simp only [eKn, List.mem_append, List.mem_map] at hx
  rcases hx with ⟨n, _, rfl⟩ | ⟨b, _, rfl⟩ <;> rfl

theorem askH_taker (h : House) (hv : HV h) (env0 : Env) (r l b2 b7 b8 bw : Nat) (g2 : env0 2 = .ptr b2 0) (g7 : env0 7 = .ptr b7 0) (g8 : env0 8 = .ptr b8 0) :
    Taker Tryz.prog (.func (.yield l) [] []) eSc (allC h) (JB h (rangeF Tryz.f76).1 (rangeF Tryz.f76).2 env0 r l b2 b7 b8 bw) (fun _ _ _ => False) where
  dom := fun s F H J => J.dom
  edom := fun _ _ _ h => h.elim
  stable := fun s F H H' J hh => by
    obtain ⟨v, k1, k2, k3⟩ := J.rest
    exact ⟨fun x hx => by rw [hh x hx]; exact J.dom x hx, J.fl, J.fr, J.f2, J.f7, J.f8, J.fw, (hh _ J.fl).trans J.hl, (hh _ J.fr).trans J.hr, (hh _ J.f2).trans J.h2, (hh _ J.f7).trans J.h7, (hh _ J.f8).trans J.h8, v, (hh _ J.fw).trans k1,
      (by rcases k2 with ⟨rfl, h2⟩ | ⟨b, cap, rfl, h2, h3⟩
          · exact .inl ⟨rfl, h2⟩
          · exact .inr ⟨b, cap, rfl, rfl, (hh b (k3 b _ _ rfl)).trans h3⟩), k3⟩
  estable := fun _ _ _ _ h => h.elim
  step := by
    intro s F H c hpre J
    have hm6 := hv.ok.touches
    have hp7 := hv.ok.pcs
    have hcok : courseOK h c = true := (mem_allC hv.tab c).1 (hpre.subset (by simp))
    obtain ⟨hol, hhl⟩ := courseOK_len hcok
    have hsl : s.length ≤ 2000 := by
      have h1 := hpre.length_le; have h2 := allC_len hv; simp only [List.length_append, List.length_singleton] at h1; omega
    have hfl : (s.filter (isTrue h [])).length ≤ s.length := List.length_filter_le _ _
    have hgood : goodEls 23 ((s.filter (isTrue h [])).map (eKn h)) := by
      intro e he
      rw [List.mem_map] at he
      obtain ⟨c', hc', rfl⟩ := he
      have h1 : courseOK h c' = true := (mem_allC hv.tab c').1 (hpre.subset (List.mem_append_left _ (List.mem_filter.1 hc').1))
      obtain ⟨h2, h3⟩ := courseOK_len h1
      exact eKn_len h (by omega) (by omega)
    have ho7 := pad7_len c.owners (by omega)
    have hh6 := pad6_len c.hours (by omega)
    have hl13 : ((pad7 c.owners ++ pad6 c.hours).map i6).length = 13 := by simp [ho7, hh6]
    have hl13' : (pad7 c.owners ++ pad6 c.hours).length = 13 := by simp [ho7, hh6]
    obtain ⟨v, k1, k2, k3⟩ := J.rest
    have hlw : l ≠ bw := fun h => by have := J.hl; rw [h, k1] at this; cases this
    have hl2 : l ≠ b2 := fun h => by have := J.hl; rw [h, J.h2] at this; cases this
    have hl7 : l ≠ b7 := fun h => by have := J.hl; rw [h, J.h7] at this; cases this
    have hl8 : l ≠ b8 := fun h => by have := J.hl; rw [h, J.h8] at this; cases this
    have hlr : l ≠ r := fun h => by have := J.hl; rw [h, J.hr] at this; cases this
    have h2w : b2 ≠ bw := fun h => by have := J.h2; rw [h, k1] at this; cases this
    have h7w : b7 ≠ bw := fun h => by have := J.h7; rw [h, k1] at this; cases this
    have h8w : b8 ≠ bw := fun h => by have := J.h8; rw [h, k1] at this; cases this
    have hrw : r ≠ bw := fun h => by have := J.hr; rw [h, k1] at this; cases this
    have hE0 := ext_outer F H
    have hG0 : Grown 23 (outer F H) H v ((s.filter (isTrue h [])).map (eKn h)) := k2.to fun b cap es' h => outer_in (k3 b cap es' h)
    have close : ∀ (H' : AHeap) (v' : AV), Ext (outer F H) H' → H' l = some (.loop .busy none 52 env0 #[25] (rangeF Tryz.f76).1 (rangeF Tryz.f76).2 r) → H' r = some .deferd →
        H' b2 = some (.box [.slice (h.table.women.map eW), .slice (h.table.pieces.map eP), i6 h.table.wrong, .slice (eI h.sick), i6 h.others, i6 h.last, .slice (h.touches.map eTo), .slice (h.boiled.map eB), .slice (h.signs.map eS)]) → H' b7 = some (.box [.ptr bw 0]) → H' b8 = some (.box [.amap (bMap h.boiled)]) → H' bw = some (.box [.slice (h.table.women.map eW), .slice (h.table.pieces.map eP), i6 h.table.wrong, .slice (eI h.sick), i6 h.others, i6 h.last, .slice (h.touches.map eTo), .slice (h.boiled.map eB), .slice (h.signs.map eS), v']) →
        Grown 23 (outer F H) H' v' (((s ++ [c]).filter (isTrue h [])).map (eKn h)) →
        ∀ env, rfin 52 l (fun r_1 H_1 => ∃ F', (∀ x, F' x → F x ∨ H x = none) ∧ (∀ x, ¬ F x → (∃ o, H x = some o) → H_1 x = H x) ∧
          ((r_1 = .bool true ∧ JB h (rangeF Tryz.f76).1 (rangeF Tryz.f76).2 env0 r l b2 b7 b8 bw (s ++ [c]) F' H_1) ∨ (r_1 = .bool false ∧ False))) .norm env H' := by
      intro H' v' e1 e2 e3 e4 e5 e6 e7 e8 env
      refine ⟨_, _, _, _, _, _, _, e2, ?_⟩
      have eE := e1.upd (outer_in J.fl) (.loop .ready none 52 env0 #[25] (rangeF Tryz.f76).1 (rangeF Tryz.f76).2 r)
      refine ⟨fun x => (F x ∨ H x = none) ∧ ∃ o, updH H' l (.loop .ready none 52 env0 #[25] (rangeF Tryz.f76).1 (rangeF Tryz.f76).2 r) x = some o, fun x h => h.1, eE.kept, .inl ⟨rfl, ?_⟩⟩
      have mm : ∀ x, x ≠ l → updH H' l (.loop .ready none 52 env0 #[25] (rangeF Tryz.f76).1 (rangeF Tryz.f76).2 r) x = H' x := fun x hx => updH_ne _ _ hx
      have m1 : updH H' l (.loop .ready none 52 env0 #[25] (rangeF Tryz.f76).1 (rangeF Tryz.f76).2 r) l = _ := updH_same _ _ _
      have m2 := (mm _ hlr.symm).trans e3
      have m3 := (mm _ hl2.symm).trans e4
      have m4 := (mm _ hl7.symm).trans e5
      have m5 := (mm _ hl8.symm).trans e6
      have m6 := (mm _ hlw.symm).trans e7
      have m7 : Grown 23 (outer F H) (updH H' l (.loop .ready none 52 env0 #[25] (rangeF Tryz.f76).1 (rangeF Tryz.f76).2 r)) v' (((s ++ [c]).filter (isTrue h [])).map (eKn h)) := e8.of fun b n sz cap hb => by
        rw [updH_ne _ _ (fun h => by rw [h, e2] at hb; cases hb)]; exact hb
      refine ⟨fun x h => h.2, ⟨.inl J.fl, _, m1⟩, ⟨.inl J.fr, _, m2⟩, ⟨.inl J.f2, _, m3⟩, ⟨.inl J.f7, _, m4⟩, ⟨.inl J.f8, _, m5⟩, ⟨.inl J.fw, _, m6⟩, m1, m2, m3, m4, m5, v', m6, m7.to fun _ _ _ _ => rfl, ?_⟩
      rintro b cap es'' rfl
      rcases m7 with ⟨h, _⟩ | ⟨b', cap', h, h0, h2⟩
      · cases h
      · cases h; exact ⟨outer_none h0, _, h2⟩
    refine yield_of hmix cert76 J.hl rfl (by decide) tga76 tgb76 ?_
    simp only [setPs]
    simp only [go_sem, reduceIte, reduceCtorEq, Nat.reduceEqDiff, Nat.reduceBEq, Nat.reduceAdd, Nat.reduceMul, Nat.reduceLeDiff, aga76]
    refine v_alloc fun b6 hb6 => ?_
    simp only [go_sem, reduceIte, reduceCtorEq, Nat.reduceEqDiff, Nat.reduceBEq, Nat.reduceAdd, Nat.reduceMul, Nat.reduceLeDiff]
    rw [v_store]
    refine ⟨rfl, hl13, map_i6_cell _, _, updH_same _ _ _, by simp, ?_⟩
    have n6 : ∀ {x o}, H x = some o → x ≠ b6 := fun hx h => by subst h; rw [hx] at hb6; cases hb6
    rw [show (eSc c).cells = (pad7 c.owners ++ pad6 c.hours).map i6 from rfl, placeAll _ _ (by rw [hl13]; rfl)]
    simp only [go_sem, reduceIte, reduceCtorEq, Nat.reduceEqDiff, Nat.reduceBEq, Nat.reduceAdd, Nat.reduceMul, Nat.reduceLeDiff]
    refine ⟨none, env0, _, _, _, r, by rw [updH_ne _ _ (n6 J.hl), updH_ne _ _ (n6 J.hl)]; exact J.hl, ?_⟩
    generalize hHH : updH (updH (updH H b6 _) b6 (.box ((pad7 c.owners ++ pad6 c.hours).map i6))) l (.loop .busy none 52 env0 #[25] (rangeF Tryz.f76).1 (rangeF Tryz.f76).2 r) = HH
    have q1 : ∀ x o, x ≠ l → H x = some o → HH x = some o := fun x o hx h => by subst hHH; rw [updH_ne _ _ hx, updH_ne _ _ (n6 h), updH_ne _ _ (n6 h)]; exact h
    have q2 : HH l = some (.loop .busy none 52 env0 #[25] (rangeF Tryz.f76).1 (rangeF Tryz.f76).2 r) := by subst hHH; exact updH_same _ _ _
    have q6 : HH b6 = some (.box ((pad7 c.owners ++ pad6 c.hours).map i6)) := by subst hHH; rw [updH_ne _ _ (n6 J.hl).symm]; exact updH_same _ _ _
    have hEH : Ext (outer F H) HH := by subst hHH; exact ((hE0.new hb6 _).upd (hE0.isNone hb6) _).upd (outer_in J.fl) _
    have hB2 := q1 _ _ hl2.symm J.h2
    have hB7 := q1 _ _ hl7.symm J.h7
    have hB8 := q1 _ _ hl8.symm J.h8
    have hBw := q1 _ _ hlw.symm k1
    have hBr := q1 _ _ hlr.symm J.hr
    have hGH : Grown 23 (outer F H) HH v ((s.filter (isTrue h [])).map (eKn h)) := hG0.of fun b n sz cap hb => q1 _ _ (fun h => by rw [h, J.hl] at hb; cases hb) hb
    clear hHH q1
    simp only [go_sem, reduceIte, reduceCtorEq, Nat.reduceEqDiff, Nat.reduceBEq, Nat.reduceAdd, Nat.reduceMul, Nat.reduceLeDiff, agb76, g2, g7, g8, hB2, hB7, hB8, q6, hl13, take_len hl13, take_f', List.getElem?_cons_zero, hl13']
    refine (play_c h hv.ok (pad7 c.owners) (pad6 c.hours) h.boiled ho7 hh6).go ?_
    have hlo : playOf h (pad7 c.owners) (pad6 c.hours) (h.boiled.map bKey) = lastOf h c [] := by rw [lastOf, List.append_nil]
    rw [hlo]
    have hl10 : ((lastOf h c []).map AV.bool).length = 10 := by simp [lastOf_len]
    simp only [go_sem, reduceIte, reduceCtorEq, Nat.reduceEqDiff, Nat.reduceBEq, Nat.reduceAdd, Nat.reduceMul, Nat.reduceLeDiff]
    refine v_alloc fun b10 hb10 => ?_
    have n10 : ∀ {x o}, HH x = some o → x ≠ b10 := fun hx h => by subst h; rw [hx] at hb10; cases hb10
    simp only [go_sem, reduceIte, reduceCtorEq, Nat.reduceEqDiff, Nat.reduceBEq, Nat.reduceAdd, Nat.reduceMul, Nat.reduceLeDiff]
    rw [v_store]
    refine ⟨rfl, hl10, by intro y hy; simp only [AV.cells, List.mem_map] at hy; obtain ⟨b, _, rfl⟩ := hy; rfl, _, updH_same _ _ _, by simp, ?_⟩
    rw [c_agg, placeAll _ _ (by rw [hl10]; rfl)]
    have hE10 := (hEH.new hb10 (.box [.bool false, .bool false, .bool false, .bool false, .bool false, .bool false, .bool false, .bool false, .bool false, .bool false])).upd (hEH.isNone hb10) (.box ((lastOf h c []).map .bool))
    have hll := lastOf_len h c []
    simp only [go_sem, reduceIte, reduceCtorEq, Nat.reduceEqDiff, Nat.reduceBEq, Nat.reduceAdd, Nat.reduceMul, Nat.reduceLeDiff, g2, updH_ne _ _ (n10 hB2), hB2, hl10, take_len hl10, hll]
    refine (Pure.emp2 (right_c h (lastOf h c []) [] hll (by unfold Sm; simp) (by unfold Sm; have := hv.ok.signs; omega) hv.ok.sign)).go ?_
    rw [show rightOK h (lastOf h c []) [] = isTrue h [] c from rfl]
    generalize hHB : updH (updH HH b10 _) b10 (.box ((lastOf h c []).map .bool)) = HB at hE10 ⊢
    have q : ∀ x o, HH x = some o → HB x = some o := fun x o hx => by subst hHB; rw [updH_ne _ _ (n10 hx), updH_ne _ _ (n10 hx)]; exact hx
    have C10 : HB b10 = some (.box ((lastOf h c []).map .bool)) := by subst hHB; exact updH_same _ _ _
    have Cl := q _ _ q2
    have Cr := q _ _ hBr
    have C2 := q _ _ hB2
    have C7 := q _ _ hB7
    have C8 := q _ _ hB8
    have Cw := q _ _ hBw
    have C6 := q _ _ q6
    have hGB : Grown 23 (outer F H) HB v ((s.filter (isTrue h [])).map (eKn h)) := hGH.of fun b n sz cap hb => q _ _ hb
    clear hHB q
    cases hT : isTrue h [] c
    · have hfe : (s ++ [c]).filter (isTrue h []) = s.filter (isTrue h []) := by simp [List.filter_append, hT]
      simp only [go_sem, reduceIte, reduceCtorEq, Nat.reduceEqDiff, Nat.reduceBEq, Nat.reduceAdd, Nat.reduceMul, Nat.reduceLeDiff]
      exact close HB v hE10 Cl Cr C2 C7 C8 Cw (by rw [hfe]; exact hGB) _
    have hfe : (s ++ [c]).filter (isTrue h []) = s.filter (isTrue h []) ++ [c] := by simp [List.filter_append, hT]
    have hek : eKn h c = (pad7 c.owners ++ pad6 c.hours).map i6 ++ (lastOf h c []).map .bool := rfl
    have hekl := eKn_len h (c := c) (by omega) (by omega)
    simp only [go_sem, reduceIte, reduceCtorEq, Nat.reduceEqDiff, Nat.reduceBEq, Nat.reduceAdd, Nat.reduceMul, Nat.reduceLeDiff, g7, C7, Cw, C6, C10, hl13, take_len hl13, hl10, take_len hl10, hll, hl13', take_f', drop_at, List.getElem?_cons_zero, List.getElem?_cons_succ, bc76 [.int .i64 0, .int .i64 0, .int .i64 0, .int .i64 0, .int .i64 0, .int .i64 0, .int .i64 0, .int .i64 0, .int .i64 0, .int .i64 0, .int .i64 0, .int .i64 0, .int .i64 0, .bool false, .bool false, .bool false, .bool false, .bool false, .bool false, .bool false, .bool false, .bool false, .bool false] _ _ rfl hl13 hl10, Option.map_some, ← hek, d_bsa, hekl]
    refine v_append hGB hE10 rfl hgood (by intro e he; simp at he; subst he; exact hekl) (by
      intro e he x hx
      simp only [List.mem_cons, List.not_mem_nil, or_false, List.mem_map] at he
      rcases he with rfl | he
      · exact eKn_cell h c x hx) (by simp; omega) (by simp; omega) ?_
    intro v' H2 hg' he' hk'
    have D2 := hk'.box hGB C2
    have D7 := hk'.box hGB C7
    have D8 := hk'.box hGB C8
    have Dw := hk'.box hGB Cw
    have Dr := hk'.other hGB Cr (by intros; simp)
    have Dl := hk'.other hGB Cl (by intros; simp)
    simp only [go_sem, reduceIte, reduceCtorEq, Nat.reduceEqDiff, Nat.reduceBEq, Nat.reduceAdd, Nat.reduceMul, Nat.reduceLeDiff, g7, D7, take_f', drop_at, List.getElem?_cons_zero, List.getElem?_cons_succ]
    rw [v_store]
    refine ⟨hg'.cellv.1, by rw [hg'.cellv.2.1]; rfl, by rw [hg'.cellv.2.1]; intro y hy; simp at hy; subst hy; exact hg'.cellv.2.2, _, Dw, by simp, ?_⟩
    rw [hg'.cellv.2.1, show placeAt [.slice (h.table.women.map eW), .slice (h.table.pieces.map eP), i6 h.table.wrong, .slice (eI h.sick), i6 h.others, i6 h.last, .slice (h.touches.map eTo), .slice (h.boiled.map eB), .slice (h.signs.map eS), v] (0 + 9) [v'] = [.slice (h.table.women.map eW), .slice (h.table.pieces.map eP), i6 h.table.wrong, .slice (eI h.sick), i6 h.others, i6 h.last, .slice (h.touches.map eTo), .slice (h.boiled.map eB), .slice (h.signs.map eS), v'] from rfl]
    have hg2 : Grown 23 (outer F H) (updH H2 bw (.box [.slice (h.table.women.map eW), .slice (h.table.pieces.map eP), i6 h.table.wrong, .slice (eI h.sick), i6 h.others, i6 h.last, .slice (h.touches.map eTo), .slice (h.boiled.map eB), .slice (h.signs.map eS), v'])) v' (((s ++ [c]).filter (isTrue h [])).map (eKn h)) := by
      rw [hfe, List.map_append]; exact hg'.store Dw _
    simp only [go_sem, reduceIte, reduceCtorEq, Nat.reduceEqDiff, Nat.reduceBEq, Nat.reduceAdd, Nat.reduceMul, Nat.reduceLeDiff]
    exact close _ v' (he'.upd (outer_in J.fw) _) (by rw [updH_ne _ _ hlw]; exact Dl) (by rw [updH_ne _ _ hrw]; exact Dr) (by rw [updH_ne _ _ h2w]; exact D2) (by rw [updH_ne _ _ h7w]; exact D7) (by rw [updH_ne _ _ h8w]; exact D8) (updH_same _ _ _) hg2 _
end Go.Lift

set_option linter.unusedSimpArgs false
set_option linter.unusedVariables false
namespace Go.Lift
open Go Go.Proofs
def kCells (h : House) : List AV := [.slice (h.table.women.map eW), .slice (h.table.pieces.map eP), i6 h.table.wrong, .slice (eI h.sick), i6 h.others, i6 h.last, .slice (h.touches.map eTo), .slice (h.boiled.map eB), .slice (h.signs.map eS), .slice ((truH h []).map (eKn h))]
def askErrH (h : House) (fine : Bool) : Int := if checkHouse h = 0 then (if fine = true then (if truH h [] = [] then 11 else 0) else 2) else checkHouse h
def askedR (h : House) (fine : Bool) : AV := if askErrH h fine = 0 then .tup [.elem (kCells h), i6 0] else .tup [.nilp, i6 (askErrH h fine)]
theorem bc76b (a b c d e f g i j : AV) : buildCells [.emp, .emp, .int .i64 0, .emp, .int .i64 0, .int .i64 0, .emp, .emp, .emp, .emp] [(0, 9), (9, 1)] [.agg [a, b, c, d, e, f, g, i, j], .emp] = some [a, b, c, d, e, f, g, i, j, .emp] := by
  simp [buildCells, placeAt, AV.ok, AV.cells]
theorem askedH_c (h : House) (hs : TSm h.table) (hsk : Sm h.sick.length) (fine : Bool) : Pure Tryz.prog 76 [eH h, .bool fine] (askedR h fine) := by
  intro H
  refine fn_of hmix fc76 (by simp) ?_
  rw [ienv2]
  simp only [go_sem, reduceIte, reduceCtorEq, Nat.reduceEqDiff, Nat.reduceBEq, Nat.reduceAdd, Nat.reduceMul, Nat.reduceLeDiff, ac76, eH]
  refine v_box _ rfl fun b2 hb2 => ?_
  simp only [go_sem, reduceIte, reduceCtorEq, Nat.reduceEqDiff, Nat.reduceBEq, Nat.reduceAdd, Nat.reduceMul, Nat.reduceLeDiff]
  refine (checkHouse_c h hs hsk).go ?_
  have e1 := (Ext.refl H).new hb2 (.box [.slice (h.table.women.map eW), .slice (h.table.pieces.map eP), i6 h.table.wrong, .slice (eI h.sick), i6 h.others, i6 h.last, .slice (h.touches.map eTo), .slice (h.boiled.map eB), .slice (h.signs.map eS)])
  by_cases c1 : checkHouse h = 0
  rotate_left
  · have hres : askErrH h fine = checkHouse h := by rw [askErrH, if_neg c1]
    simp only [go_sem, reduceIte, reduceCtorEq, Nat.reduceEqDiff, Nat.reduceBEq, Nat.reduceAdd, Nat.reduceMul, Nat.reduceLeDiff, c1]
    refine fin_ret2 4 5 (by simp [upd_at]) ⟨_, H, Settle.refl e1, ?_, rfl⟩
    simp [upd_at, askedR, hres, c1]
  have hv := hv_of hs hsk c1
  cases c2 : fine
  · have hres : askErrH h false = 2 := by rw [askErrH, if_pos c1]; rfl
    simp only [go_sem, reduceIte, reduceCtorEq, Nat.reduceEqDiff, Nat.reduceBEq, Nat.reduceAdd, Nat.reduceMul, Nat.reduceLeDiff, c1]
    refine fin_ret2 4 5 (by simp [upd_at]) ⟨_, H, Settle.refl e1, ?_, rfl⟩
    simp [upd_at, askedR, hres]
  simp only [go_sem, reduceIte, reduceCtorEq, Nat.reduceEqDiff, Nat.reduceBEq, Nat.reduceAdd, Nat.reduceMul, Nat.reduceLeDiff, c1, bc76b, Option.map_some]
  refine v_box _ rfl fun bw hbw => ?_
  have n2w : b2 ≠ bw := fun h => by subst h; simp at hbw
  simp only [go_sem, reduceIte, reduceCtorEq, Nat.reduceEqDiff, Nat.reduceBEq, Nat.reduceAdd, Nat.reduceMul, Nat.reduceLeDiff]
  refine v_alloc fun b7 hb7 => ?_
  have n27 : b2 ≠ b7 := fun h => by subst h; simp [updH, n2w] at hb7
  have nw7 : bw ≠ b7 := fun h => by subst h; simp at hb7
  simp only [go_sem, reduceIte, reduceCtorEq, Nat.reduceEqDiff, Nat.reduceBEq, Nat.reduceAdd, Nat.reduceMul, Nat.reduceLeDiff]
  rw [v_store]
  refine ⟨rfl, rfl, by simp [AV.cells, AV.isCell], _, updH_same _ _ _, by simp, ?_⟩
  rw [show (AV.ptr bw 0).cells = [.ptr bw 0] from rfl, placeOne]
  simp only [go_sem, reduceIte, reduceCtorEq, Nat.reduceEqDiff, Nat.reduceBEq, Nat.reduceAdd, Nat.reduceMul, Nat.reduceLeDiff, updH_ne _ _ n2w, updH_ne _ _ n27]
  refine (Pure.emp1 (boilings_c h [] (by unfold Sm; have := hv.ok.boiled; omega) (by unfold Sm; simp))).go ?_
  rw [List.append_nil]
  simp only [go_sem, reduceIte, reduceCtorEq, Nat.reduceEqDiff, Nat.reduceBEq, Nat.reduceAdd, Nat.reduceMul, Nat.reduceLeDiff]
  refine v_alloc fun b8 hb8 => ?_
  have n28 : b2 ≠ b8 := fun h => by subst h; simp [updH, n2w, n27] at hb8
  have nw8 : bw ≠ b8 := fun h => by subst h; simp [updH, nw7] at hb8
  have n78 : b7 ≠ b8 := fun h => by subst h; simp at hb8
  simp only [go_sem, reduceIte, reduceCtorEq, Nat.reduceEqDiff, Nat.reduceBEq, Nat.reduceAdd, Nat.reduceMul, Nat.reduceLeDiff]
  rw [v_store]
  refine ⟨rfl, rfl, by simp [AV.cells, AV.isCell], _, updH_same _ _ _, by simp, ?_⟩
  rw [show (AV.amap (bMap h.boiled)).cells = [.amap (bMap h.boiled)] from rfl, placeOne]
  simp only [go_sem, reduceIte, reduceCtorEq, Nat.reduceEqDiff, Nat.reduceBEq, Nat.reduceAdd, Nat.reduceMul, Nat.reduceLeDiff, updH_ne _ _ n2w, updH_ne _ _ n27, updH_ne _ _ n28]
  have zw : H bw = none := e1.isNone hbw
  have e2 := e1.new hbw (.box [.slice (h.table.women.map eW), .slice (h.table.pieces.map eP), i6 h.table.wrong, .slice (eI h.sick), i6 h.others, i6 h.last, .slice (h.touches.map eTo), .slice (h.boiled.map eB), .slice (h.signs.map eS), .emp])
  have z7 : H b7 = none := e2.isNone hb7
  have e3 := (e2.new hb7 (.box [.nilp])).upd z7 (.box [.ptr bw 0])
  have z8 : H b8 = none := e3.isNone hb8
  have e5 := (e3.new hb8 (.box [.any])).upd z8 (.box [.amap (bMap h.boiled)])
  refine (scenes_c h).go ?_
  simp only [go_sem, reduceIte, reduceCtorEq, Nat.reduceEqDiff, Nat.reduceBEq, Nat.reduceAdd, Nat.reduceMul, Nat.reduceLeDiff, x_range]
  generalize hHH : updH (updH (updH (updH (updH (updH H b2 (.box [.slice (h.table.women.map eW), .slice (h.table.pieces.map eP), i6 h.table.wrong, .slice (eI h.sick), i6 h.others, i6 h.last, .slice (h.touches.map eTo), .slice (h.boiled.map eB), .slice (h.signs.map eS)])) bw (.box [.slice (h.table.women.map eW), .slice (h.table.pieces.map eP), i6 h.table.wrong, .slice (eI h.sick), i6 h.others, i6 h.last, .slice (h.touches.map eTo), .slice (h.boiled.map eB), .slice (h.signs.map eS), .emp])) b7 (.box [.nilp])) b7 (.box [.ptr bw 0])) b8 (.box [.any])) b8 (.box [.amap (bMap h.boiled)]) = HH at e5 ⊢
  have B2 : HH b2 = some (.box [.slice (h.table.women.map eW), .slice (h.table.pieces.map eP), i6 h.table.wrong, .slice (eI h.sick), i6 h.others, i6 h.last, .slice (h.touches.map eTo), .slice (h.boiled.map eB), .slice (h.signs.map eS)]) := by subst hHH; simp [updH, n2w, n27, n28]
  have Bw : HH bw = some (.box [.slice (h.table.women.map eW), .slice (h.table.pieces.map eP), i6 h.table.wrong, .slice (eI h.sick), i6 h.others, i6 h.last, .slice (h.touches.map eTo), .slice (h.boiled.map eB), .slice (h.signs.map eS), .emp]) := by subst hHH; simp [updH, nw7, nw8]
  have B7 : HH b7 = some (.box [.ptr bw 0]) := by subst hHH; simp [updH, n78]
  have B8 : HH b8 = some (.box [.amap (bMap h.boiled)]) := by subst hHH; simp [updH]
  clear hHH
  refine ⟨by simp [upd_at], 152, [], [.elem (hCells h)], by simp [upd_at, ev], fun r l hr hl hlr => ?_⟩
  have ner : ∀ {x o}, HH x = some o → x ≠ r := fun hx h => by subst h; rw [hx] at hr; cases hr
  have nel : ∀ {x o}, HH x = some o → x ≠ l := fun hx h => by subst h; rw [hx] at hl; cases hl
  have zr : H r = none := e5.isNone hr
  have zl : H l = none := e5.isNone hl
  generalize henv : upd (upd _ _ _) 24 _ = env0
  have g2 : env0 2 = .ptr b2 0 := by subst henv; simp [upd_at]
  have g7 : env0 7 = .ptr b7 0 := by subst henv; simp [upd_at]
  have g8 : env0 8 = .ptr b8 0 := by subst henv; simp [upd_at]
  have J0 : JB h (rangeF Tryz.f76).1 (rangeF Tryz.f76).2 env0 r l b2 b7 b8 bw [] (fun x => x = l ∨ x = r ∨ x = b2 ∨ x = b7 ∨ x = b8 ∨ x = bw) (updH (updH HH r .deferd) l (.loop .ready none 52 env0 #[25] (rangeF Tryz.f76).1 (rangeF Tryz.f76).2 r)) := by
    have m1 := (updH_ne (updH HH r .deferd) (.loop .ready none 52 env0 #[25] (rangeF Tryz.f76).1 (rangeF Tryz.f76).2 r) hlr.symm).trans (updH_same HH r .deferd)
    have m2 : ∀ x o, HH x = some o → updH (updH HH r .deferd) l (.loop .ready none 52 env0 #[25] (rangeF Tryz.f76).1 (rangeF Tryz.f76).2 r) x = some o := fun x o hx => by rw [updH_ne _ _ (nel hx), updH_ne _ _ (ner hx)]; exact hx
    refine ⟨?_, .inl rfl, .inr (.inl rfl), .inr (.inr (.inl rfl)), .inr (.inr (.inr (.inl rfl))), .inr (.inr (.inr (.inr (.inl rfl)))), .inr (.inr (.inr (.inr (.inr rfl)))), updH_same _ _ _, m1, m2 _ _ B2, m2 _ _ B7, m2 _ _ B8, .emp, m2 _ _ Bw, .inl ⟨rfl, rfl⟩, by intro b cap es' h; cases h⟩
    rintro x (rfl | rfl | rfl | rfl | rfl | rfl)
    · exact ⟨_, updH_same _ _ _⟩
    · exact ⟨_, m1⟩
    · exact ⟨_, m2 _ _ B2⟩
    · exact ⟨_, m2 _ _ B7⟩
    · exact ⟨_, m2 _ _ B8⟩
    · exact ⟨_, m2 _ _ Bw⟩
  have hcall := scenesGo_c h hv (askH_taker h hv env0 r l b2 b7 b8 bw g2 g7 g8) _ _ J0
  refine hcall.mono ?_
  rintro _ H2 ⟨rfl, F', hF, hkeep, hcase⟩
  rcases hcase with J | ⟨l1, l2, _, hf⟩
  rotate_left
  · exact hf.elim
  refine ⟨_, _, _, _, _, _, _, J.hl, by simp, .norm, rfl, ?_⟩
  have hFn : ∀ x, F' x → H x = none := fun x hx => by
    rcases hF x hx with h | h
    · rcases h with rfl | rfl | rfl | rfl | rfl | rfl <;> assumption
    · have h1 : x ≠ l := fun h' => by rw [h', updH_same] at h; cases h
      rw [updH_ne _ _ h1] at h
      have h2 : x ≠ r := fun h' => by rw [h', updH_same] at h; cases h
      rw [updH_ne _ _ h2] at h
      exact e5.isNone h
  have hExt : ∀ x o, H x = some o → H2 x = some o := fun x o hx => by
    have hne : ∀ y, H y = none → x ≠ y := fun y hy h => by rw [h, hy] at hx; cases hx
    rw [hkeep x (by rintro (h | h | h | h | h | h) <;> exact hne _ (by assumption) h) ⟨o, by rw [updH_ne _ _ (hne _ zl), updH_ne _ _ (hne _ zr)]; exact e5 x o hx⟩, updH_ne _ _ (hne _ zl), updH_ne _ _ (hne _ zr)]
    exact e5 x o hx
  have hExt2 : Ext H (delH (delH H2 l) r) := fun x o hx => by
    rw [delH_ne _ (fun h => by rw [h, zr] at hx; cases hx), delH_ne _ (fun h => by rw [h, zl] at hx; cases hx)]
    exact hExt x o hx
  obtain ⟨v, k1, k2, k3⟩ := J.rest
  have K7 : delH H2 l b7 = some (.box [.ptr bw 0]) := (delH_ne _ (nel B7)).trans J.h7
  have Kw : delH H2 l bw = some (.box [.slice (h.table.women.map eW), .slice (h.table.pieces.map eP), i6 h.table.wrong, .slice (eI h.sick), i6 h.others, i6 h.last, .slice (h.touches.map eTo), .slice (h.boiled.map eB), .slice (h.signs.map eS), v]) := (delH_ne _ (nel Bw)).trans k1
  have Kr : delH H2 l r = some .deferd := (delH_ne _ hlr.symm).trans J.hr
  have htr : (allC h).filter (isTrue h []) = truH h [] := rfl
  rw [htr] at k2
  have hlenv : ∀ H', detV .len [v] H' = some (i6 (truH h []).length) := fun H' => by rw [k2.len H', List.length_map]
  by_cases c3 : ((truH h []).length : Int) = 0
  · have hne : askErrH h true = 11 := by
      have : truH h [] = [] := List.length_eq_zero_iff.1 (by omega)
      rw [askErrH, if_pos c1, if_pos rfl, if_pos this]
    simp only [go_sem, reduceIte, reduceCtorEq, Nat.reduceEqDiff, Nat.reduceBEq, Nat.reduceAdd, Nat.reduceMul, Nat.reduceLeDiff, g7, K7, Kw, take_f', drop_at, List.getElem?_cons_zero, List.getElem?_cons_succ, hlenv, c3]
    refine fin_def2 4 5 r (by simp [upd_at]) Kr ⟨_, H, Settle.refl hExt2, ?_, rfl⟩
    simp [upd_at, askedR, hne]
  · have hne : askErrH h true = 0 := by
      have : truH h [] ≠ [] := fun h0 => c3 (by rw [h0]; rfl)
      rw [askErrH, if_pos c1, if_pos rfl, if_neg this]
    simp only [go_sem, reduceIte, reduceCtorEq, Nat.reduceEqDiff, Nat.reduceBEq, Nat.reduceAdd, Nat.reduceMul, Nat.reduceLeDiff, g7, K7, Kw, take_f', drop_at, List.getElem?_cons_zero, List.getElem?_cons_succ, hlenv, c3]
    refine fin_def2 4 5 r (by simp [upd_at]) Kr ⟨.tup [.elem (kCells h), i6 0], H, ?_, by rw [askedR, if_pos hne], rfl⟩
    simp only [upd_at, if_true, Nat.reduceEqDiff, if_false]
    refine settle_tup hExt2 fun w u hH hr => ?_
    have Kw' : delH (delH H2 l) r bw = some (.box [.slice (h.table.women.map eW), .slice (h.table.pieces.map eP), i6 h.table.wrong, .slice (eI h.sick), i6 h.others, i6 h.last, .slice (h.touches.map eTo), .slice (h.boiled.map eB), .slice (h.signs.map eS), v]) := (delH_ne _ (ner Bw)).trans Kw
    have hG : Grown 23 H (delH (delH H2 l) r) v ((truH h []).map (eKn h)) := by
      have h1 : Grown 23 H H2 v ((truH h []).map (eKn h)) := k2.to fun b cap es' h => hFn b (k3 b cap es' h)
      refine h1.of fun b n sz cap hb => ?_
      rw [delH_ne _ (fun h => by rw [h, J.hr] at hb; cases hb), delH_ne _ (fun h => by rw [h, J.hl] at hb; cases hb)]; exact hb
    refine rep_elem' hH Kw' zw rfl (fun i x x' hx hx' u hu => ?_) hr
    match i, hx, hx' with
    | 0, hx, hx' => cases hx; cases hx'; exact hu.mono (Evolve.drop hExt2)
    | 1, hx, hx' => cases hx; cases hx'; exact hu.mono (Evolve.drop hExt2)
    | 2, hx, hx' => cases hx; cases hx'; exact hu.mono (Evolve.drop hExt2)
    | 3, hx, hx' => cases hx; cases hx'; exact hu.mono (Evolve.drop hExt2)
    | 4, hx, hx' => cases hx; cases hx'; exact hu.mono (Evolve.drop hExt2)
    | 5, hx, hx' => cases hx; cases hx'; exact hu.mono (Evolve.drop hExt2)
    | 6, hx, hx' => cases hx; cases hx'; exact hu.mono (Evolve.drop hExt2)
    | 7, hx, hx' => cases hx; cases hx'; exact hu.mono (Evolve.drop hExt2)
    | 8, hx, hx' => cases hx; cases hx'; exact hu.mono (Evolve.drop hExt2)
    | 9, hx, hx' => cases hx; cases hx'; exact (hG.weaken hExt2).2 w u hH hu
end Go.Lift

set_option linter.unusedSimpArgs false
set_option linter.unusedVariables false
namespace Go.Lift
open Go Go.Proofs
/-- A course with owners of all pieces, and hours of all touches. -/
structure CLen (h : House) (c : Course) : Prop where
  own : c.owners.length = h.table.pieces.length
  hrs : c.hours.length = h.touches.length
theorem tru_ok {h : House} (hv : HV h) {out : List Int} {c : Course} (hc : c ∈ truH h out) : courseOK h c = true := (mem_allC hv.tab c).1 (List.mem_filter.1 hc).1
theorem tru_len {h : House} (hv : HV h) {out : List Int} {c : Course} (hc : c ∈ truH h out) : CLen h c := ⟨(courseOK_len (tru_ok hv hc)).1, (courseOK_len (tru_ok hv hc)).2⟩
theorem eKn_owner {h : House} {c : Course} (i : Nat) (h7 : c.owners.length ≤ 7) (hi : i < 7) : (eKn h c)[i]? = some (i6 ((pad7 c.owners).getD i 0)) := by
  have h1 := pad7_len c.owners h7
  rw [eKn, List.getElem?_append_left (by simp; omega), List.map_append, List.getElem?_append_left (by simp; omega), iget (by omega)]
theorem eKn_last {h : House} {c : Course} (i : Nat) (h7 : c.owners.length ≤ 7) (h6 : c.hours.length ≤ 6) (hi : i < 10) : (eKn h c)[13 + i]? = some (.bool ((lastOf h c []).getD i false)) := by
  have h1 := pad7_len c.owners h7
  have h2 := pad6_len c.hours h6
  rw [eKn, List.getElem?_append_right (by simp [h1, h2]), bget (by simp [h1, h2, lastOf_len]; omega)]
  simp [h1, h2]
theorem eKn_take {h : House} {c : Course} (h7 : c.owners.length ≤ 7) (h6 : c.hours.length ≤ 6) : (eKn h c).take 13 = (pad7 c.owners ++ pad6 c.hours).map i6 := by
  have h1 := pad7_len c.owners h7
  have h2 := pad6_len c.hours h6
  rw [eKn, List.take_append_of_le_length (by simp [h1, h2]), List.take_of_length_le (by simp [h1, h2])]
def carriesP (h : House) (i : Nat) (c : Course) : Bool := (lastOf h c []).getD i false
theorem carries_c (h : House) (hv : HV h) (c : Course) (hc : CLen h c) (i : Nat) (hi : i < 10) : Pure Tryz.prog 78 [.elem (kCells h), .agg (eKn h c), i6 i] (.bool (carriesP h i c)) := by
  intro H
  have hp7 := hv.ok.pcs
  have hm6 := hv.ok.touches
  have h7 : c.owners.length ≤ 7 := by have := hc.own; omega
  have h6 : c.hours.length ≤ 6 := by have := hc.hrs; omega
  refine fn_of hmix fc78 (by simp) ?_
  rw [ienv3]
  simp only [go_sem, reduceIte, reduceCtorEq, Nat.reduceEqDiff, Nat.reduceBEq, Nat.reduceAdd, Nat.reduceMul, Nat.reduceLeDiff, ac78]
  refine v_box _ rfl fun b hb => ?_
  simp only [go_sem, reduceIte, reduceCtorEq, Nat.reduceEqDiff, Nat.reduceBEq, Nat.reduceAdd, Nat.reduceMul, Nat.reduceLeDiff, show (i : Int) < ((10 : Nat) : Int) by omega, Nat.mul_one, eKn_len h h7 h6, show 13 + i ≤ 23 by omega, take_f', drop_at, eKn_last i h7 h6 hi]
  refine fin_ret 6 (by simp [upd_at]) ⟨_, H, Settle.refl ((Ext.refl H).new hb _), ?_⟩
  simp [upd_at, carriesP]
def harmedAt (h : House) (w : Int) (c : Course) (i : Nat) : Bool := (lastOf h c []).getD i false && decide ((pad7 c.owners).getD i 0 = w) && !decide ((pad7 c.owners).getD i 0 ∈ h.sick)
def harmedP (h : House) (w : Int) (c : Course) : Bool := (List.range h.table.pieces.length).any (harmedAt h w c)
theorem harmed_c (h : House) (hv : HV h) (c : Course) (hc : CLen h c) (w : Int) : Pure Tryz.prog 80 [.elem (kCells h), .agg (eKn h c), i6 w] (.bool (harmedP h w c)) := by
  intro H
  have hp7 := hv.ok.pcs
  have hm6 := hv.ok.touches
  have h7 : c.owners.length ≤ 7 := by have := hc.own; omega
  have h6 : c.hours.length ≤ 6 := by have := hc.hrs; omega
  have hkl := eKn_len h h7 h6
  refine fn_of hmix fc80 (by simp) ?_
  rw [ienv3]
  simp only [go_sem, reduceIte, reduceCtorEq, Nat.reduceEqDiff, Nat.reduceBEq, Nat.reduceAdd, Nat.reduceMul, Nat.reduceLeDiff, ac80, kCells]
  refine v_box _ rfl fun b hb => ?_
  simp only [go_sem, reduceIte, reduceCtorEq, Nat.reduceEqDiff, Nat.reduceBEq, Nat.reduceAdd, Nat.reduceMul, Nat.reduceLeDiff]
  refine (pieces_c h).go ?_
  simp only [go_sem, reduceIte, reduceCtorEq, Nat.reduceEqDiff, Nat.reduceBEq, Nat.reduceAdd, Nat.reduceMul, Nat.reduceLeDiff]
  refine x_for h.table.pieces.length (fun j env H1 => Ext H H1 ∧ H1 b = some (.box (eKn h c)) ∧ env 0 = .elem (kCells h) ∧ env 2 = i6 w ∧ env 4 = .ptr b 0 ∧ env 12 = i6 h.table.pieces.length ∧ env 13 = i6 j ∧ env 41 = .any ∧ ∀ i, i < j → harmedAt h w c i = false)
    ⟨(Ext.refl H).new hb _, updH_same _ _ _, by simp [upd_at, kCells], by simp [upd_at], by simp [upd_at], by simp [upd_at], by simp [upd_at], by simp [upd_at], by simp⟩ ?_
  rintro j env H1 hj ⟨hE, hB, g0, g2, g4, g12, g13, hN, hq⟩
  by_cases hlt : (j : Int) < (h.table.pieces.length : Int)
  · have hlt' : j < h.table.pieces.length := by omega
    have hnext : harmedAt h w c j = false → ∀ i, i < j + 1 → harmedAt h w c i = false := fun hh i hi => by
      rcases Nat.lt_or_ge i j with h' | h'
      · exact hq i h'
      · have : i = j := by omega
        subst this; exact hh
    have hl13 : ((pad7 c.owners ++ pad6 c.hours).map i6).length = 13 := by simp [pad7_len _ h7, pad6_len _ h6]
    cases a1 : (lastOf h c []).getD j false
    · simp only [go_sem, reduceIte, reduceCtorEq, Nat.reduceEqDiff, Nat.reduceBEq, Nat.reduceAdd, Nat.reduceMul, Nat.reduceLeDiff, g0, g2, g4, g12, g13, hN, hlt, hB, hkl, show (j : Int) < ((10 : Nat) : Int) by omega, Nat.mul_one, show 13 + j ≤ 23 by omega, take_f', drop_at, eKn_last j h7 h6 (show j < 10 by omega), a1, wsucc (show j < 4611686018427387904 by omega), hlt']
      exact ⟨hE, hnext (by rw [harmedAt, a1]; rfl)⟩
    by_cases a2 : (pad7 c.owners).getD j 0 = w
    rotate_left
    · simp only [go_sem, reduceIte, reduceCtorEq, Nat.reduceEqDiff, Nat.reduceBEq, Nat.reduceAdd, Nat.reduceMul, Nat.reduceLeDiff, g0, g2, g4, g12, g13, hN, hlt, hB, hkl, show (j : Int) < ((10 : Nat) : Int) by omega, show (j : Int) < ((7 : Nat) : Int) by omega, Nat.mul_one, show 13 + j ≤ 23 by omega, show j ≤ 23 by omega, take_f', drop_at, eKn_last j h7 h6 (show j < 10 by omega), eKn_owner (h := h) j h7 (show j < 7 by omega), a1, a2, wsucc (show j < 4611686018427387904 by omega), hlt']
      exact ⟨hE, hnext (by rw [harmedAt, a1]; simp only [a2, decide_false]; rfl)⟩
    simp only [go_sem, reduceIte, reduceCtorEq, Nat.reduceEqDiff, Nat.reduceBEq, Nat.reduceAdd, Nat.reduceMul, Nat.reduceLeDiff, g0, g2, g4, g12, g13, hN, hlt, hB, hkl, show (j : Int) < ((10 : Nat) : Int) by omega, show (j : Int) < ((7 : Nat) : Int) by omega, Nat.mul_one, show 13 + j ≤ 23 by omega, show j ≤ 23 by omega, take_f', drop_at, eKn_last j h7 h6 (show j < 10 by omega), eKn_owner (h := h) j h7 (show j < 7 by omega), a1, a2, kCells, Nat.reduceLeDiff, eKn_take h7 h6, List.getElem?_cons_zero]
    refine pgo_call (sick_c h (pad7 c.owners) (pad6 c.hours) j (pad7_len _ h7) (pad6_len _ h6) (by omega) hv.ok.sk) ?_
    by_cases a3 : (pad7 c.owners).getD j 0 ∈ h.sick
    · simp only [go_sem, reduceIte, reduceCtorEq, Nat.reduceEqDiff, Nat.reduceBEq, Nat.reduceAdd, Nat.reduceMul, Nat.reduceLeDiff, g0, g2, g4, g12, g13, hN, a3, wsucc (show j < 4611686018427387904 by omega), hlt', hB]
      exact ⟨hE, by simp [kCells], hnext (by rw [harmedAt, a1]; simp only [a2] at a3 ⊢; simp [a3])⟩
    · simp only [go_sem, reduceIte, reduceCtorEq, Nat.reduceEqDiff, Nat.reduceBEq, Nat.reduceAdd, Nat.reduceMul, Nat.reduceLeDiff, g0, g2, g4, g12, g13, hN, a3]
      refine fin_ret 6 (by simp [upd_at, hN]) ⟨_, H, Settle.refl hE, ?_⟩
      simp only [upd_at, if_true, and_true, AV.bool.injEq]
      symm
      simp only [harmedP, List.any_eq_true, List.mem_range]
      exact ⟨j, hlt', by rw [harmedAt, a1]; simp only [a2] at a3 ⊢; simp [a3]⟩
  · simp only [go_sem, reduceIte, reduceCtorEq, Nat.reduceEqDiff, Nat.reduceBEq, Nat.reduceAdd, Nat.reduceMul, Nat.reduceLeDiff, g0, g2, g4, g12, g13, hN, hlt]
    have : j = h.table.pieces.length := by omega
    subst this
    refine fin_ret 6 (by simp [upd_at, hN]) ⟨_, H, Settle.refl hE, ?_⟩
    simp only [upd_at, if_true, and_true, AV.bool.injEq]
    symm
    simp only [harmedP, List.any_eq_false, List.mem_range]
    intro i hi
    rw [hq i hi]; simp
end Go.Lift

set_option linter.unusedSimpArgs false
set_option linter.unusedVariables false
namespace Go.Lift
open Go Go.Proofs
def verdictOf (yes n : Nat) : Int := if yes = n then 1 else if yes = 0 then 2 else 3
theorem tru_size {h : House} (hv : HV h) (out : List Int) : (truH h out).length ≤ 2000 := Nat.le_trans (List.length_filter_le _ _) (allC_len hv)
theorem build1 (f : FuncId) (H : AHeap) : buildCells [.nilf] [(0, 1)] [.func (.func f) [] []] = some [.func (.func f) [] []] := by simp [buildCells, placeAt, AV.ok, AV.cells]
theorem verdict_c (h : House) (hv : HV h) (g : FuncId) (n : Int) (p : Course → Bool) (hp : ∀ c, CLen h c → Pure Tryz.prog g [.elem (kCells h), .agg (eKn h c), i6 n] (.bool (p c))) :
    Pure Tryz.prog 79 [.agg [.func (.func g) [] []], .elem (kCells h), i6 n] (i6 (verdictOf ((truH h []).countP p) (truH h []).length)) := by
  intro H
  have hp7 := hv.ok.pcs
  have hm6 := hv.ok.touches
  have htl := tru_size hv []
  obtain ⟨tr, htr⟩ : ∃ tr, tr = truH h [] := ⟨_, rfl⟩
  have hlen : ∀ c ∈ tr, CLen h c := fun c hc => tru_len hv (by rw [← htr]; exact hc)
  rw [← htr] at htl ⊢
  refine fn_of hmix fc79 (by simp) ?_
  rw [ienv3]
  simp only [go_sem, reduceIte, reduceCtorEq, Nat.reduceEqDiff, Nat.reduceBEq, Nat.reduceAdd, Nat.reduceMul, Nat.reduceLeDiff, ac79, kCells, ← htr]
  refine v_box _ rfl fun b hb => ?_
  simp only [go_sem, reduceIte, reduceCtorEq, Nat.reduceEqDiff, Nat.reduceBEq, Nat.reduceAdd, Nat.reduceMul, Nat.reduceLeDiff]
  refine x_for tr.length (fun j env H1 => Ext H H1 ∧ H1 b = some (.box [.func (.func g) [] []]) ∧ env 1 = .elem (kCells h) ∧ env 2 = i6 n ∧ env 3 = .ptr b 0 ∧ env 7 = i6 ((tr.take j).countP p) ∧ env 13 = .slice (tr.map (eKn h)) ∧ env 14 = i6 tr.length ∧ env 15 = i6 j ∧ env 38 = .any)
    ⟨(Ext.refl H).new hb _, updH_same _ _ _, by simp [upd_at, kCells, htr], by simp [upd_at], by simp [upd_at], by simp [upd_at], by simp [upd_at], by simp [upd_at], by simp [upd_at], by simp [upd_at]⟩ ?_
  rintro j env H1 hj ⟨hE, hB, g1, g2, g3, g7, g13, g14, g15, hN⟩
  by_cases hlt : (j : Int) < (tr.length : Int)
  · have hlt' : j < tr.length := by omega
    have hcl := hlen _ (List.getElem_mem hlt')
    have hkl := eKn_len h (c := tr[j]) (by have := hcl.own; omega) (by have := hcl.hrs; omega)
    simp only [go_sem, reduceIte, reduceCtorEq, Nat.reduceEqDiff, Nat.reduceBEq, Nat.reduceAdd, Nat.reduceMul, Nat.reduceLeDiff, g1, g2, g3, g7, g13, g14, g15, hN, hlt, map_get (f := eKn h) hlt', hkl, take_len hkl]
    refine v_alloc fun b3 hb3 => ?_
    have n3 : b ≠ b3 := fun h => by subst h; rw [hB] at hb3; cases hb3
    simp only [go_sem, reduceIte, reduceCtorEq, Nat.reduceEqDiff, Nat.reduceBEq, Nat.reduceAdd, Nat.reduceMul, Nat.reduceLeDiff]
    rw [v_store]
    refine ⟨rfl, hkl, eKn_cell h _, _, updH_same _ _ _, by simp, ?_⟩
    rw [c_agg, placeAll _ _ (by rw [hkl]; rfl)]
    have hE3 : ∀ o1 o2, Ext H (updH (updH H1 b3 o1) b3 o2) := fun o1 o2 => (hE.new hb3 _).upd (hE.isNone hb3) _
    simp only [go_sem, reduceIte, reduceCtorEq, Nat.reduceEqDiff, Nat.reduceBEq, Nat.reduceAdd, Nat.reduceMul, Nat.reduceLeDiff, g1, g2, g3, g7, g13, g14, g15, hN, updH_ne _ _ n3, hB, take_f', List.getElem?_cons_zero, hkl, take_len hkl, List.nil_append, List.append_nil]
    refine (hp _ hcl).go ?_
    have htk : tr.take (j + 1) = tr.take j ++ [tr[j]] := take_snoc hlt'
    have hcj : (tr.take j).countP p ≤ j := Nat.le_trans List.countP_le_length (by simp; omega)
    cases hpj : p tr[j]
    · have : (tr.take (j + 1)).countP p = (tr.take j).countP p := by rw [htk, List.countP_append, List.countP_cons, List.countP_nil, hpj]; rfl
      simp only [go_sem, reduceIte, reduceCtorEq, Nat.reduceEqDiff, Nat.reduceBEq, Nat.reduceAdd, Nat.reduceMul, Nat.reduceLeDiff, g1, g2, g3, g7, g13, g14, g15, hN, wsucc (show j < 4611686018427387904 by omega), hlt', updH_ne _ _ n3, hB, this]
      exact hE3 _ _
    · have : (tr.take (j + 1)).countP p = (tr.take j).countP p + 1 := by rw [htk, List.countP_append, List.countP_cons, List.countP_nil, hpj]; rfl
      simp only [go_sem, reduceIte, reduceCtorEq, Nat.reduceEqDiff, Nat.reduceBEq, Nat.reduceAdd, Nat.reduceMul, Nat.reduceLeDiff, g1, g2, g3, g7, g13, g14, g15, hN, wsucc (show j < 4611686018427387904 by omega), wsucc (show (tr.take j).countP p < 4611686018427387904 by omega), hlt', updH_ne _ _ n3, hB, this]
      exact hE3 _ _
  · have : j = tr.length := by omega
    subst this
    rw [List.take_length] at g7
    by_cases d1 : ((tr.countP p : Nat) : Int) = (tr.length : Int)
    · simp only [go_sem, reduceIte, reduceCtorEq, Nat.reduceEqDiff, Nat.reduceBEq, Nat.reduceAdd, Nat.reduceMul, Nat.reduceLeDiff, g1, g7, g13, g14, g15, hN, hlt, kCells, ← htr, List.getElem?_cons_zero, take_f', d1]
      refine fin_ret 6 (by simp [upd_at, hN]) ⟨_, H, Settle.refl hE, ?_⟩
      have : tr.countP p = tr.length := by omega
      simp [upd_at, verdictOf, this]
    by_cases d2 : ((tr.countP p : Nat) : Int) = 0
    · simp only [go_sem, reduceIte, reduceCtorEq, Nat.reduceEqDiff, Nat.reduceBEq, Nat.reduceAdd, Nat.reduceMul, Nat.reduceLeDiff, g1, g7, g13, g14, g15, hN, hlt, kCells, ← htr, List.getElem?_cons_zero, take_f', d1, d2]
      have h1 : ¬ tr.countP p = tr.length := by omega
      have h2 : tr.countP p = 0 := by omega
      have h3 : ¬ ((0 : Int) = (tr.length : Int)) := by omega
      simp only [go_sem, reduceIte, reduceCtorEq, Nat.reduceEqDiff, Nat.reduceBEq, Nat.reduceAdd, Nat.reduceMul, Nat.reduceLeDiff, h3]
      refine fin_ret 6 (by simp [upd_at, hN]) ⟨_, H, Settle.refl hE, ?_⟩
      rw [verdictOf, if_neg h1, if_pos h2]; simp [upd_at]
    · simp only [go_sem, reduceIte, reduceCtorEq, Nat.reduceEqDiff, Nat.reduceBEq, Nat.reduceAdd, Nat.reduceMul, Nat.reduceLeDiff, g1, g7, g13, g14, g15, hN, hlt, kCells, ← htr, List.getElem?_cons_zero, take_f', d1, d2]
      have h1 : ¬ tr.countP p = tr.length := by omega
      have h2 : ¬ tr.countP p = 0 := by omega
      refine fin_ret 6 (by simp [upd_at, hN]) ⟨_, H, Settle.refl hE, ?_⟩
      rw [verdictOf, if_neg h1, if_neg h2]; simp [upd_at]
theorem hv_ask {h : House} (hs : TSm h.table) (hsk : Sm h.sick.length) {fine : Bool} (he : askErrH h fine = 0) : HV h := by
  refine hv_of hs hsk ?_
  by_cases h1 : checkHouse h = 0
  · exact h1
  · rw [askErrH, if_neg h1] at he; exact he
def carryAt (h : House) (i : Nat) : Int := verdictOf ((truH h []).countP (carriesP h i)) (truH h []).length
def carryOf (h : House) : List Int := (List.range (nT h)).map (carryAt h)
def listR (e : Int) (l : List Int) : AV := if e = 0 then .tup [.slice (eI l), i6 0] else .tup [.emp, i6 e]
theorem settle_list {H1 H : AHeap} {v : AV} {l : List Int} {n : Int} (g : Grown 1 H H1 v (eI l)) (e : Ext H H1) : Settle H1 (.tup [v, i6 n]) H (.tup [.slice (eI l), i6 n]) :=
  settle_tup e (g.weaken e).2
theorem carry_c (h : House) (hs : TSm h.table) (hsk : Sm h.sick.length) : Pure Tryz.prog 21 [eH h] (listR (askErrH h true) (carryOf h)) := by
  intro H
  refine fn_of hmix fc21 (by simp) ?_
  rw [ienv1]
  simp only [go_sem, reduceIte, reduceCtorEq, Nat.reduceEqDiff, Nat.reduceBEq, Nat.reduceAdd, Nat.reduceMul, Nat.reduceLeDiff, ac21, eH]
  refine v_box _ rfl fun b1 hb1 => ?_
  simp only [go_sem, reduceIte, reduceCtorEq, Nat.reduceEqDiff, Nat.reduceBEq, Nat.reduceAdd, Nat.reduceMul, Nat.reduceLeDiff]
  refine (askedH_c h hs hsk true).go ?_
  have e1 := (Ext.refl H).new hb1 (.box [.slice (h.table.women.map eW), .slice (h.table.pieces.map eP), i6 h.table.wrong, .slice (eI h.sick), i6 h.others, i6 h.last, .slice (h.touches.map eTo), .slice (h.boiled.map eB), .slice (h.signs.map eS)])
  by_cases c1 : askErrH h true = 0
  rotate_left
  · simp only [go_sem, reduceIte, reduceCtorEq, Nat.reduceEqDiff, Nat.reduceBEq, Nat.reduceAdd, Nat.reduceMul, Nat.reduceLeDiff, askedR, c1, List.getElem?_cons_zero, List.getElem?_cons_succ]
    refine fin_ret2 2 3 (by simp [upd_at]) ⟨_, H, Settle.refl e1, ?_, rfl⟩
    simp [upd_at, listR, c1]
  have hv := hv_ask hs hsk c1
  have hnT := nT_le hv.ok
  simp only [go_sem, reduceIte, reduceCtorEq, Nat.reduceEqDiff, Nat.reduceBEq, Nat.reduceAdd, Nat.reduceMul, Nat.reduceLeDiff, askedR, c1, List.getElem?_cons_zero, List.getElem?_cons_succ]
  refine (things_c h).go ?_
  rw [thingsW_ok hv.ok]
  simp only [go_sem, reduceIte, reduceCtorEq, Nat.reduceEqDiff, Nat.reduceBEq, Nat.reduceAdd, Nat.reduceMul, Nat.reduceLeDiff]
  refine x_for (nT h) (fun j env H1 => Ext H H1 ∧ Grown 1 H H1 (env 6) (eI ((List.range j).map (carryAt h))) ∧ env 4 = .elem (kCells h) ∧ env 17 = i6 (nT h) ∧ env 18 = i6 j ∧ env 30 = .any)
    ⟨e1, .inl ⟨by simp [upd_at], rfl⟩, by simp [upd_at], by simp [upd_at], by simp [upd_at], by simp [upd_at]⟩ ?_
  rintro j env H1 hj ⟨hE, hG, g4, g17, g18, hN⟩
  by_cases hlt : (j : Int) < (nT h : Int)
  · have hlt' : j < nT h := by omega
    simp only [go_sem, reduceIte, reduceCtorEq, Nat.reduceEqDiff, Nat.reduceBEq, Nat.reduceAdd, Nat.reduceMul, Nat.reduceLeDiff, g4, g17, g18, hN, hlt, build1 _ H1, Option.map_some]
    refine (verdict_c h hv 78 j (carriesP h j) (fun c hc => carries_c h hv c hc j (by omega))).go ?_
    simp only [go_sem, reduceIte, reduceCtorEq, Nat.reduceEqDiff, Nat.reduceBEq, Nat.reduceAdd, Nat.reduceMul, Nat.reduceLeDiff]
    refine v_append hG hE rfl (eI_good _) (one_good _) (one_cell _) (by simp; omega) (by simp; omega) ?_
    intro v' H2 hg' he' hk'
    simp only [go_sem, reduceIte, reduceCtorEq, Nat.reduceEqDiff, Nat.reduceBEq, Nat.reduceAdd, Nat.reduceMul, Nat.reduceLeDiff, g4, g17, g18, hN, wsucc (show j < 4611686018427387904 by omega), hlt']
    refine ⟨he', ?_⟩
    rw [List.map_append, eI_app]; exact hg'
  · have : j = nT h := by omega
    subst this
    simp only [go_sem, reduceIte, reduceCtorEq, Nat.reduceEqDiff, Nat.reduceBEq, Nat.reduceAdd, Nat.reduceMul, Nat.reduceLeDiff, g4, g17, g18, hN, hlt]
    refine fin_ret2 2 3 (by simp [upd_at, hN]) ⟨listR 0 (carryOf h), H, ?_, rfl, rfl⟩
    simp only [upd_at, if_true, Nat.reduceEqDiff, if_false, listR]
    exact settle_list hG hE
def isWhose (h : House) (w : Nat) : Bool := decide (verdictOf ((truH h []).countP (harmedP h w)) (truH h []).length ≠ 2)
def whoseUpto (h : House) (j : Nat) : List Int := ((List.range j).filter (isWhose h)).map Int.ofNat
def whoseS (h : House) : List Int := whoseUpto h h.table.women.length
theorem whoseUpto_len (h : House) (j : Nat) : (whoseUpto h j).length ≤ j := by
  simp only [whoseUpto, List.length_map]
  exact Nat.le_trans (List.length_filter_le _ _) (by simp)
theorem whoseS_c (h : House) (hs : TSm h.table) (hsk : Sm h.sick.length) : Pure Tryz.prog 23 [eH h] (listR (askErrH h true) (whoseS h)) := by
  intro H
  refine fn_of hmix fc23 (by simp) ?_
  rw [ienv1]
  simp only [go_sem, reduceIte, reduceCtorEq, Nat.reduceEqDiff, Nat.reduceBEq, Nat.reduceAdd, Nat.reduceMul, Nat.reduceLeDiff, ac23, eH]
  refine v_box _ rfl fun b1 hb1 => ?_
  simp only [go_sem, reduceIte, reduceCtorEq, Nat.reduceEqDiff, Nat.reduceBEq, Nat.reduceAdd, Nat.reduceMul, Nat.reduceLeDiff]
  refine (askedH_c h hs hsk true).go ?_
  have e1 := (Ext.refl H).new hb1 (.box [.slice (h.table.women.map eW), .slice (h.table.pieces.map eP), i6 h.table.wrong, .slice (eI h.sick), i6 h.others, i6 h.last, .slice (h.touches.map eTo), .slice (h.boiled.map eB), .slice (h.signs.map eS)])
  by_cases c1 : askErrH h true = 0
  rotate_left
  · simp only [go_sem, reduceIte, reduceCtorEq, Nat.reduceEqDiff, Nat.reduceBEq, Nat.reduceAdd, Nat.reduceMul, Nat.reduceLeDiff, askedR, c1, List.getElem?_cons_zero, List.getElem?_cons_succ]
    refine fin_ret2 2 3 (by simp [upd_at]) ⟨_, H, Settle.refl e1, ?_, rfl⟩
    simp [upd_at, listR, c1]
  have hv := hv_ask hs hsk c1
  have hw5 := (checkTable_len hv.tab).1
  simp only [go_sem, reduceIte, reduceCtorEq, Nat.reduceEqDiff, Nat.reduceBEq, Nat.reduceAdd, Nat.reduceMul, Nat.reduceLeDiff, askedR, c1, List.getElem?_cons_zero, List.getElem?_cons_succ]
  refine x_for h.table.women.length (fun j env H1 => Ext H H1 ∧ Grown 1 H H1 (env 6) (eI (whoseUpto h j)) ∧ env 4 = .elem (kCells h) ∧ env 19 = i6 h.table.women.length ∧ env 20 = i6 j ∧ env 34 = .any)
    ⟨e1, .inl ⟨by simp [upd_at], rfl⟩, by simp [upd_at], by simp [upd_at], by simp [upd_at], by simp [upd_at]⟩ ?_
  rintro j env H1 hj ⟨hE, hG, g4, g19, g20, hN⟩
  by_cases hlt : (j : Int) < (h.table.women.length : Int)
  · have hlt' : j < h.table.women.length := by omega
    have hul := whoseUpto_len h j
    simp only [go_sem, reduceIte, reduceCtorEq, Nat.reduceEqDiff, Nat.reduceBEq, Nat.reduceAdd, Nat.reduceMul, Nat.reduceLeDiff, g4, g19, g20, hN, hlt, build1 _ H1, Option.map_some]
    refine (verdict_c h hv 80 j (harmedP h j) (fun c hc => harmed_c h hv c hc j)).go ?_
    have hsucc : whoseUpto h (j + 1) = whoseUpto h j ++ (if isWhose h j = true then [(j : Int)] else []) := by
      simp only [whoseUpto, List.range_succ, List.filter_append, List.map_append]
      congr 1
      cases h1 : isWhose h j <;> simp [List.filter_cons, h1]
    by_cases d : verdictOf ((truH h []).countP (harmedP h j)) (truH h []).length = 2
    · have hw : isWhose h j = false := by simp [isWhose, d]
      simp only [go_sem, reduceIte, reduceCtorEq, Nat.reduceEqDiff, Nat.reduceBEq, Nat.reduceAdd, Nat.reduceMul, Nat.reduceLeDiff, d, g4, g19, g20, hN, wsucc (show j < 4611686018427387904 by omega), hlt']
      refine ⟨hE, ?_⟩
      rw [hsucc, hw]; simpa using hG
    · have hw : isWhose h j = true := by simp [isWhose, d]
      simp only [go_sem, reduceIte, reduceCtorEq, Nat.reduceEqDiff, Nat.reduceBEq, Nat.reduceAdd, Nat.reduceMul, Nat.reduceLeDiff, d, g4, g19, g20, hN]
      refine v_append hG hE rfl (eI_good _) (one_good _) (one_cell _) (by simp; omega) (by simp; omega) ?_
      intro v' H2 hg' he' hk'
      simp only [go_sem, reduceIte, reduceCtorEq, Nat.reduceEqDiff, Nat.reduceBEq, Nat.reduceAdd, Nat.reduceMul, Nat.reduceLeDiff, g4, g19, g20, hN, wsucc (show j < 4611686018427387904 by omega), hlt']
      refine ⟨he', ?_⟩
      rw [hsucc, hw, if_pos rfl, eI_app]; exact hg'
  · have : j = h.table.women.length := by omega
    subst this
    simp only [go_sem, reduceIte, reduceCtorEq, Nat.reduceEqDiff, Nat.reduceBEq, Nat.reduceAdd, Nat.reduceMul, Nat.reduceLeDiff, g4, g19, g20, hN, hlt]
    refine fin_ret2 2 3 (by simp [upd_at, hN]) ⟨listR 0 (whoseS h), H, ?_, rfl, rfl⟩
    simp only [upd_at, if_true, Nat.reduceEqDiff, if_false, listR]
    exact settle_list hG hE
end Go.Lift

set_option linter.unusedSimpArgs false
set_option linter.unusedVariables false
namespace Go.Lift
open Go Go.Proofs
def atOf (l : List Int) (k : Int) : List Boiling := l.map fun n => ⟨n, k⟩
def rowOf (l : List Int) (k : Int) : List Boiling := (List.range l.length).map fun i : Nat => ⟨l.getD i 0, IntKind.i64.wrap (k + (i : Int))⟩
theorem eB_good (l : List Boiling) : goodEls 2 (l.map eB) := by
  intro e he; rw [List.mem_map] at he; obtain ⟨x, _, rfl⟩ := he; rfl
theorem eB_cell (l : List Boiling) : cellEls (l.map eB) := by
  intro e he x hx; rw [List.mem_map] at he; obtain ⟨y, _, rfl⟩ := he
  simp only [eB, List.mem_cons, List.not_mem_nil, or_false] at hx
  rcases hx with rfl | rfl <;> rfl
theorem at_c (l : List Int) (k : Int) (hl : Sm l.length) : Pure Tryz.prog 102 [.slice (eI l), i6 k] (.slice ((atOf l k).map eB)) := by
  intro H
  unfold Sm at hl
  refine fn_of hmix fc102 (by simp) ?_
  rw [ienv2]
  simp only [go_sem, reduceIte, reduceCtorEq, Nat.reduceEqDiff, Nat.reduceBEq, Nat.reduceAdd, Nat.reduceMul, Nat.reduceLeDiff, ac102]
  refine x_for l.length (fun j env H1 => Ext H H1 ∧ Grown 2 H H1 (env 4) ((atOf (l.take j) k).map eB) ∧ env 1 = i6 k ∧ env 7 = .slice (eI l) ∧ env 8 = i6 l.length ∧ env 9 = i6 j ∧ env 21 = .any)
    ⟨Ext.refl H, .inl ⟨by simp [upd_at], rfl⟩, by simp [upd_at], by simp [upd_at], by simp [upd_at], by simp [upd_at], by simp [upd_at]⟩ ?_
  rintro j env H1 hj ⟨hE, hG, g1, g7, g8, g9, hN⟩
  by_cases hlt : (j : Int) < (l.length : Int)
  · have hlt' : j < l.length := by omega
    have htl : (l.take j).length = j := by simp; omega
    simp only [go_sem, reduceIte, reduceCtorEq, Nat.reduceEqDiff, Nat.reduceBEq, Nat.reduceAdd, Nat.reduceMul, Nat.reduceLeDiff, g1, g7, g8, g9, hN, hlt, eI_get hlt', bc2, Option.map_some, d_bsa]
    refine v_append hG hE rfl (eB_good _) (eB_good [⟨l[j], k⟩]) (eB_cell [⟨l[j], k⟩]) (by simp [atOf]; omega) (by simp [atOf]; omega) ?_
    intro v' H2 hg' he' hk'
    simp only [go_sem, reduceIte, reduceCtorEq, Nat.reduceEqDiff, Nat.reduceBEq, Nat.reduceAdd, Nat.reduceMul, Nat.reduceLeDiff, g1, g7, g8, g9, hN, wsucc (show j < 4611686018427387904 by omega), hlt']
    refine ⟨he', ?_⟩
    rw [take_snoc hlt', atOf, List.map_append, List.map_append]; exact hg'
  · have : j = l.length := by omega
    subst this
    rw [List.take_length] at hG
    simp only [go_sem, reduceIte, reduceCtorEq, Nat.reduceEqDiff, Nat.reduceBEq, Nat.reduceAdd, Nat.reduceMul, Nat.reduceLeDiff, g1, g7, g8, g9, hN, hlt]
    refine fin_ret 4 (by simp [upd_at, hN]) ⟨_, H, ?_, rfl, rfl⟩
    simp only [upd_at, if_true]
    exact hG.weaken hE
theorem row_c (l : List Int) (k : Int) (hl : Sm l.length) : Pure Tryz.prog 108 [.slice (eI l), i6 k] (.slice ((rowOf l k).map eB)) := by
  intro H
  unfold Sm at hl
  refine fn_of hmix fc108 (by simp) ?_
  rw [ienv2]
  simp only [go_sem, reduceIte, reduceCtorEq, Nat.reduceEqDiff, Nat.reduceBEq, Nat.reduceAdd, Nat.reduceMul, Nat.reduceLeDiff, ac108]
  refine x_for l.length (fun j env H1 => Ext H H1 ∧ Grown 2 H H1 (env 4) (((List.range j).map fun i : Nat => (⟨l.getD i 0, IntKind.i64.wrap (k + (i : Int))⟩ : Boiling)).map eB) ∧ env 1 = i6 k ∧ env 7 = .slice (eI l) ∧ env 8 = i6 l.length ∧ env 9 = i6 j ∧ env 24 = .any)
    ⟨Ext.refl H, .inl ⟨by simp [upd_at], rfl⟩, by simp [upd_at], by simp [upd_at], by simp [upd_at], by simp [upd_at], by simp [upd_at]⟩ ?_
  rintro j env H1 hj ⟨hE, hG, g1, g7, g8, g9, hN⟩
  by_cases hlt : (j : Int) < (l.length : Int)
  · have hlt' : j < l.length := by omega
    have hgl : l.getD j 0 = l[j] := by simp [hlt']
    simp only [go_sem, reduceIte, reduceCtorEq, Nat.reduceEqDiff, Nat.reduceBEq, Nat.reduceAdd, Nat.reduceMul, Nat.reduceLeDiff, g1, g7, g8, g9, hN, hlt, eI_get hlt', bc2, Option.map_some, d_bsa]
    refine v_append hG hE rfl (eB_good _) (eB_good [⟨l[j], IntKind.i64.wrap (k + (j : Int))⟩]) (eB_cell [⟨l[j], IntKind.i64.wrap (k + (j : Int))⟩]) (by simp; omega) (by simp; omega) ?_
    intro v' H2 hg' he' hk'
    simp only [go_sem, reduceIte, reduceCtorEq, Nat.reduceEqDiff, Nat.reduceBEq, Nat.reduceAdd, Nat.reduceMul, Nat.reduceLeDiff, g1, g7, g8, g9, hN, wsucc (show j < 4611686018427387904 by omega), hlt']
    refine ⟨he', ?_⟩
    rw [List.map_append, List.map_append]
    simp only [List.map_cons, List.map_nil, hgl]; exact hg'
  · have : j = l.length := by omega
    subst this
    simp only [go_sem, reduceIte, reduceCtorEq, Nat.reduceEqDiff, Nat.reduceBEq, Nat.reduceAdd, Nat.reduceMul, Nat.reduceLeDiff, g1, g7, g8, g9, hN, hlt]
    refine fin_ret 4 (by simp [upd_at, hN]) ⟨_, H, ?_, rfl, rfl⟩
    simp only [upd_at, if_true]
    exact hG.weaken hE
theorem eqCells_bool : ∀ xs ys : List Bool, xs.length = ys.length → eqCells false (xs.map .bool) (ys.map .bool) = some (decide (xs = ys))
  | [], [], _ => rfl
  | x :: xs, y :: ys, h => by
    have ih := eqCells_bool xs ys (by simpa using h)
    simp only [List.map_cons, eqCells, if_true, ih, Option.map_some, Option.some.injEq]
    by_cases h1 : x = y <;> by_cases h2 : xs = ys <;> simp [h1, h2]
def safeAt (h : House) (more : List Boiling) (c : Course) (i : Nat) : Bool := !((lastOf h c more).getD i false && !decide ((pad7 c.owners).getD i 0 ∈ h.sick))
def safeC (h : House) (more : List Boiling) (c : Course) : Bool := (List.range h.table.pieces.length).all (safeAt h more c)
def safeP (h : House) (more : List Boiling) : Bool := (truH h []).all (safeC h more)
theorem safe1_c (h : House) (hv : HV h) (more : List Boiling) (c : Course) (hc : CLen h c) (bw bm : Nat) (H : AHeap) (hw : H bw = some (.box [.elem (kCells h)])) (hm : H bm = some (.box [.amap (bMap (h.boiled ++ more))])) :
    ACalls Tryz.prog 134 [.agg (eKn h c), .ptr bw 0, .ptr bm 0] H fun r H' => r = .bool (safeC h more c) ∧ H' = H := by
  have hp7 := hv.ok.pcs
  have hm6 := hv.ok.touches
  have h7 : c.owners.length ≤ 7 := by have := hc.own; omega
  have h6 : c.hours.length ≤ 6 := by have := hc.hrs; omega
  have hkl := eKn_len h h7 h6
  have hl13 : ((pad7 c.owners ++ pad6 c.hours).map i6).length = 13 := by simp [pad7_len _ h7, pad6_len _ h6]
  refine fn_of hmix fc134 (by simp) ?_
  rw [ienv3]
  simp only [go_sem, reduceIte, reduceCtorEq, Nat.reduceEqDiff, Nat.reduceBEq, Nat.reduceAdd, Nat.reduceMul, Nat.reduceLeDiff, ac134]
  refine v_box _ rfl fun b hb => ?_
  have nw : bw ≠ b := fun h => by subst h; rw [hw] at hb; cases hb
  have nm : bm ≠ b := fun h => by subst h; rw [hm] at hb; cases hb
  simp only [go_sem, reduceIte, reduceCtorEq, Nat.reduceEqDiff, Nat.reduceBEq, Nat.reduceAdd, Nat.reduceMul, Nat.reduceLeDiff, updH_ne _ _ nw, updH_ne _ _ nm, hw, hm, take_f', List.getElem?_cons_zero, kCells, Nat.reduceLeDiff, hkl, eKn_take h7 h6]
  refine pgo_call (play_c h hv.ok (pad7 c.owners) (pad6 c.hours) (h.boiled ++ more) (pad7_len _ h7) (pad6_len _ h6)) ?_
  rw [show playOf h (pad7 c.owners) (pad6 c.hours) ((h.boiled ++ more).map bKey) = lastOf h c more from rfl]
  simp only [go_sem, reduceIte, reduceCtorEq, Nat.reduceEqDiff, Nat.reduceBEq, Nat.reduceAdd, Nat.reduceMul, Nat.reduceLeDiff]
  refine v_alloc fun b5 hb5 => ?_
  have n5 : b ≠ b5 := fun h => by subst h; simp at hb5
  have nw5 : bw ≠ b5 := fun h => by subst h; rw [updH_ne _ _ nw, hw] at hb5; cases hb5
  have nm5 : bm ≠ b5 := fun h => by subst h; rw [updH_ne _ _ nm, hm] at hb5; cases hb5
  simp only [go_sem, reduceIte, reduceCtorEq, Nat.reduceEqDiff, Nat.reduceBEq, Nat.reduceAdd, Nat.reduceMul, Nat.reduceLeDiff, updH_ne _ _ nw, updH_ne _ _ nm, updH_ne _ _ n5, updH_ne _ _ nw5, updH_ne _ _ nm5, hw, hm, take_f', List.getElem?_cons_zero, kCells, Nat.reduceLeDiff, hkl, eKn_take h7 h6]
  rw [v_store]
  have hl10 : ((lastOf h c more).map AV.bool).length = 10 := by simp [lastOf_len]
  have hll := lastOf_len h c more
  refine ⟨rfl, hl10, by intro y hy; simp only [AV.cells, List.mem_map] at hy; obtain ⟨b, _, rfl⟩ := hy; rfl, _, updH_same _ _ _, by simp, ?_⟩
  rw [c_agg, placeAll _ _ (by rw [hl10]; rfl)]
  have e1 : Ext H (updH H b (.box (AV.agg (eKn h c)).cells)) := (Ext.refl H).new hb _
  have z5 : H b5 = none := e1.isNone hb5
  have hE5 : ∀ o1 o2, Ext H (updH (updH (updH H b (.box (AV.agg (eKn h c)).cells)) b5 o1) b5 o2) := fun o1 o2 => (e1.new hb5 _).upd z5 _
  have hbz : buildCells [.bool false, .bool false, .bool false, .bool false, .bool false, .bool false, .bool false, .bool false, .bool false, .bool false] [] [] = some ((List.replicate 10 false).map AV.bool) := rfl
  have heq := eqCells_bool (lastOf h c more) (List.replicate 10 false) (by rw [hll]; rfl)
  have hrl : ((List.replicate 10 false).map AV.bool).length = 10 := rfl
  by_cases hz : lastOf h c more = List.replicate 10 false
  · have hres : safeC h more c = true := by
      simp only [safeC, List.all_eq_true, List.mem_range]
      intro i hi
      rw [safeAt, hz]
      have : (List.replicate 10 false).getD i false = false := by rw [List.getD_eq_getElem?_getD, List.getElem?_replicate]; split <;> rfl
      rw [this]; rfl
    have heq' := eqCells_bool (List.replicate 10 false) (List.replicate 10 false) rfl
    rw [hz]
    simp only [go_sem, reduceIte, reduceCtorEq, Nat.reduceEqDiff, Nat.reduceBEq, Nat.reduceAdd, Nat.reduceMul, Nat.reduceLeDiff, hbz, hrl, take_len hrl, heq', Option.map_some, List.length_replicate]
    refine fin_ret 4 (by simp [upd_at]) ⟨_, H, Settle.refl (hE5 _ _), ?_⟩
    simp [upd_at, hres]
  simp only [go_sem, reduceIte, reduceCtorEq, Nat.reduceEqDiff, Nat.reduceBEq, Nat.reduceAdd, Nat.reduceMul, Nat.reduceLeDiff, hbz, hrl, hl10, take_len hl10, hll, heq, hz, Option.map_some, updH_ne _ _ nw5, updH_ne _ _ nw, hw, take_f', List.getElem?_cons_zero, kCells]
  refine (pieces_c h).go ?_
  simp only [go_sem, reduceIte, reduceCtorEq, Nat.reduceEqDiff, Nat.reduceBEq, Nat.reduceAdd, Nat.reduceMul, Nat.reduceLeDiff]
  refine x_for h.table.pieces.length (fun j env H1 => Ext H H1 ∧ H1 b = some (.box (eKn h c)) ∧ H1 bw = some (.box [.elem (kCells h)]) ∧ H1 b5 = some (.box ((lastOf h c more).map .bool)) ∧ env 1 = .ptr bw 0 ∧ env 3 = .ptr b 0 ∧ env 5 = .ptr b5 0 ∧ env 22 = i6 h.table.pieces.length ∧ env 23 = i6 j ∧ env 41 = .any ∧ ∀ i, i < j → safeAt h more c i = true)
    ⟨hE5 _ _, by rw [updH_ne _ _ n5, updH_ne _ _ n5]; exact updH_same _ _ _, by rw [updH_ne _ _ nw5, updH_ne _ _ nw5, updH_ne _ _ nw]; exact hw, updH_same _ _ _, by simp [upd_at], by simp [upd_at], by simp [upd_at], by simp [upd_at], by simp [upd_at], by simp [upd_at], by simp⟩ ?_
  rintro j env H1 hj ⟨hE, hB, hW, hB5, g1, g3, g5, g22, g23, hN, hq⟩
  by_cases hlt : (j : Int) < (h.table.pieces.length : Int)
  · have hlt' : j < h.table.pieces.length := by omega
    have hnext : safeAt h more c j = true → ∀ i, i < j + 1 → safeAt h more c i = true := fun hh i hi => by
      rcases Nat.lt_or_ge i j with h' | h'
      · exact hq i h'
      · have : i = j := by omega
        subst this; exact hh
    have hgb := bget (c := lastOf h c more) (show j < (lastOf h c more).length by omega)
    cases a1 : (lastOf h c more).getD j false
    · simp only [go_sem, reduceIte, reduceCtorEq, Nat.reduceEqDiff, Nat.reduceBEq, Nat.reduceAdd, Nat.reduceMul, Nat.reduceLeDiff, g1, g3, g5, g22, g23, hN, hlt, hB5, hll, show (j : Int) < ((10 : Nat) : Int) by omega, Nat.mul_one, show j ≤ 10 by omega, take_f', drop_at, hgb, a1, wsucc (show j < 4611686018427387904 by omega), hlt']
      exact ⟨hE, hB, hW, hnext (by rw [safeAt, a1]; rfl)⟩
    simp only [go_sem, reduceIte, reduceCtorEq, Nat.reduceEqDiff, Nat.reduceBEq, Nat.reduceAdd, Nat.reduceMul, Nat.reduceLeDiff, g1, g3, g5, g22, g23, hN, hlt, hB5, hll, hW, hB, hkl, eKn_take h7 h6, show (j : Int) < ((10 : Nat) : Int) by omega, Nat.mul_one, show j ≤ 10 by omega, take_f', drop_at, hgb, a1, kCells, Nat.reduceLeDiff, List.getElem?_cons_zero]
    refine pgo_call (sick_c h (pad7 c.owners) (pad6 c.hours) j (pad7_len _ h7) (pad6_len _ h6) (by omega) hv.ok.sk) ?_
    by_cases a3 : (pad7 c.owners).getD j 0 ∈ h.sick
    · simp only [go_sem, reduceIte, reduceCtorEq, Nat.reduceEqDiff, Nat.reduceBEq, Nat.reduceAdd, Nat.reduceMul, Nat.reduceLeDiff, g1, g3, g5, g22, g23, hN, a3, wsucc (show j < 4611686018427387904 by omega), hlt', hB, hB5]
      exact ⟨hE, by rw [hW]; rfl, hnext (by rw [safeAt, a1]; simp only [a3, decide_true]; rfl)⟩
    · simp only [go_sem, reduceIte, reduceCtorEq, Nat.reduceEqDiff, Nat.reduceBEq, Nat.reduceAdd, Nat.reduceMul, Nat.reduceLeDiff, g1, g3, g5, g22, g23, hN, a3]
      refine fin_ret 4 (by simp [upd_at, hN]) ⟨_, H, Settle.refl hE, ?_⟩
      simp only [upd_at, if_true, and_true, AV.bool.injEq]
      symm
      simp only [safeC, List.all_eq_false, List.mem_range]
      exact ⟨j, hlt', by rw [safeAt, a1]; simp only [a3, decide_false]; simp⟩
  · simp only [go_sem, reduceIte, reduceCtorEq, Nat.reduceEqDiff, Nat.reduceBEq, Nat.reduceAdd, Nat.reduceMul, Nat.reduceLeDiff, g1, g3, g5, g22, g23, hN, hlt]
    have : j = h.table.pieces.length := by omega
    subst this
    refine fin_ret 4 (by simp [upd_at, hN]) ⟨_, H, Settle.refl hE, ?_⟩
    simp only [upd_at, if_true, and_true, AV.bool.injEq]
    symm
    simp only [safeC, List.all_eq_true, List.mem_range]
    exact hq
theorem pmap_all {α : Type} {p : α → Prop} (q : α → Bool) : ∀ (l : List α) (hl : ∀ a ∈ l, p a), (l.pmap (fun a h => (⟨a, h⟩ : {a // p a})) hl).all (fun x => q x.1) = l.all q
  | [], _ => rfl
  | a :: l, hl => by simp only [List.pmap_cons, List.all_cons]; rw [pmap_all q l]
theorem pmap_map {α β : Type} {p : α → Prop} (f : α → β) : ∀ (l : List α) (hl : ∀ a ∈ l, p a), (l.pmap (fun a h => (⟨a, h⟩ : {a // p a})) hl).map (fun x => f x.1) = l.map f
  | [], _ => rfl
  | a :: l, hl => by simp only [List.pmap_cons, List.map_cons]; rw [pmap_map f l]
theorem pmap_mem {α : Type} {p : α → Prop} : ∀ (l : List α) (hl : ∀ a ∈ l, p a), (l.pmap (fun a h => (⟨a, h⟩ : {a // p a})) hl).length = l.length
  | [], _ => rfl
  | a :: l, hl => by simp [List.pmap_cons]
theorem safe_c (h : House) (hv : HV h) (more : List Boiling) (hm : Sm more.length) : Pure Tryz.prog 101 [.elem (kCells h), .slice (more.map eB)] (.bool (safeP h more)) := by
  intro H
  have hp7 := hv.ok.pcs
  have hm6 := hv.ok.touches
  have htl := tru_size hv []
  refine fn_of hmix fc101 (by simp) ?_
  rw [ienv2]
  simp only [go_sem, reduceIte, reduceCtorEq, Nat.reduceEqDiff, Nat.reduceBEq, Nat.reduceAdd, Nat.reduceMul, Nat.reduceLeDiff, ac101]
  refine v_box _ rfl fun b2 hb2 => ?_
  rw [show (AV.elem (kCells h)).cells = [.elem (kCells h)] from rfl]
  simp only [go_sem, reduceIte, reduceCtorEq, Nat.reduceEqDiff, Nat.reduceBEq, Nat.reduceAdd, Nat.reduceMul, Nat.reduceLeDiff, take_f', List.getElem?_cons_zero, kCells, Nat.reduceLeDiff]
  refine (boilings_c h more (by unfold Sm; have := hv.ok.boiled; omega) hm).go ?_
  simp only [go_sem, reduceIte, reduceCtorEq, Nat.reduceEqDiff, Nat.reduceBEq, Nat.reduceAdd, Nat.reduceMul, Nat.reduceLeDiff]
  refine v_alloc fun b5 hb5 => ?_
  have n25 : b2 ≠ b5 := fun h => by subst h; simp at hb5
  simp only [go_sem, reduceIte, reduceCtorEq, Nat.reduceEqDiff, Nat.reduceBEq, Nat.reduceAdd, Nat.reduceMul, Nat.reduceLeDiff]
  rw [v_store]
  refine ⟨rfl, rfl, by simp [AV.cells, AV.isCell], _, updH_same _ _ _, by simp, ?_⟩
  rw [show (AV.amap (bMap (h.boiled ++ more))).cells = [.amap (bMap (h.boiled ++ more))] from rfl, placeOne]
  simp only [go_sem, reduceIte, reduceCtorEq, Nat.reduceEqDiff, Nat.reduceBEq, Nat.reduceAdd, Nat.reduceMul, Nat.reduceLeDiff, updH_ne _ _ n25, take_f', List.getElem?_cons_zero, List.getElem?_cons_succ]
  have hlen : ∀ c ∈ truH h [], CLen h c := fun c hc => tru_len hv hc
  have e1 := (Ext.refl H).new hb2 (.box [.elem (kCells h)])
  have e2 := (e1.new hb5 (.box [.any])).upd (e1.isNone hb5) (.box [.amap (bMap (h.boiled ++ more))])
  have hcall := all_known (fun x : {c // CLen h c} => eKn h x.1) (fun x => eKn_len h (by have := x.2.own; omega) (by have := x.2.hrs; omega)) ((truH h []).pmap (fun a h => ⟨a, h⟩) hlen) (fun x => safeC h more x.1) 134 [] [.ptr b2 0, .ptr b5 0]
    (by unfold Sm; rw [pmap_mem]; omega) (updH (updH (updH H b2 (.box [.elem (kCells h)])) b5 (.box [.any])) b5 (.box [.amap (bMap (h.boiled ++ more))])) (fun x _ H1 hE1 => safe1_c h hv more x.1 x.2 b2 b5 H1 (hE1 _ _ (by rw [updH_ne _ _ n25, updH_ne _ _ n25]; exact updH_same _ _ _)) (hE1 _ _ (updH_same _ _ _)))
  rw [pmap_map (eKn h) (truH h []) hlen] at hcall
  refine ACalls.mono hcall ?_
  rintro _ _ ⟨rfl, rfl⟩
  simp only [go_sem, reduceIte, reduceCtorEq, Nat.reduceEqDiff, Nat.reduceBEq, Nat.reduceAdd, Nat.reduceMul, Nat.reduceLeDiff]
  refine fin_ret 4 (by simp [upd_at]) ⟨_, H, Settle.refl e2, ?_⟩
  simp only [upd_at, if_true, and_true, AV.bool.injEq, safeP]
  exact pmap_all (safeC h more) (truH h []) hlen
end Go.Lift

set_option linter.unusedSimpArgs false
set_option linter.unusedVariables false
namespace Go.Lift
open Go Go.Proofs
theorem v_isnil {P : Program} {R : AV → AHeap → Prop} {H : AHeap} {es : List (List AV)} (h : ∀ b : Bool, (b = true → es = []) → R (.bool b) H) : aopV P .isnil [.slice es] H R := ⟨es, rfl, h⟩
theorem clone_c (l : List Int) (hl : l.length ≤ 2147483648) (H : AHeap) : ACalls Tryz.prog 85 [.slice (eI l)] H fun r H' => Ext H H' ∧ Grown 1 H H' r (eI l) := by
  refine fn_of hmix fc85 (by simp) ?_
  rw [ienv1]
  simp only [go_sem, reduceIte, reduceCtorEq, Nat.reduceEqDiff, Nat.reduceBEq, Nat.reduceAdd, Nat.reduceMul, Nat.reduceLeDiff, ac85]
  refine v_isnil fun b hb => ?_
  cases b
  · simp only [go_sem, reduceIte, reduceCtorEq, Nat.reduceEqDiff, Nat.reduceBEq, Nat.reduceAdd, Nat.reduceMul, Nat.reduceLeDiff]
    refine v_append (H0 := H) (sz := 1) (.inl ⟨rfl, rfl⟩) (Ext.refl H) rfl (by intro e he; cases he) (eI_good l) (eI_cell l) (by simp; omega) (by simp; omega) ?_
    intro v' H' hg he hk
    simp only [go_sem, reduceIte, reduceCtorEq, Nat.reduceEqDiff, Nat.reduceBEq, Nat.reduceAdd, Nat.reduceMul, Nat.reduceLeDiff]
    refine fin_ret' 2 (by simp [upd_at]) ?_
    simp only [upd_at, if_true]
    exact ⟨he, by simpa using hg⟩
  · simp only [go_sem, reduceIte, reduceCtorEq, Nat.reduceEqDiff, Nat.reduceBEq, Nat.reduceAdd, Nat.reduceMul, Nat.reduceLeDiff]
    refine fin_ret' 2 (by simp [upd_at]) ?_
    simp only [upd_at, if_true]
    exact ⟨Ext.refl H, .inl ⟨rfl, hb rfl⟩⟩
theorem Grown.weakRep {sz : Nat} {H0 H : AHeap} {v : AV} {es : List (List AV)} (g : Grown sz H0 H v es) {w : World} {u : Value} (hr : Rep H w u v) : Rep H w u (.slice es) := by
  rcases g with ⟨rfl, rfl⟩ | ⟨b, cap, rfl, _⟩
  · exact Rep.weaken_emp hr
  · exact Rep.weaken_slice hr
theorem ACalls.arg0 {P : Program} {f : FuncId} {x y : AV} {xs : List AV} {H : AHeap} {R : AV → AHeap → Prop} (h : ∀ w v, Rep H w v x → Rep H w v y) (hc : ACalls P f (y :: xs) H R) : ACalls P f (x :: xs) H R :=
  ACalls.weaken (xs := x :: xs) (ys := y :: xs) rfl (hc := hc) fun i a b ha hb w v hr => by
    cases i with
    | zero => cases ha; cases hb; exact h w v hr
    | succ i => simp only [List.getElem?_cons_succ] at ha hb; rw [ha] at hb; cases hb; exact hr

/-- The first one that will do, or else the last one that was tried. -/
def tryAll (ok : List Int → Bool) (old : List Int) : List (List Int) → List Int
  | [] => old
  | x :: l => if ok x = true then x else tryAll ok x l
theorem tryAll_append (ok : List Int → Bool) : ∀ (l1 : List (List Int)) (old : List Int) (l2 : List (List Int)), tryAll ok old (l1 ++ l2) = if l1.any ok = true then tryAll ok old l1 else tryAll ok (tryAll ok old l1) l2
  | [], old, l2 => rfl
  | x :: l1, old, l2 => by
    simp only [List.cons_append, tryAll, List.any_cons]
    by_cases h : ok x = true
    · simp only [h, if_true, Bool.true_or]
    · simp only [Bool.not_eq_true] at h
      simp only [h, Bool.false_eq_true, if_false, Bool.false_or]; exact tryAll_append ok l1 x l2
/-- All increasing lists of so many numbers more, from one on. -/
def combos (n : Nat) : Nat → List Int → Nat → List (List Int)
  | 0, out, _ => [out]
  | k + 1, out, from_ => (List.range (n - k - from_)).flatMap fun j => combos n k (out ++ [((from_ + j : Nat) : Int)]) (from_ + j + 1)
def FV (fv : AV) (l : List Int) : Prop := (fv = .emp ∧ l = []) ∨ fv = .slice (eI l)
theorem FV.ok {fv : AV} {l : List Int} (h : FV fv l) : fv.ok = true ∧ fv.cells = [fv] ∧ fv.isCell = true := by
  rcases h with ⟨rfl, _⟩ | rfl <;> exact ⟨rfl, rfl, rfl⟩
theorem FV.rep {fv : AV} {l : List Int} (h : FV fv l) {H : AHeap} {w : World} {u : Value} (hr : Rep H w u fv) : Rep H w u (.slice (eI l)) := by
  rcases h with ⟨rfl, rfl⟩ | rfl
  · exact Rep.weaken_emp hr
  · exact hr

theorem boilGo_c (h : House) (hv : HV h) (hour : Int) (bf bw bk bh ba : Nat) (nw : bw ≠ bf) (nk : bk ≠ bf) (nh : bh ≠ bf) (na : ba ≠ bf) :
    ∀ (many : Nat) (out : List Int) (from_ : Nat) (fv : AV) (old : List Int) (H : AHeap), out.length + many ≤ 10 → from_ ≤ 10 → H bf = some (.box [fv]) → FV fv old → H bw = some (.box [.elem (kCells h)]) → H bk = some (.box [i6 hour]) →
      H bh = some (.box [.slice (h.table.women.map eW), .slice (h.table.pieces.map eP), i6 h.table.wrong, .slice (eI h.sick), i6 h.others, i6 h.last, .slice (h.touches.map eTo), .slice (h.boiled.map eB), .slice (h.signs.map eS)])  → H ba = some (.box [.func (.func 100) [] [.ptr bf 0, .ptr bw 0, .ptr bk 0, .ptr bh 0, .ptr ba 0]]) →
      ACalls Tryz.prog 100 [.slice (eI out), i6 from_, i6 many, .ptr bf 0, .ptr bw 0, .ptr bk 0, .ptr bh 0, .ptr ba 0] H fun r H' => r = .bool ((combos (nT h) many out from_).any fun x => safeP h (atOf x hour)) ∧
        (∃ fv', H' bf = some (.box [fv']) ∧ FV fv' (tryAll (fun x => safeP h (atOf x hour)) old (combos (nT h) many out from_))) ∧ ∀ x o, x ≠ bf → H x = some o → H' x = some o := by
  have hnT := nT_le hv.ok
  intro many
  induction many with
  | zero =>
    intro out from_ fv old H hout hfrom hf hfv hw hk hh ha
    refine fn_of hmix fc100 (by simp) ?_
    rw [ienv8]
    simp only [go_sem, reduceIte, reduceCtorEq, Nat.reduceEqDiff, Nat.reduceBEq, Nat.reduceAdd, Nat.reduceMul, Nat.reduceLeDiff, ac100, show ((0 : Nat) : Int) = 0 from rfl]
    rw [v_store]
    refine ⟨rfl, rfl, by simp [AV.cells, AV.isCell], _, hf, by simp, ?_⟩
    rw [show (AV.slice (eI out)).cells = [.slice (eI out)] from rfl, placeOne]
    simp only [go_sem, reduceIte, reduceCtorEq, Nat.reduceEqDiff, Nat.reduceBEq, Nat.reduceAdd, Nat.reduceMul, Nat.reduceLeDiff, updH_ne _ _ nw, updH_ne _ _ nk, hw, hk, take_f', List.getElem?_cons_zero]
    refine pgo_call (at_c out hour (by unfold Sm; omega)) ?_
    simp only [go_sem, reduceIte, reduceCtorEq, Nat.reduceEqDiff, Nat.reduceBEq, Nat.reduceAdd, Nat.reduceMul, Nat.reduceLeDiff]
    refine pgo_call (safe_c h hv (atOf out hour) (by unfold Sm; simp [atOf]; omega)) ?_
    simp only [go_sem, reduceIte, reduceCtorEq, Nat.reduceEqDiff, Nat.reduceBEq, Nat.reduceAdd, Nat.reduceMul, Nat.reduceLeDiff]
    refine fin_ret' 11 (by simp [upd_at]) ?_
    simp only [upd_at, if_true]
    refine ⟨by simp [combos], ⟨_, updH_same _ _ _, ?_⟩, fun x o hx ho => by rw [updH_ne _ _ hx]; exact ho⟩
    have : tryAll (fun x => safeP h (atOf x hour)) old (combos (nT h) 0 out from_) = out := by simp [combos, tryAll]
    rw [this]; exact .inr rfl
  | succ k ih =>
    intro out from_ fv old H hout hfrom hf hfv hw hk hh ha
    refine fn_of hmix fc100 (by simp) ?_
    rw [ienv8]
    have hmne : ¬ (((k + 1 : Nat) : Int) = 0) := by omega
    obtain ⟨cnt, hcnt⟩ : ∃ cnt, cnt = nT h - k - from_ := ⟨_, rfl⟩
    obtain ⟨f, hf'⟩ : ∃ f : Nat → List (List Int), f = fun j => combos (nT h) k (out ++ [((from_ + j : Nat) : Int)]) (from_ + j + 1) := ⟨_, rfl⟩
    have hcomb : combos (nT h) (k + 1) out from_ = (List.range cnt).flatMap f := by rw [hcnt, hf']; rfl
    rw [hcomb]
    obtain ⟨ok, hok⟩ : ∃ ok, ok = fun x => safeP h (atOf x hour) := ⟨_, rfl⟩
    rw [← hok]
    have hsub := w64 (x := (nT h : Int) - ((k + 1 : Nat) : Int)) (by omega) (by omega)
    have hdec : IntKind.i64.wrap (((k + 1 : Nat) : Int) - 1) = (k : Int) := by rw [w64 (by omega) (by omega)]; omega
    simp only [go_sem, reduceIte, reduceCtorEq, Nat.reduceEqDiff, Nat.reduceBEq, Nat.reduceAdd, Nat.reduceMul, Nat.reduceLeDiff, ac100, hmne]
    refine x_for cnt (fun j env H1 => (∀ x o, x ≠ bf → H x = some o → H1 x = some o) ∧ (∃ fv', H1 bf = some (.box [fv']) ∧ FV fv' (tryAll ok old ((List.range j).flatMap f))) ∧ (((List.range j).flatMap f).any ok = false) ∧
        env 0 = .slice (eI out) ∧ env 2 = i6 ((k + 1 : Nat) : Int) ∧ env 6 = .ptr bh 0 ∧ env 7 = .ptr ba 0 ∧ env 12 = i6 ((from_ + j : Nat) : Int) ∧ env 41 = .any)
      ⟨fun _ _ _ h => h, ⟨fv, hf, hfv⟩, rfl, by simp [upd_at], by simp [upd_at], by simp [upd_at], by simp [upd_at], by simp [upd_at], by simp [upd_at]⟩ ?_
    rintro j env H1 hj ⟨hK, ⟨fv1, hf1, hfv1⟩, hany, g0, g2, g6, g7, g12, hN⟩
    have hw1 := hK _ _ nw hw
    have hk1 := hK _ _ nk hk
    have hh1 := hK _ _ nh hh
    have ha1 := hK _ _ na ha
    simp only [go_sem, reduceIte, reduceCtorEq, Nat.reduceEqDiff, Nat.reduceBEq, Nat.reduceAdd, Nat.reduceMul, Nat.reduceLeDiff, g0, g2, g6, g7, g12, hN, hh1]
    refine (things_c h).go ?_
    rw [thingsW_ok hv.ok]
    by_cases hlt : ((from_ + j : Nat) : Int) ≤ (nT h : Int) - ((k + 1 : Nat) : Int)
    · have hltc : j < cnt := by omega
      simp only [go_sem, reduceIte, reduceCtorEq, Nat.reduceEqDiff, Nat.reduceBEq, Nat.reduceAdd, Nat.reduceMul, Nat.reduceLeDiff, g0, g2, g6, g7, g12, hN, hsub, hlt, hdec, ha1, take_f', List.getElem?_cons_zero, wsucc (show from_ + j < 4611686018427387904 by omega)]
      refine ACalls.mono (clone_c out (by omega) H1) ?_
      rintro r H2 ⟨hE2, hG2⟩
      simp only [go_sem, reduceIte, reduceCtorEq, Nat.reduceEqDiff, Nat.reduceBEq, Nat.reduceAdd, Nat.reduceMul, Nat.reduceLeDiff, g7, hE2 _ _ ha1, take_f', List.getElem?_cons_zero]
      refine v_append hG2 hE2 rfl (eI_good _) (one_good _) (one_cell _) (by simp; omega) (by simp; omega) ?_
      intro v' H3 hg' he' hk'
      simp only [go_sem, reduceIte, reduceCtorEq, Nat.reduceEqDiff, Nat.reduceBEq, Nat.reduceAdd, Nat.reduceMul, Nat.reduceLeDiff, g7, he' _ _ ha1, take_f', List.getElem?_cons_zero, List.nil_append, List.cons_append]
      refine ACalls.arg0 (y := .slice (eI (out ++ [((from_ + j : Nat) : Int)]))) (fun w v hr => by rw [eI_app]; exact hg'.weakRep hr) ?_
      have hcall := ih (out ++ [((from_ + j : Nat) : Int)]) (from_ + j + 1) fv1 _ H3 (by simp; omega) (by omega) (he' _ _ hf1) hfv1 (he' _ _ hw1) (he' _ _ hk1) (he' _ _ hh1) (he' _ _ ha1)
      rw [← hok] at hcall
      refine hcall.mono ?_
      rintro r H4 ⟨rfl, ⟨fv', hf4, hfv4⟩, hK4⟩
      have hKall : ∀ x o, x ≠ bf → H x = some o → H4 x = some o := fun x o hx ho => hK4 x o hx (he' _ _ (hK x o hx ho))
      have hfj : f j = combos (nT h) k (out ++ [((from_ + j : Nat) : Int)]) (from_ + j + 1) := by rw [hf']
      rw [← hfj] at hfv4 ⊢
      have hsucc : (List.range (j + 1)).flatMap f = (List.range j).flatMap f ++ f j := by rw [List.range_succ, List.flatMap_append]; simp
      have htry : tryAll ok old ((List.range (j + 1)).flatMap f) = tryAll ok (tryAll ok old ((List.range j).flatMap f)) (f j) := by rw [hsucc, tryAll_append, hany]; rfl
      cases hr : (f j).any ok
      · simp only [go_sem, reduceIte, reduceCtorEq, Nat.reduceEqDiff, Nat.reduceBEq, Nat.reduceAdd, Nat.reduceMul, Nat.reduceLeDiff, g0, g2, g6, g7, g12, hN, wsucc (show from_ + j < 4611686018427387904 by omega), hltc]
        refine ⟨hKall, ⟨fv', hf4, by (try rw [← List.range_succ]); rw [htry]; exact hfv4⟩, by (try rw [← List.range_succ]); rw [hsucc, List.any_append, hany, hr]; rfl, by rw [Nat.add_assoc]⟩
      · simp only [go_sem, reduceIte, reduceCtorEq, Nat.reduceEqDiff, Nat.reduceBEq, Nat.reduceAdd, Nat.reduceMul, Nat.reduceLeDiff, hN]
        refine fin_ret' 11 (by simp [upd_at, hN]) ?_
        simp only [upd_at, if_true]
        have hfull : (List.range cnt).flatMap f = (List.range (j + 1)).flatMap f ++ ((List.range (cnt - (j + 1))).map fun i => j + 1 + i).flatMap f := by
          rw [← List.flatMap_append]
          congr 1
          have : cnt = (j + 1) + (cnt - (j + 1)) := by omega
          conv => lhs; rw [this]
          rw [List.range_add]
        have hany2 : ((List.range (j + 1)).flatMap f).any ok = true := by rw [hsucc, List.any_append, hr, Bool.or_true]
        refine ⟨?_, ⟨fv', hf4, ?_⟩, hKall⟩
        · rw [hfull, List.any_append, hany2]; rfl
        · rw [hfull, tryAll_append, hany2, if_pos rfl, htry]; exact hfv4
    · simp only [go_sem, reduceIte, reduceCtorEq, Nat.reduceEqDiff, Nat.reduceBEq, Nat.reduceAdd, Nat.reduceMul, Nat.reduceLeDiff, g0, g2, g6, g7, g12, hN, hsub, hlt]
      have : j = cnt := by omega
      subst this
      refine fin_ret' 11 (by simp [upd_at, hN]) ?_
      simp only [upd_at, if_true]
      exact ⟨by rw [hany], ⟨fv1, hf1, hfv1⟩, hK⟩
end Go.Lift

set_option linter.unusedSimpArgs false
set_option linter.unusedVariables false
namespace Go.Lift
open Go Go.Proofs
def boilAll (h : House) (m : Nat) : List (List Int) := (List.range m).flatMap fun k => combos (nT h) k [] 0
def boilOf' (h : House) (hour : Int) : List Int := tryAll (fun x => safeP h (atOf x hour)) [] (boilAll h (nT h + 1))
theorem settle_fv {H1 H : AHeap} {v : AV} {l : List Int} {n : Int} (g : FV v l) (e : Ext H H1) : Settle H1 (.tup [v, i6 n]) H (.tup [.slice (eI l), i6 n]) :=
  settle_tup e fun w u hH hr => (g.rep hr).mono (Evolve.drop e)
theorem range_split {α : Type} (f : Nat → List α) {j cnt : Nat} (h : j < cnt) : ∃ r, (List.range cnt).flatMap f = (List.range (j + 1)).flatMap f ++ r := by
  refine ⟨((List.range (cnt - (j + 1))).map fun i => j + 1 + i).flatMap f, ?_⟩
  rw [← List.flatMap_append]
  congr 1
  have : cnt = (j + 1) + (cnt - (j + 1)) := by omega
  conv => lhs; rw [this]
  rw [List.range_add]
theorem boil_c (h : House) (hs : TSm h.table) (hsk : Sm h.sick.length) (hour : Int) : Pure Tryz.prog 44 [eH h, i6 hour] (listR (askErrH h (hourOK h hour)) (boilOf' h hour)) := by
  intro H
  refine fn_of hmix fc44 (by simp) ?_
  rw [ienv2]
  simp only [go_sem, reduceIte, reduceCtorEq, Nat.reduceEqDiff, Nat.reduceBEq, Nat.reduceAdd, Nat.reduceMul, Nat.reduceLeDiff, ac44, eH]
  refine v_box _ rfl fun b2 hb2 => ?_
  simp only [go_sem, reduceIte, reduceCtorEq, Nat.reduceEqDiff, Nat.reduceBEq, Nat.reduceAdd, Nat.reduceMul, Nat.reduceLeDiff]
  refine v_box _ rfl fun b3 hb3 => ?_
  have n23 : b2 ≠ b3 := fun h => by subst h; simp at hb3
  simp only [go_sem, reduceIte, reduceCtorEq, Nat.reduceEqDiff, Nat.reduceBEq, Nat.reduceAdd, Nat.reduceMul, Nat.reduceLeDiff, updH_ne _ _ n23, take_f', List.getElem?_cons_zero]
  refine pgo_call (hour_c h hour) ?_
  simp only [go_sem, reduceIte, reduceCtorEq, Nat.reduceEqDiff, Nat.reduceBEq, Nat.reduceAdd, Nat.reduceMul, Nat.reduceLeDiff]
  refine pgo_call (askedH_c h hs hsk (hourOK h hour)) ?_
  have e1 := (Ext.refl H).new hb2 (.box [.slice (h.table.women.map eW), .slice (h.table.pieces.map eP), i6 h.table.wrong, .slice (eI h.sick), i6 h.others, i6 h.last, .slice (h.touches.map eTo), .slice (h.boiled.map eB), .slice (h.signs.map eS)])
  have z3 : H b3 = none := e1.isNone hb3
  have e2 := e1.new hb3 (.box [i6 hour])
  by_cases c1 : askErrH h (hourOK h hour) = 0
  rotate_left
  · simp only [go_sem, reduceIte, reduceCtorEq, Nat.reduceEqDiff, Nat.reduceBEq, Nat.reduceAdd, Nat.reduceMul, Nat.reduceLeDiff, askedR, c1, List.getElem?_cons_zero, List.getElem?_cons_succ]
    refine v_alloc fun b6 hb6 => ?_
    have n26 : b2 ≠ b6 := fun h => by subst h; simp [updH, n23] at hb6
    have n36 : b3 ≠ b6 := fun h => by subst h; simp at hb6
    simp only [go_sem, reduceIte, reduceCtorEq, Nat.reduceEqDiff, Nat.reduceBEq, Nat.reduceAdd, Nat.reduceMul, Nat.reduceLeDiff, updH_ne _ _ n26, updH_ne _ _ n36, updH_ne _ _ n23, take_f', List.getElem?_cons_zero]
    rw [v_store]
    refine ⟨rfl, rfl, by simp [AV.cells, AV.isCell], _, updH_same _ _ _, by simp, ?_⟩
    simp only [go_sem, reduceIte, reduceCtorEq, Nat.reduceEqDiff, Nat.reduceBEq, Nat.reduceAdd, Nat.reduceMul, Nat.reduceLeDiff, List.getElem?_cons_zero, List.getElem?_cons_succ, c1]
    refine fin_ret2 4 5 (by simp [upd_at]) ⟨_, H, Settle.refl ((e2.new hb6 _).upd (e2.isNone hb6) _), ?_, rfl⟩
    simp [upd_at, listR, c1]
  have hv := hv_ask hs hsk c1
  have hnT := nT_le hv.ok
  simp only [go_sem, reduceIte, reduceCtorEq, Nat.reduceEqDiff, Nat.reduceBEq, Nat.reduceAdd, Nat.reduceMul, Nat.reduceLeDiff, askedR, c1, List.getElem?_cons_zero, List.getElem?_cons_succ]
  refine v_alloc fun b6 hb6 => ?_
  have n26 : b2 ≠ b6 := fun h => by subst h; simp [updH, n23] at hb6
  have n36 : b3 ≠ b6 := fun h => by subst h; simp at hb6
  have z6 : H b6 = none := e2.isNone hb6
  have e3 := (e2.new hb6 (.box [.nilp])).upd z6 (.box [.elem (kCells h)])
  simp only [go_sem, reduceIte, reduceCtorEq, Nat.reduceEqDiff, Nat.reduceBEq, Nat.reduceAdd, Nat.reduceMul, Nat.reduceLeDiff, updH_ne _ _ n26, updH_ne _ _ n36, updH_ne _ _ n23, take_f', List.getElem?_cons_zero]
  rw [v_store]
  refine ⟨rfl, rfl, by simp [AV.cells, AV.isCell, kCells], _, updH_same _ _ _, by simp, ?_⟩
  rw [show (AV.elem (kCells h)).cells = [.elem (kCells h)] from rfl, placeOne]
  simp only [go_sem, reduceIte, reduceCtorEq, Nat.reduceEqDiff, Nat.reduceBEq, Nat.reduceAdd, Nat.reduceMul, Nat.reduceLeDiff, List.getElem?_cons_zero, List.getElem?_cons_succ]
  refine v_alloc fun b8 hb8 => ?_
  have n28 : b2 ≠ b8 := fun h => by subst h; simp [updH, n23, n26] at hb8
  have n38 : b3 ≠ b8 := fun h => by subst h; simp [updH, n36] at hb8
  have n68 : b6 ≠ b8 := fun h => by subst h; simp at hb8
  have z8 : H b8 = none := e3.isNone hb8
  have e4 := e3.new hb8 (.box [.emp])
  simp only [go_sem, reduceIte, reduceCtorEq, Nat.reduceEqDiff, Nat.reduceBEq, Nat.reduceAdd, Nat.reduceMul, Nat.reduceLeDiff]
  refine v_alloc fun b9 hb9 => ?_
  have n29 : b2 ≠ b9 := fun h => by subst h; simp [updH, n23, n26, n28] at hb9
  have n39 : b3 ≠ b9 := fun h => by subst h; simp [updH, n36, n38] at hb9
  have n69 : b6 ≠ b9 := fun h => by subst h; simp [updH, n68] at hb9
  have n89 : b8 ≠ b9 := fun h => by subst h; simp at hb9
  have z9 : H b9 = none := e4.isNone hb9
  simp only [go_sem, reduceIte, reduceCtorEq, Nat.reduceEqDiff, Nat.reduceBEq, Nat.reduceAdd, Nat.reduceMul, Nat.reduceLeDiff]
  rw [v_store]
  refine ⟨rfl, rfl, by simp [AV.cells, AV.isCell], _, updH_same _ _ _, by simp, ?_⟩
  have e5 := (e4.new hb9 (.box [.nilf])).upd z9 (.box [.func (.func 100) [] [.ptr b8 0, .ptr b6 0, .ptr b3 0, .ptr b2 0, .ptr b9 0]])
  simp only [c_func, placeOne]
  generalize hHH : updH (updH (updH (updH (updH (updH (updH H b2 (.box [.slice (h.table.women.map eW), .slice (h.table.pieces.map eP), i6 h.table.wrong, .slice (eI h.sick), i6 h.others, i6 h.last, .slice (h.touches.map eTo), .slice (h.boiled.map eB), .slice (h.signs.map eS)])) b3 (.box [i6 hour])) b6 (.box [.nilp])) b6 (.box [.elem (kCells h)])) b8 (.box [.emp])) b9 (.box [.nilf])) b9 (.box [.func (.func 100) [] [.ptr b8 0, .ptr b6 0, .ptr b3 0, .ptr b2 0, .ptr b9 0]]) = HH at e5 ⊢
  have B2 : HH b2 = some (.box [.slice (h.table.women.map eW), .slice (h.table.pieces.map eP), i6 h.table.wrong, .slice (eI h.sick), i6 h.others, i6 h.last, .slice (h.touches.map eTo), .slice (h.boiled.map eB), .slice (h.signs.map eS)]) := by subst hHH; simp [updH, n23, n26, n28, n29]
  have B3 : HH b3 = some (.box [i6 hour]) := by subst hHH; simp [updH, n36, n38, n39]
  have B6 : HH b6 = some (.box [.elem (kCells h)]) := by subst hHH; simp [updH, n68, n69]
  have B8 : HH b8 = some (.box [.emp]) := by subst hHH; simp [updH, n89]
  have B9 : HH b9 = some (.box [.func (.func 100) [] [.ptr b8 0, .ptr b6 0, .ptr b3 0, .ptr b2 0, .ptr b9 0]]) := by subst hHH; simp [updH]
  clear hHH
  simp only [go_sem, reduceIte, reduceCtorEq, Nat.reduceEqDiff, Nat.reduceBEq, Nat.reduceAdd, Nat.reduceMul, Nat.reduceLeDiff, B2]
  refine (things_c h).go ?_
  rw [thingsW_ok hv.ok]
  obtain ⟨ok, hok⟩ : ∃ ok, ok = fun x => safeP h (atOf x hour) := ⟨_, rfl⟩
  simp only [go_sem, reduceIte, reduceCtorEq, Nat.reduceEqDiff, Nat.reduceBEq, Nat.reduceAdd, Nat.reduceMul, Nat.reduceLeDiff, wsucc (show nT h < 4611686018427387904 by omega)]
  refine x_for (nT h + 1) (fun j env H1 => (∀ x o, x ≠ b8 → HH x = some o → H1 x = some o) ∧ (∃ fv', H1 b8 = some (.box [fv']) ∧ FV fv' (tryAll ok [] (boilAll h j))) ∧ ((boilAll h j).any ok = false) ∧
      env 8 = .ptr b8 0 ∧ env 9 = .ptr b9 0 ∧ env 25 = i6 ((nT h + 1 : Nat) : Int) ∧ env 26 = i6 j ∧ env 34 = .any)
    ⟨fun _ _ _ h => h, ⟨_, B8, .inl ⟨rfl, rfl⟩⟩, rfl, by simp [upd_at], by simp [upd_at], by simp [upd_at], by simp [upd_at], by simp [upd_at]⟩ ?_
  rintro j env H1 hj ⟨hK, ⟨fv1, hf1, hfv1⟩, hany, g8, g9, g25, g26, hN⟩
  have hExt : ∀ (H1 : AHeap), (∀ x o, x ≠ b8 → HH x = some o → H1 x = some o) → Ext H H1 := fun H1 hK x o hx => hK x o (fun h => by rw [h, z8] at hx; cases hx) (e5 x o hx)
  have fin0 : ∀ (H1 : AHeap) (fv : AV), Ext H H1 → FV fv (boilOf' h hour) → ∃ r' H2, Settle H1 (.tup [fv, i6 0]) H2 r' ∧ (r' = listR 0 (boilOf' h hour) ∧ H2 = H) := fun H1 fv hE hg =>
    ⟨.tup [.slice (eI (boilOf' h hour)), i6 0], H, settle_fv hg hE, rfl, rfl⟩
  by_cases hlt : (j : Int) < ((nT h + 1 : Nat) : Int)
  · have hlt' : j < nT h + 1 := by omega
    have hK9 := hK _ _ n89.symm B9
    simp only [go_sem, reduceIte, reduceCtorEq, Nat.reduceEqDiff, Nat.reduceBEq, Nat.reduceAdd, Nat.reduceMul, Nat.reduceLeDiff, g8, g9, g25, g26, hN, hlt, hK9, take_f', List.getElem?_cons_zero, List.nil_append, List.cons_append]
    refine ACalls.arg0 (y := .slice (eI [])) (fun w v hr => Rep.weaken_emp hr) ?_
    have hcall := boilGo_c h hv hour b8 b6 b3 b2 b9 n68 n38 n28 n89.symm j [] 0 fv1 _ H1 (by simp; omega) (by omega) hf1 hfv1 (hK _ _ n68 B6) (hK _ _ n38 B3) (hK _ _ n28 B2) hK9
    rw [← hok] at hcall
    refine hcall.mono ?_
    rintro r H4 ⟨rfl, ⟨fv', hf4, hfv4⟩, hK4⟩
    have hKall : ∀ x o, x ≠ b8 → HH x = some o → H4 x = some o := fun x o hx ho => hK4 x o hx (hK x o hx ho)
    have hsucc : boilAll h (j + 1) = boilAll h j ++ combos (nT h) j [] 0 := by simp only [boilAll]; rw [List.range_succ, List.flatMap_append]; simp
    have htry : tryAll ok [] (boilAll h (j + 1)) = tryAll ok (tryAll ok [] (boilAll h j)) (combos (nT h) j [] 0) := by rw [hsucc, tryAll_append, hany]; rfl
    cases hr : (combos (nT h) j [] 0).any ok
    · simp only [go_sem, reduceIte, reduceCtorEq, Nat.reduceEqDiff, Nat.reduceBEq, Nat.reduceAdd, Nat.reduceMul, Nat.reduceLeDiff, g8, g9, g25, g26, hN, wsucc (show j < 4611686018427387904 by omega), hlt']
      exact ⟨hKall, ⟨fv', hf4, by rw [htry]; exact hfv4⟩, by rw [hsucc, List.any_append, hany, hr]; rfl⟩
    · simp only [go_sem, reduceIte, reduceCtorEq, Nat.reduceEqDiff, Nat.reduceBEq, Nat.reduceAdd, Nat.reduceMul, Nat.reduceLeDiff, g8, hN, hf4, take_f', List.getElem?_cons_zero]
      refine fin_ret2 4 5 (by simp [upd_at, hN]) ?_
      simp only [upd_at, if_true, Nat.reduceEqDiff, if_false]
      refine fin0 H4 fv' (hExt H4 hKall) ?_
      obtain ⟨r, hr2⟩ := range_split (fun k => combos (nT h) k [] 0) hlt'
      have hany2 : (boilAll h (j + 1)).any ok = true := by rw [hsucc, List.any_append, hr, Bool.or_true]
      have : boilAll h (nT h + 1) = boilAll h (j + 1) ++ r := hr2
      rw [boilOf', ← hok, this, tryAll_append, hany2, if_pos rfl, htry]; exact hfv4
  · have : j = nT h + 1 := by omega
    subst this
    simp only [go_sem, reduceIte, reduceCtorEq, Nat.reduceEqDiff, Nat.reduceBEq, Nat.reduceAdd, Nat.reduceMul, Nat.reduceLeDiff, g8, g9, g25, g26, hN, hlt, hf1, take_f', List.getElem?_cons_zero]
    refine fin_ret2 4 5 (by simp [upd_at, hN]) ?_
    simp only [upd_at, if_true, Nat.reduceEqDiff, if_false]
    exact fin0 H1 fv1 (hExt H1 hK) (by rw [boilOf', ← hok]; exact hfv1)
end Go.Lift

set_option linter.unusedSimpArgs false
set_option linter.unusedVariables false
namespace Go.Lift
open Go Go.Proofs
/-- All lists of so many things more. -/
def orders (n : Nat) : Nat → List Int → List (List Int)
  | 0, out => [out]
  | k + 1, out => (List.range n).flatMap fun j => orders n k (out ++ [((j : Nat) : Int)])
theorem orderGo_c (h : House) (hv : HV h) (hour : Int) (bf bw bk bh ba : Nat) (nw : bw ≠ bf) (nk : bk ≠ bf) (nh : bh ≠ bf) (na : ba ≠ bf) :
    ∀ (many : Nat) (out : List Int) (fv : AV) (old : List Int) (H : AHeap), out.length + many ≤ 10 → H bf = some (.box [fv]) → FV fv old → H bw = some (.box [.elem (kCells h)]) → H bk = some (.box [i6 hour]) →
      H bh = some (.box [.slice (h.table.women.map eW), .slice (h.table.pieces.map eP), i6 h.table.wrong, .slice (eI h.sick), i6 h.others, i6 h.last, .slice (h.touches.map eTo), .slice (h.boiled.map eB), .slice (h.signs.map eS)]) → H ba = some (.box [.func (.func 107) [] [.ptr bf 0, .ptr bw 0, .ptr bk 0, .ptr bh 0, .ptr ba 0]]) →
      ACalls Tryz.prog 107 [.slice (eI out), i6 many, .ptr bf 0, .ptr bw 0, .ptr bk 0, .ptr bh 0, .ptr ba 0] H fun r H' => r = .bool ((orders (nT h) many out).any fun x => safeP h (rowOf x hour)) ∧
        (∃ fv', H' bf = some (.box [fv']) ∧ FV fv' (tryAll (fun x => safeP h (rowOf x hour)) old (orders (nT h) many out))) ∧ ∀ x o, x ≠ bf → H x = some o → H' x = some o := by
  have hnT := nT_le hv.ok
  intro many
  induction many with
  | zero =>
    intro out fv old H hout hf hfv hw hk hh ha
    refine fn_of hmix fc107 (by simp) ?_
    rw [ienv7]
    simp only [go_sem, reduceIte, reduceCtorEq, Nat.reduceEqDiff, Nat.reduceBEq, Nat.reduceAdd, Nat.reduceMul, Nat.reduceLeDiff, ac107, show ((0 : Nat) : Int) = 0 from rfl]
    rw [v_store]
    refine ⟨rfl, rfl, by simp [AV.cells, AV.isCell], _, hf, by simp, ?_⟩
    rw [show (AV.slice (eI out)).cells = [.slice (eI out)] from rfl, placeOne]
    simp only [go_sem, reduceIte, reduceCtorEq, Nat.reduceEqDiff, Nat.reduceBEq, Nat.reduceAdd, Nat.reduceMul, Nat.reduceLeDiff, updH_ne _ _ nw, updH_ne _ _ nk, hw, hk, take_f', List.getElem?_cons_zero]
    refine pgo_call (row_c out hour (by unfold Sm; omega)) ?_
    simp only [go_sem, reduceIte, reduceCtorEq, Nat.reduceEqDiff, Nat.reduceBEq, Nat.reduceAdd, Nat.reduceMul, Nat.reduceLeDiff]
    refine pgo_call (safe_c h hv (rowOf out hour) (by unfold Sm; simp [rowOf]; omega)) ?_
    simp only [go_sem, reduceIte, reduceCtorEq, Nat.reduceEqDiff, Nat.reduceBEq, Nat.reduceAdd, Nat.reduceMul, Nat.reduceLeDiff]
    refine fin_ret' 9 (by simp [upd_at]) ?_
    simp only [upd_at, if_true]
    refine ⟨by simp [orders], ⟨_, updH_same _ _ _, ?_⟩, fun x o hx ho => by rw [updH_ne _ _ hx]; exact ho⟩
    have : tryAll (fun x => safeP h (rowOf x hour)) old (orders (nT h) 0 out) = out := by simp [orders, tryAll]
    rw [this]; exact .inr rfl
  | succ k ih =>
    intro out fv old H hout hf hfv hw hk hh ha
    refine fn_of hmix fc107 (by simp) ?_
    rw [ienv7]
    have hmne : ¬ (((k + 1 : Nat) : Int) = 0) := by omega
    obtain ⟨f, hf'⟩ : ∃ f : Nat → List (List Int), f = fun j => orders (nT h) k (out ++ [((j : Nat) : Int)]) := ⟨_, rfl⟩
    have hcomb : orders (nT h) (k + 1) out = (List.range (nT h)).flatMap f := by rw [hf']; rfl
    rw [hcomb]
    obtain ⟨ok, hok⟩ : ∃ ok, ok = fun x => safeP h (rowOf x hour) := ⟨_, rfl⟩
    rw [← hok]
    have hdec : IntKind.i64.wrap (((k + 1 : Nat) : Int) - 1) = (k : Int) := by rw [w64 (by omega) (by omega)]; omega
    simp only [go_sem, reduceIte, reduceCtorEq, Nat.reduceEqDiff, Nat.reduceBEq, Nat.reduceAdd, Nat.reduceMul, Nat.reduceLeDiff, ac107, hmne, hh]
    refine (things_c h).go ?_
    rw [thingsW_ok hv.ok]
    simp only [go_sem, reduceIte, reduceCtorEq, Nat.reduceEqDiff, Nat.reduceBEq, Nat.reduceAdd, Nat.reduceMul, Nat.reduceLeDiff]
    refine x_for (nT h) (fun j env H1 => (∀ x o, x ≠ bf → H x = some o → H1 x = some o) ∧ (∃ fv', H1 bf = some (.box [fv']) ∧ FV fv' (tryAll ok old ((List.range j).flatMap f))) ∧ (((List.range j).flatMap f).any ok = false) ∧
        env 0 = .slice (eI out) ∧ env 1 = i6 ((k + 1 : Nat) : Int) ∧ env 6 = .ptr ba 0 ∧ env 20 = i6 (nT h) ∧ env 21 = i6 j ∧ env 34 = .any)
      ⟨fun _ _ _ h => h, ⟨fv, hf, hfv⟩, rfl, by simp [upd_at], by simp [upd_at], by simp [upd_at], by simp [upd_at], by simp [upd_at], by simp [upd_at]⟩ ?_
    rintro j env H1 hj ⟨hK, ⟨fv1, hf1, hfv1⟩, hany, g0, g1, g6, g20, g21, hN⟩
    have hw1 := hK _ _ nw hw
    have hk1 := hK _ _ nk hk
    have hh1 := hK _ _ nh hh
    have ha1 := hK _ _ na ha
    by_cases hlt : (j : Int) < (nT h : Int)
    · have hltc : j < nT h := by omega
      simp only [go_sem, reduceIte, reduceCtorEq, Nat.reduceEqDiff, Nat.reduceBEq, Nat.reduceAdd, Nat.reduceMul, Nat.reduceLeDiff, g0, g1, g6, g20, g21, hN, hlt, hdec, ha1, take_f', List.getElem?_cons_zero]
      refine ACalls.mono (clone_c out (by omega) H1) ?_
      rintro r H2 ⟨hE2, hG2⟩
      simp only [go_sem, reduceIte, reduceCtorEq, Nat.reduceEqDiff, Nat.reduceBEq, Nat.reduceAdd, Nat.reduceMul, Nat.reduceLeDiff, g6, hE2 _ _ ha1, take_f', List.getElem?_cons_zero]
      refine v_append hG2 hE2 rfl (eI_good _) (one_good _) (one_cell _) (by simp; omega) (by simp; omega) ?_
      intro v' H3 hg' he' hk'
      simp only [go_sem, reduceIte, reduceCtorEq, Nat.reduceEqDiff, Nat.reduceBEq, Nat.reduceAdd, Nat.reduceMul, Nat.reduceLeDiff, g6, he' _ _ ha1, take_f', List.getElem?_cons_zero, List.nil_append, List.cons_append]
      refine ACalls.arg0 (y := .slice (eI (out ++ [((j : Nat) : Int)]))) (fun w v hr => by rw [eI_app]; exact hg'.weakRep hr) ?_
      have hcall := ih (out ++ [((j : Nat) : Int)]) fv1 _ H3 (by simp; omega) (he' _ _ hf1) hfv1 (he' _ _ hw1) (he' _ _ hk1) (he' _ _ hh1) (he' _ _ ha1)
      rw [← hok] at hcall
      refine hcall.mono ?_
      rintro r H4 ⟨rfl, ⟨fv', hf4, hfv4⟩, hK4⟩
      have hKall : ∀ x o, x ≠ bf → H x = some o → H4 x = some o := fun x o hx ho => hK4 x o hx (he' _ _ (hK x o hx ho))
      have hfj : f j = orders (nT h) k (out ++ [((j : Nat) : Int)]) := by rw [hf']
      rw [← hfj] at hfv4 ⊢
      have hsucc : (List.range (j + 1)).flatMap f = (List.range j).flatMap f ++ f j := by rw [List.range_succ, List.flatMap_append]; simp
      have htry : tryAll ok old ((List.range (j + 1)).flatMap f) = tryAll ok (tryAll ok old ((List.range j).flatMap f)) (f j) := by rw [hsucc, tryAll_append, hany]; rfl
      cases hr : (f j).any ok
      · simp only [go_sem, reduceIte, reduceCtorEq, Nat.reduceEqDiff, Nat.reduceBEq, Nat.reduceAdd, Nat.reduceMul, Nat.reduceLeDiff, g0, g1, g6, g20, g21, hN, wsucc (show j < 4611686018427387904 by omega), hltc]
        exact ⟨hKall, ⟨fv', hf4, by (try rw [← List.range_succ]); rw [htry]; exact hfv4⟩, by (try rw [← List.range_succ]); rw [hsucc, List.any_append, hany, hr]; rfl⟩
      · simp only [go_sem, reduceIte, reduceCtorEq, Nat.reduceEqDiff, Nat.reduceBEq, Nat.reduceAdd, Nat.reduceMul, Nat.reduceLeDiff, hN]
        refine fin_ret' 9 (by simp [upd_at, hN]) ?_
        simp only [upd_at, if_true]
        obtain ⟨r, hfull⟩ := range_split f hltc
        have hany2 : ((List.range (j + 1)).flatMap f).any ok = true := by rw [hsucc, List.any_append, hr, Bool.or_true]
        refine ⟨?_, ⟨fv', hf4, ?_⟩, hKall⟩
        · rw [hfull, List.any_append, hany2]; rfl
        · rw [hfull, tryAll_append, hany2, if_pos rfl, htry]; exact hfv4
    · simp only [go_sem, reduceIte, reduceCtorEq, Nat.reduceEqDiff, Nat.reduceBEq, Nat.reduceAdd, Nat.reduceMul, Nat.reduceLeDiff, g0, g1, g6, g20, g21, hN, hlt]
      have : j = nT h := by omega
      subst this
      refine fin_ret' 9 (by simp [upd_at, hN]) ?_
      simp only [upd_at, if_true]
      exact ⟨by rw [hany], ⟨fv1, hf1, hfv1⟩, hK⟩
def orderAll (h : House) (m : Nat) : List (List Int) := (List.range m).flatMap fun k => orders (nT h) k []
def orderN (h : House) (hour : Int) : Nat := (longestOf h hour).toNat
def orderL (h : House) (hour : Int) : List (List Int) := orderAll h (orderN h hour + 1)
def orderOf (h : House) (hour : Int) : List Int := tryAll (fun x => safeP h (rowOf x hour)) [] (orderL h hour)
def orderE (h : House) (hour : Int) : Int := if askErrH h (hourOK h hour) = 0 then (if ((orderL h hour).any fun x => safeP h (rowOf x hour)) = true then 0 else 10) else askErrH h (hourOK h hour)
theorem ask_fine {h : House} {f : Bool} (he : askErrH h f = 0) : f = true := by
  cases f
  · rw [askErrH] at he
    split at he
    · cases he
    · rename_i h1; exact absurd he h1
  · rfl
theorem longest_ok {h : House} (hk : HOK h) {hour : Int} (hh : hourOK h hour = true) : ∃ n : Nat, longestOf h hour = (n : Int) ∧ n ≤ 3 ∧ (n : Int) ≤ h.last - hour + 1 := by
  obtain ⟨m, h1, h2⟩ := hk.last
  simp only [hourOK, decide_eq_true_eq] at hh
  have e1 := w64 (x := h.last - hour) (by omega) (by omega)
  have e2 := w64 (x := h.last - hour + 1) (by omega) (by omega)
  refine ⟨(longestOf h hour).toNat, ?_, ?_, ?_⟩ <;> simp only [longestOf, e1, e2] <;> split <;> omega
theorem order_c (h : House) (hs : TSm h.table) (hsk : Sm h.sick.length) (hour : Int) : Pure Tryz.prog 58 [eH h, i6 hour] (listR (orderE h hour) (orderOf h hour)) := by
  intro H
  refine fn_of hmix fc58 (by simp) ?_
  rw [ienv2]
  simp only [go_sem, reduceIte, reduceCtorEq, Nat.reduceEqDiff, Nat.reduceBEq, Nat.reduceAdd, Nat.reduceMul, Nat.reduceLeDiff, ac58, eH]
  refine v_box _ rfl fun b2 hb2 => ?_
  simp only [go_sem, reduceIte, reduceCtorEq, Nat.reduceEqDiff, Nat.reduceBEq, Nat.reduceAdd, Nat.reduceMul, Nat.reduceLeDiff]
  refine v_box _ rfl fun b3 hb3 => ?_
  have n23 : b2 ≠ b3 := fun h => by subst h; simp at hb3
  simp only [go_sem, reduceIte, reduceCtorEq, Nat.reduceEqDiff, Nat.reduceBEq, Nat.reduceAdd, Nat.reduceMul, Nat.reduceLeDiff, updH_ne _ _ n23, take_f', List.getElem?_cons_zero]
  refine pgo_call (hour_c h hour) ?_
  simp only [go_sem, reduceIte, reduceCtorEq, Nat.reduceEqDiff, Nat.reduceBEq, Nat.reduceAdd, Nat.reduceMul, Nat.reduceLeDiff]
  refine pgo_call (askedH_c h hs hsk (hourOK h hour)) ?_
  have e1 := (Ext.refl H).new hb2 (.box [.slice (h.table.women.map eW), .slice (h.table.pieces.map eP), i6 h.table.wrong, .slice (eI h.sick), i6 h.others, i6 h.last, .slice (h.touches.map eTo), .slice (h.boiled.map eB), .slice (h.signs.map eS)])
  have z3 : H b3 = none := e1.isNone hb3
  have e2 := e1.new hb3 (.box [i6 hour])
  by_cases c1 : askErrH h (hourOK h hour) = 0
  rotate_left
  · have hres : orderE h hour = askErrH h (hourOK h hour) := by rw [orderE, if_neg c1]
    simp only [go_sem, reduceIte, reduceCtorEq, Nat.reduceEqDiff, Nat.reduceBEq, Nat.reduceAdd, Nat.reduceMul, Nat.reduceLeDiff, askedR, c1, List.getElem?_cons_zero, List.getElem?_cons_succ]
    refine v_alloc fun b6 hb6 => ?_
    have n26 : b2 ≠ b6 := fun h => by subst h; simp [updH, n23] at hb6
    have n36 : b3 ≠ b6 := fun h => by subst h; simp at hb6
    simp only [go_sem, reduceIte, reduceCtorEq, Nat.reduceEqDiff, Nat.reduceBEq, Nat.reduceAdd, Nat.reduceMul, Nat.reduceLeDiff, updH_ne _ _ n26, updH_ne _ _ n36, updH_ne _ _ n23, take_f', List.getElem?_cons_zero]
    rw [v_store]
    refine ⟨rfl, rfl, by simp [AV.cells, AV.isCell], _, updH_same _ _ _, by simp, ?_⟩
    simp only [go_sem, reduceIte, reduceCtorEq, Nat.reduceEqDiff, Nat.reduceBEq, Nat.reduceAdd, Nat.reduceMul, Nat.reduceLeDiff, List.getElem?_cons_zero, List.getElem?_cons_succ, c1]
    refine fin_ret2 4 5 (by simp [upd_at]) ⟨_, H, Settle.refl ((e2.new hb6 _).upd (e2.isNone hb6) _), ?_, rfl⟩
    simp [upd_at, listR, hres, c1]
  have hv := hv_ask hs hsk c1
  have hnT := nT_le hv.ok
  simp only [go_sem, reduceIte, reduceCtorEq, Nat.reduceEqDiff, Nat.reduceBEq, Nat.reduceAdd, Nat.reduceMul, Nat.reduceLeDiff, askedR, c1, List.getElem?_cons_zero, List.getElem?_cons_succ]
  refine v_alloc fun b6 hb6 => ?_
  have n26 : b2 ≠ b6 := fun h => by subst h; simp [updH, n23] at hb6
  have n36 : b3 ≠ b6 := fun h => by subst h; simp at hb6
  have z6 : H b6 = none := e2.isNone hb6
  have e3 := (e2.new hb6 (.box [.nilp])).upd z6 (.box [.elem (kCells h)])
  simp only [go_sem, reduceIte, reduceCtorEq, Nat.reduceEqDiff, Nat.reduceBEq, Nat.reduceAdd, Nat.reduceMul, Nat.reduceLeDiff, updH_ne _ _ n26, updH_ne _ _ n36, updH_ne _ _ n23, take_f', List.getElem?_cons_zero]
  rw [v_store]
  refine ⟨rfl, rfl, by simp [AV.cells, AV.isCell, kCells], _, updH_same _ _ _, by simp, ?_⟩
  rw [show (AV.elem (kCells h)).cells = [.elem (kCells h)] from rfl, placeOne]
  simp only [go_sem, reduceIte, reduceCtorEq, Nat.reduceEqDiff, Nat.reduceBEq, Nat.reduceAdd, Nat.reduceMul, Nat.reduceLeDiff, List.getElem?_cons_zero, List.getElem?_cons_succ]
  refine v_alloc fun b8 hb8 => ?_
  have n28 : b2 ≠ b8 := fun h => by subst h; simp [updH, n23, n26] at hb8
  have n38 : b3 ≠ b8 := fun h => by subst h; simp [updH, n36] at hb8
  have n68 : b6 ≠ b8 := fun h => by subst h; simp at hb8
  have z8 : H b8 = none := e3.isNone hb8
  have e4 := e3.new hb8 (.box [.emp])
  simp only [go_sem, reduceIte, reduceCtorEq, Nat.reduceEqDiff, Nat.reduceBEq, Nat.reduceAdd, Nat.reduceMul, Nat.reduceLeDiff]
  refine v_alloc fun b9 hb9 => ?_
  have n29 : b2 ≠ b9 := fun h => by subst h; simp [updH, n23, n26, n28] at hb9
  have n39 : b3 ≠ b9 := fun h => by subst h; simp [updH, n36, n38] at hb9
  have n69 : b6 ≠ b9 := fun h => by subst h; simp [updH, n68] at hb9
  have n89 : b8 ≠ b9 := fun h => by subst h; simp at hb9
  have z9 : H b9 = none := e4.isNone hb9
  simp only [go_sem, reduceIte, reduceCtorEq, Nat.reduceEqDiff, Nat.reduceBEq, Nat.reduceAdd, Nat.reduceMul, Nat.reduceLeDiff]
  rw [v_store]
  refine ⟨rfl, rfl, by simp [AV.cells, AV.isCell], _, updH_same _ _ _, by simp, ?_⟩
  have e5 := (e4.new hb9 (.box [.nilf])).upd z9 (.box [.func (.func 107) [] [.ptr b8 0, .ptr b6 0, .ptr b3 0, .ptr b2 0, .ptr b9 0]])
  simp only [c_func, placeOne]
  generalize hHH : updH (updH (updH (updH (updH (updH (updH H b2 (.box [.slice (h.table.women.map eW), .slice (h.table.pieces.map eP), i6 h.table.wrong, .slice (eI h.sick), i6 h.others, i6 h.last, .slice (h.touches.map eTo), .slice (h.boiled.map eB), .slice (h.signs.map eS)])) b3 (.box [i6 hour])) b6 (.box [.nilp])) b6 (.box [.elem (kCells h)])) b8 (.box [.emp])) b9 (.box [.nilf])) b9 (.box [.func (.func 107) [] [.ptr b8 0, .ptr b6 0, .ptr b3 0, .ptr b2 0, .ptr b9 0]]) = HH at e5 ⊢
  have B2 : HH b2 = some (.box [.slice (h.table.women.map eW), .slice (h.table.pieces.map eP), i6 h.table.wrong, .slice (eI h.sick), i6 h.others, i6 h.last, .slice (h.touches.map eTo), .slice (h.boiled.map eB), .slice (h.signs.map eS)]) := by subst hHH; simp [updH, n23, n26, n28, n29]
  have B3 : HH b3 = some (.box [i6 hour]) := by subst hHH; simp [updH, n36, n38, n39]
  have B6 : HH b6 = some (.box [.elem (kCells h)]) := by subst hHH; simp [updH, n68, n69]
  have B8 : HH b8 = some (.box [.emp]) := by subst hHH; simp [updH, n89]
  have B9 : HH b9 = some (.box [.func (.func 107) [] [.ptr b8 0, .ptr b6 0, .ptr b3 0, .ptr b2 0, .ptr b9 0]]) := by subst hHH; simp [updH]
  clear hHH
  simp only [go_sem, reduceIte, reduceCtorEq, Nat.reduceEqDiff, Nat.reduceBEq, Nat.reduceAdd, Nat.reduceMul, Nat.reduceLeDiff, B2, B3, take_f', List.getElem?_cons_zero]
  refine (longest_c h hour).go ?_
  obtain ⟨lg, hlg, hlg3, _⟩ := longest_ok hv.ok (ask_fine c1)
  have hN' : orderN h hour = lg := by rw [orderN, hlg]; rfl
  rw [hlg]
  obtain ⟨ok, hok⟩ : ∃ ok, ok = fun x => safeP h (rowOf x hour) := ⟨_, rfl⟩
  simp only [go_sem, reduceIte, reduceCtorEq, Nat.reduceEqDiff, Nat.reduceBEq, Nat.reduceAdd, Nat.reduceMul, Nat.reduceLeDiff, wsucc (show lg < 4611686018427387904 by omega)]
  have hExt : ∀ (H1 : AHeap), (∀ x o, x ≠ b8 → HH x = some o → H1 x = some o) → Ext H H1 := fun H1 hK x o hx => hK x o (fun h => by rw [h, z8] at hx; cases hx) (e5 x o hx)
  refine x_for (lg + 1) (fun j env H1 => (∀ x o, x ≠ b8 → HH x = some o → H1 x = some o) ∧ (∃ fv', H1 b8 = some (.box [fv']) ∧ FV fv' (tryAll ok [] (orderAll h j))) ∧ ((orderAll h j).any ok = false) ∧
      env 8 = .ptr b8 0 ∧ env 9 = .ptr b9 0 ∧ env 26 = i6 ((lg + 1 : Nat) : Int) ∧ env 27 = i6 j ∧ env 35 = .any)
    ⟨fun _ _ _ h => h, ⟨_, B8, .inl ⟨rfl, rfl⟩⟩, rfl, by simp [upd_at], by simp [upd_at], by simp [upd_at], by simp [upd_at], by simp [upd_at]⟩ ?_
  rintro j env H1 hj ⟨hK, ⟨fv1, hf1, hfv1⟩, hany, g8, g9, g26, g27, hN⟩
  by_cases hlt : (j : Int) < ((lg + 1 : Nat) : Int)
  · have hlt' : j < lg + 1 := by omega
    have hK9 := hK _ _ n89.symm B9
    simp only [go_sem, reduceIte, reduceCtorEq, Nat.reduceEqDiff, Nat.reduceBEq, Nat.reduceAdd, Nat.reduceMul, Nat.reduceLeDiff, g8, g9, g26, g27, hN, hlt, hK9, take_f', List.getElem?_cons_zero, List.nil_append, List.cons_append]
    refine ACalls.arg0 (y := .slice (eI [])) (fun w v hr => Rep.weaken_emp hr) ?_
    have hcall := orderGo_c h hv hour b8 b6 b3 b2 b9 n68 n38 n28 n89.symm j [] fv1 _ H1 (by simp; omega) hf1 hfv1 (hK _ _ n68 B6) (hK _ _ n38 B3) (hK _ _ n28 B2) hK9
    rw [← hok] at hcall
    refine hcall.mono ?_
    rintro r H4 ⟨rfl, ⟨fv', hf4, hfv4⟩, hK4⟩
    have hKall : ∀ x o, x ≠ b8 → HH x = some o → H4 x = some o := fun x o hx ho => hK4 x o hx (hK x o hx ho)
    have hsucc : orderAll h (j + 1) = orderAll h j ++ orders (nT h) j [] := by simp only [orderAll]; rw [List.range_succ, List.flatMap_append]; simp
    have htry : tryAll ok [] (orderAll h (j + 1)) = tryAll ok (tryAll ok [] (orderAll h j)) (orders (nT h) j []) := by rw [hsucc, tryAll_append, hany]; rfl
    cases hr : (orders (nT h) j []).any ok
    · simp only [go_sem, reduceIte, reduceCtorEq, Nat.reduceEqDiff, Nat.reduceBEq, Nat.reduceAdd, Nat.reduceMul, Nat.reduceLeDiff, g8, g9, g26, g27, hN, wsucc (show j < 4611686018427387904 by omega), hlt']
      exact ⟨hKall, ⟨fv', hf4, by rw [htry]; exact hfv4⟩, by rw [hsucc, List.any_append, hany, hr]; rfl⟩
    · simp only [go_sem, reduceIte, reduceCtorEq, Nat.reduceEqDiff, Nat.reduceBEq, Nat.reduceAdd, Nat.reduceMul, Nat.reduceLeDiff, g8, hN, hf4, take_f', List.getElem?_cons_zero]
      refine fin_ret2 4 5 (by simp [upd_at, hN]) ?_
      simp only [upd_at, if_true, Nat.reduceEqDiff, if_false]
      obtain ⟨r, hr2⟩ := range_split (fun k => orders (nT h) k []) hlt'
      have hany2 : (orderAll h (j + 1)).any ok = true := by rw [hsucc, List.any_append, hr, Bool.or_true]
      have hL : orderL h hour = orderAll h (j + 1) ++ r := by rw [orderL, hN']; exact hr2
      have hE0 : orderE h hour = 0 := by rw [orderE, if_pos c1, if_pos]; rw [← hok, hL, List.any_append, hany2]; rfl
      refine ⟨.tup [.slice (eI (orderOf h hour)), i6 0], H, settle_fv ?_ (hExt H4 hKall), by rw [listR, if_pos hE0], rfl⟩
      rw [orderOf, ← hok, hL, tryAll_append, hany2, if_pos rfl, htry]; exact hfv4
  · have : j = lg + 1 := by omega
    subst this
    have hL : orderL h hour = orderAll h (lg + 1) := by rw [orderL, hN']
    have hE0 : orderE h hour = 10 := by rw [orderE, if_pos c1, if_neg]; rw [← hok, hL, hany]; simp
    simp only [go_sem, reduceIte, reduceCtorEq, Nat.reduceEqDiff, Nat.reduceBEq, Nat.reduceAdd, Nat.reduceMul, Nat.reduceLeDiff, g8, g9, g26, g27, hN, hlt]
    refine fin_ret2 4 5 (by simp [upd_at, hN]) ⟨_, H, Settle.refl (hExt H1 hK), ?_, rfl⟩
    simp [upd_at, listR, hE0]
end Go.Lift

set_option linter.unusedSimpArgs false
set_option linter.unusedVariables false
namespace Go.Lift
open Go Go.Proofs
structure JC (h : House) (out : List Int) (ga gb : Code) (env0 : Env) (r l b2 b3 b4 b5 : Nat) (s : List Course) (F : Nat → Prop) (H : AHeap) : Prop where
  dom : ∀ x, F x → ∃ o, H x = some o
  fl : F l
  fr : F r
  f2 : F b2
  f3 : F b3
  f4 : F b4
  f5 : F b5
  hl : H l = some (.loop .ready none 19 env0 #[11] ga gb r)
  hr : H r = some .deferd
  h2 : H b2 = some (.box [.slice (h.table.women.map eW), .slice (h.table.pieces.map eP), i6 h.table.wrong, .slice (eI h.sick), i6 h.others, i6 h.last, .slice (h.touches.map eTo), .slice (h.boiled.map eB), .slice (h.signs.map eS)])
  h3 : H b3 = some (.box [.slice (eI out)])
  h4 : H b4 = some (.box [.bool false])
  h5 : H b5 = some (.box [.amap (bMap h.boiled)])
  no : s.any (isTrue h out) = false
structure EC (h : House) (out : List Int) (ga gb : Code) (env0 : Env) (r l b4 : Nat) (s : List Course) (F : Nat → Prop) (H : AHeap) : Prop where
  dom : ∀ x, F x → ∃ o, H x = some o
  fl : F l
  fr : F r
  f4 : F b4
  hl : H l = some (.loop .done (some .ret) 19 env0 #[11] ga gb r)
  hr : H r = some .deferd
  h4 : H b4 = some (.box [.bool true])
  yes : s.any (isTrue h out) = true
theorem pos_taker (h : House) (hv : HV h) (out : List Int) (ho : Sm out.length) (env0 : Env) (r l b2 b3 b4 b5 : Nat) (g2 : env0 2 = .ptr b2 0) (g3 : env0 3 = .ptr b3 0) (g4 : env0 4 = .ptr b4 0) (g5 : env0 5 = .ptr b5 0) :
    Taker Tryz.prog (.func (.yield l) [] []) eSc (allC h) (JC h out (rangeF Tryz.f83).1 (rangeF Tryz.f83).2 env0 r l b2 b3 b4 b5) (EC h out (rangeF Tryz.f83).1 (rangeF Tryz.f83).2 env0 r l b4) where
  dom := fun s F H J => J.dom
  edom := fun s F H J => J.dom
  stable := fun s F H H' J hh => ⟨fun x hx => by rw [hh x hx]; exact J.dom x hx, J.fl, J.fr, J.f2, J.f3, J.f4, J.f5, (hh _ J.fl).trans J.hl, (hh _ J.fr).trans J.hr, (hh _ J.f2).trans J.h2, (hh _ J.f3).trans J.h3, (hh _ J.f4).trans J.h4, (hh _ J.f5).trans J.h5, J.no⟩
  estable := fun s F H H' J hh => ⟨fun x hx => by rw [hh x hx]; exact J.dom x hx, J.fl, J.fr, J.f4, (hh _ J.fl).trans J.hl, (hh _ J.fr).trans J.hr, (hh _ J.f4).trans J.h4, J.yes⟩
  step := by
    intro s F H c hpre J
    have hm6 := hv.ok.touches
    have hp7 := hv.ok.pcs
    have hcok : courseOK h c = true := (mem_allC hv.tab c).1 (hpre.subset (by simp))
    obtain ⟨hol, hhl⟩ := courseOK_len hcok
    have ho7 := pad7_len c.owners (by omega)
    have hh6 := pad6_len c.hours (by omega)
    have hl13 : ((pad7 c.owners ++ pad6 c.hours).map i6).length = 13 := by simp [ho7, hh6]
    have hl13' : (pad7 c.owners ++ pad6 c.hours).length = 13 := by simp [ho7, hh6]
    have hl2 : l ≠ b2 := fun h => by have := J.hl; rw [h, J.h2] at this; cases this
    have hl3 : l ≠ b3 := fun h => by have := J.hl; rw [h, J.h3] at this; cases this
    have hl4 : l ≠ b4 := fun h => by have := J.hl; rw [h, J.h4] at this; cases this
    have hl5 : l ≠ b5 := fun h => by have := J.hl; rw [h, J.h5] at this; cases this
    have hlr : l ≠ r := fun h => by have := J.hl; rw [h, J.hr] at this; cases this
    have hr4 : r ≠ b4 := fun h => by have := J.hr; rw [h, J.h4] at this; cases this
    have hE0 := ext_outer F H
    refine yield_of hmix cert83 J.hl rfl (by decide) tga83 tgb83 ?_
    simp only [setPs]
    simp only [go_sem, reduceIte, reduceCtorEq, Nat.reduceEqDiff, Nat.reduceBEq, Nat.reduceAdd, Nat.reduceMul, Nat.reduceLeDiff, aga83]
    refine v_alloc fun b6 hb6 => ?_
    simp only [go_sem, reduceIte, reduceCtorEq, Nat.reduceEqDiff, Nat.reduceBEq, Nat.reduceAdd, Nat.reduceMul, Nat.reduceLeDiff]
    rw [v_store]
    refine ⟨rfl, hl13, map_i6_cell _, _, updH_same _ _ _, by simp, ?_⟩
    have n6 : ∀ {x o}, H x = some o → x ≠ b6 := fun hx h => by subst h; rw [hx] at hb6; cases hb6
    rw [show (eSc c).cells = (pad7 c.owners ++ pad6 c.hours).map i6 from rfl, placeAll _ _ (by rw [hl13]; rfl)]
    simp only [go_sem, reduceIte, reduceCtorEq, Nat.reduceEqDiff, Nat.reduceBEq, Nat.reduceAdd, Nat.reduceMul, Nat.reduceLeDiff]
    refine ⟨none, env0, _, _, _, r, by rw [updH_ne _ _ (n6 J.hl), updH_ne _ _ (n6 J.hl)]; exact J.hl, ?_⟩
    generalize hHH : updH (updH (updH H b6 _) b6 (.box ((pad7 c.owners ++ pad6 c.hours).map i6))) l (.loop .busy none 19 env0 #[11] (rangeF Tryz.f83).1 (rangeF Tryz.f83).2 r) = HH
    have q1 : ∀ x o, x ≠ l → H x = some o → HH x = some o := fun x o hx h => by subst hHH; rw [updH_ne _ _ hx, updH_ne _ _ (n6 h), updH_ne _ _ (n6 h)]; exact h
    have q2 : HH l = some (.loop .busy none 19 env0 #[11] (rangeF Tryz.f83).1 (rangeF Tryz.f83).2 r) := by subst hHH; exact updH_same _ _ _
    have q6 : HH b6 = some (.box ((pad7 c.owners ++ pad6 c.hours).map i6)) := by subst hHH; rw [updH_ne _ _ (n6 J.hl).symm]; exact updH_same _ _ _
    have hEH : Ext (outer F H) HH := by subst hHH; exact ((hE0.new hb6 _).upd (hE0.isNone hb6) _).upd (outer_in J.fl) _
    have hB2 := q1 _ _ hl2.symm J.h2
    have hB3 := q1 _ _ hl3.symm J.h3
    have hB4 := q1 _ _ hl4.symm J.h4
    have hB5 := q1 _ _ hl5.symm J.h5
    have hBr := q1 _ _ hlr.symm J.hr
    clear hHH q1
    simp only [go_sem, reduceIte, reduceCtorEq, Nat.reduceEqDiff, Nat.reduceBEq, Nat.reduceAdd, Nat.reduceMul, Nat.reduceLeDiff, agb83, g2, g3, g4, g5, hB2, hB3, hB4, hB5, q6, hl13, take_len hl13, take_f', List.getElem?_cons_zero, hl13']
    refine pgo_call (play_c h hv.ok (pad7 c.owners) (pad6 c.hours) h.boiled ho7 hh6) ?_
    have hlo : playOf h (pad7 c.owners) (pad6 c.hours) (h.boiled.map bKey) = lastOf h c [] := by rw [lastOf, List.append_nil]
    rw [hlo]
    simp only [go_sem, reduceIte, reduceCtorEq, Nat.reduceEqDiff, Nat.reduceBEq, Nat.reduceAdd, Nat.reduceMul, Nat.reduceLeDiff, g3, hB3, take_f', List.getElem?_cons_zero]
    refine pgo_call (right_c h (lastOf h c []) out (lastOf_len _ _ _) ho (by unfold Sm; have := hv.ok.signs; omega) hv.ok.sign) ?_
    rw [show rightOK h (lastOf h c []) out = isTrue h out c from rfl]
    cases hT : isTrue h out c
    · simp only [go_sem, reduceIte, reduceCtorEq, Nat.reduceEqDiff, Nat.reduceBEq, Nat.reduceAdd, Nat.reduceMul, Nat.reduceLeDiff]
      refine ⟨_, _, _, _, _, _, _, q2, ?_⟩
      have eE := hEH.upd (outer_in J.fl) (.loop .ready none 19 env0 #[11] (rangeF Tryz.f83).1 (rangeF Tryz.f83).2 r)
      refine ⟨fun x => (F x ∨ H x = none) ∧ ∃ o, updH HH l (.loop .ready none 19 env0 #[11] (rangeF Tryz.f83).1 (rangeF Tryz.f83).2 r) x = some o, fun x h => h.1, eE.kept, .inl ⟨rfl, ?_⟩⟩
      have mm : ∀ x o, x ≠ l → HH x = some o → updH HH l (.loop .ready none 19 env0 #[11] (rangeF Tryz.f83).1 (rangeF Tryz.f83).2 r) x = some o := fun x o hx ho => by rw [updH_ne _ _ hx]; exact ho
      have m1 : updH HH l (.loop .ready none 19 env0 #[11] (rangeF Tryz.f83).1 (rangeF Tryz.f83).2 r) l = _ := updH_same _ _ _
      have m2 := mm _ _ hlr.symm hBr
      have m3 := mm _ _ hl2.symm hB2
      have m4 := mm _ _ hl3.symm hB3
      have m5 := mm _ _ hl4.symm hB4
      have m6 := mm _ _ hl5.symm hB5
      refine ⟨fun x h => h.2, ⟨.inl J.fl, _, m1⟩, ⟨.inl J.fr, _, m2⟩, ⟨.inl J.f2, _, m3⟩, ⟨.inl J.f3, _, m4⟩, ⟨.inl J.f4, _, m5⟩, ⟨.inl J.f5, _, m6⟩, m1, m2, m3, m4, m5, m6, ?_⟩
      rw [List.any_append, J.no]; simp [hT]
    · simp only [go_sem, reduceIte, reduceCtorEq, Nat.reduceEqDiff, Nat.reduceBEq, Nat.reduceAdd, Nat.reduceMul, Nat.reduceLeDiff, g4]
      rw [v_store]
      refine ⟨rfl, rfl, by simp [AV.cells, AV.isCell], _, hB4, by simp, ?_⟩
      rw [c_bool, placeOne]
      simp only [go_sem, reduceIte, reduceCtorEq, Nat.reduceEqDiff, Nat.reduceBEq, Nat.reduceAdd, Nat.reduceMul, Nat.reduceLeDiff]
      have q2' := (updH_ne HH (.box [.bool true]) hl4).trans q2
      refine ⟨_, _, _, _, _, _, _, q2', ?_⟩
      have eE := (hEH.upd (outer_in J.f4) (.box [.bool true])).upd (outer_in J.fl) (.loop .done (some .ret) 19 env0 #[11] (rangeF Tryz.f83).1 (rangeF Tryz.f83).2 r)
      refine ⟨fun x => (F x ∨ H x = none) ∧ ∃ o, updH (updH HH b4 (.box [.bool true])) l (.loop .done (some .ret) 19 env0 #[11] (rangeF Tryz.f83).1 (rangeF Tryz.f83).2 r) x = some o, fun x h => h.1, eE.kept, .inr ⟨rfl, ?_⟩⟩
      have m1 : updH (updH HH b4 (.box [.bool true])) l (.loop .done (some .ret) 19 env0 #[11] (rangeF Tryz.f83).1 (rangeF Tryz.f83).2 r) l = _ := updH_same _ _ _
      have m2 : updH (updH HH b4 (.box [.bool true])) l (.loop .done (some .ret) 19 env0 #[11] (rangeF Tryz.f83).1 (rangeF Tryz.f83).2 r) r = some .deferd := by rw [updH_ne _ _ hlr.symm, updH_ne _ _ hr4]; exact hBr
      have m3 : updH (updH HH b4 (.box [.bool true])) l (.loop .done (some .ret) 19 env0 #[11] (rangeF Tryz.f83).1 (rangeF Tryz.f83).2 r) b4 = some (.box [.bool true]) := by rw [updH_ne _ _ hl4.symm]; exact updH_same _ _ _
      refine ⟨fun x h => h.2, ⟨.inl J.fl, _, m1⟩, ⟨.inl J.fr, _, m2⟩, ⟨.inl J.f4, _, m3⟩, m1, m2, m3, ?_⟩
      rw [List.any_append]; simp [hT]
def possibleP (h : House) (out : List Int) : Bool := (allC h).any (isTrue h out)
theorem agg4 : isAggB Tryz.prog 4 = some false := by kernel_rfl
theorem sz4 : szB Tryz.prog 4 = some 1 := by kernel_rfl
theorem fin_defc {P : Program} {N : Nat} {env : Env} {H : AHeap} (t n r b : Nat) (ty : TypeId) (x : AV) (cs : List AV) (h1 : isAggB P ty = some false) (h2 : szB P ty = some n) (hN : env N = .ptr r 0) (hr : H r = some .deferd) (ht : env t = .ptr b 0) (hb : H b = some (.box (x :: cs)))
    {Rr : AV → AHeap → Prop} (h : ∃ r' H2, Settle (delH H r) x H2 r' ∧ Rr r' H2) : fin P [.cell t ty] N Rr .ret env H := by
  obtain ⟨r', H2, h3, h4⟩ := h
  have hbr : b ≠ r := fun h => by subst h; rw [hb] at hr; cases hr
  refine ⟨delH H r, .inr ⟨r, hN, hr, rfl⟩, x, ?_, r', H2, h3, h4⟩
  have : resV P env (delH H r) (.cell t ty) = some x := by
    simp only [resV, h1, h2, ht, at_obj, delH_ne _ hbr, hb, obj_box, Nat.zero_le, if_true, List.drop_zero, Option.bind_some, take_f', List.getElem?_cons_zero]
  simp [aret, List.mapM_cons, List.mapM_nil, this, oneOf]
theorem possible_c (h : House) (hv : HV h) (out : List Int) (ho : Sm out.length) : Pure Tryz.prog 83 [eH h, .slice (eI out)] (.bool (possibleP h out)) := by
  intro H
  refine fn_of hmix fc83 (by simp) ?_
  rw [ienv2]
  simp only [go_sem, reduceIte, reduceCtorEq, Nat.reduceEqDiff, Nat.reduceBEq, Nat.reduceAdd, Nat.reduceMul, Nat.reduceLeDiff, ac83, eH]
  refine v_box _ rfl fun b2 hb2 => ?_
  simp only [go_sem, reduceIte, reduceCtorEq, Nat.reduceEqDiff, Nat.reduceBEq, Nat.reduceAdd, Nat.reduceMul, Nat.reduceLeDiff]
  refine v_box _ rfl fun b3 hb3 => ?_
  have n23 : b2 ≠ b3 := fun h => by subst h; simp at hb3
  simp only [go_sem, reduceIte, reduceCtorEq, Nat.reduceEqDiff, Nat.reduceBEq, Nat.reduceAdd, Nat.reduceMul, Nat.reduceLeDiff]
  refine v_alloc fun b4 hb4 => ?_
  have n24 : b2 ≠ b4 := fun h => by subst h; simp [updH, n23] at hb4
  have n34 : b3 ≠ b4 := fun h => by subst h; simp at hb4
  simp only [go_sem, reduceIte, reduceCtorEq, Nat.reduceEqDiff, Nat.reduceBEq, Nat.reduceAdd, Nat.reduceMul, Nat.reduceLeDiff, updH_ne _ _ n23, updH_ne _ _ n24]
  refine (Pure.emp1 (boilings_c h [] (by unfold Sm; have := hv.ok.boiled; omega) (by unfold Sm; simp))).go ?_
  rw [List.append_nil]
  simp only [go_sem, reduceIte, reduceCtorEq, Nat.reduceEqDiff, Nat.reduceBEq, Nat.reduceAdd, Nat.reduceMul, Nat.reduceLeDiff]
  refine v_alloc fun b5 hb5 => ?_
  have n25 : b2 ≠ b5 := fun h => by subst h; simp [updH, n23, n24] at hb5
  have n35 : b3 ≠ b5 := fun h => by subst h; simp [updH, n34] at hb5
  have n45 : b4 ≠ b5 := fun h => by subst h; simp at hb5
  simp only [go_sem, reduceIte, reduceCtorEq, Nat.reduceEqDiff, Nat.reduceBEq, Nat.reduceAdd, Nat.reduceMul, Nat.reduceLeDiff]
  rw [v_store]
  refine ⟨rfl, rfl, by simp [AV.cells, AV.isCell], _, updH_same _ _ _, by simp, ?_⟩
  rw [show (AV.amap (bMap h.boiled)).cells = [.amap (bMap h.boiled)] from rfl, placeOne]
  simp only [go_sem, reduceIte, reduceCtorEq, Nat.reduceEqDiff, Nat.reduceBEq, Nat.reduceAdd, Nat.reduceMul, Nat.reduceLeDiff, updH_ne _ _ n23, updH_ne _ _ n24, updH_ne _ _ n25]
  have e1 := (Ext.refl H).new hb2 (.box [.slice (h.table.women.map eW), .slice (h.table.pieces.map eP), i6 h.table.wrong, .slice (eI h.sick), i6 h.others, i6 h.last, .slice (h.touches.map eTo), .slice (h.boiled.map eB), .slice (h.signs.map eS)])
  have z3 : H b3 = none := e1.isNone hb3
  have e2 := e1.new hb3 (.box [.slice (eI out)])
  have z4 : H b4 = none := e2.isNone hb4
  have e3 := e2.new hb4 (.box [.bool false])
  have z5 : H b5 = none := e3.isNone hb5
  have e5 := (e3.new hb5 (.box [.any])).upd z5 (.box [.amap (bMap h.boiled)])
  refine (scenes_c h).go ?_
  simp only [go_sem, reduceIte, reduceCtorEq, Nat.reduceEqDiff, Nat.reduceBEq, Nat.reduceAdd, Nat.reduceMul, Nat.reduceLeDiff, x_range]
  generalize hHH : updH (updH (updH (updH (updH H b2 (.box [.slice (h.table.women.map eW), .slice (h.table.pieces.map eP), i6 h.table.wrong, .slice (eI h.sick), i6 h.others, i6 h.last, .slice (h.touches.map eTo), .slice (h.boiled.map eB), .slice (h.signs.map eS)])) b3 (.box [.slice (eI out)])) b4 (.box [.bool false])) b5 (.box [.any])) b5 (.box [.amap (bMap h.boiled)]) = HH at e5 ⊢
  have B2 : HH b2 = some (.box [.slice (h.table.women.map eW), .slice (h.table.pieces.map eP), i6 h.table.wrong, .slice (eI h.sick), i6 h.others, i6 h.last, .slice (h.touches.map eTo), .slice (h.boiled.map eB), .slice (h.signs.map eS)]) := by subst hHH; simp [updH, n23, n24, n25]
  have B3 : HH b3 = some (.box [.slice (eI out)]) := by subst hHH; simp [updH, n34, n35]
  have B4 : HH b4 = some (.box [.bool false]) := by subst hHH; simp [updH, n45]
  have B5 : HH b5 = some (.box [.amap (bMap h.boiled)]) := by subst hHH; simp [updH]
  clear hHH
  refine ⟨by simp [upd_at], 152, [], [.elem (hCells h)], by simp [upd_at, ev], fun r l hr hl hlr => ?_⟩
  have ner : ∀ {x o}, HH x = some o → x ≠ r := fun hx h => by subst h; rw [hx] at hr; cases hr
  have nel : ∀ {x o}, HH x = some o → x ≠ l := fun hx h => by subst h; rw [hx] at hl; cases hl
  have zr : H r = none := e5.isNone hr
  have zl : H l = none := e5.isNone hl
  generalize henv : upd (upd _ _ _) 10 _ = env0
  have g2 : env0 2 = .ptr b2 0 := by subst henv; simp [upd_at]
  have g3 : env0 3 = .ptr b3 0 := by subst henv; simp [upd_at]
  have g4 : env0 4 = .ptr b4 0 := by subst henv; simp [upd_at]
  have g5 : env0 5 = .ptr b5 0 := by subst henv; simp [upd_at]
  have J0 : JC h out (rangeF Tryz.f83).1 (rangeF Tryz.f83).2 env0 r l b2 b3 b4 b5 [] (fun x => x = l ∨ x = r ∨ x = b2 ∨ x = b3 ∨ x = b4 ∨ x = b5) (updH (updH HH r .deferd) l (.loop .ready none 19 env0 #[11] (rangeF Tryz.f83).1 (rangeF Tryz.f83).2 r)) := by
    have m1 := (updH_ne (updH HH r .deferd) (.loop .ready none 19 env0 #[11] (rangeF Tryz.f83).1 (rangeF Tryz.f83).2 r) hlr.symm).trans (updH_same HH r .deferd)
    have m2 : ∀ x o, HH x = some o → updH (updH HH r .deferd) l (.loop .ready none 19 env0 #[11] (rangeF Tryz.f83).1 (rangeF Tryz.f83).2 r) x = some o := fun x o hx => by rw [updH_ne _ _ (nel hx), updH_ne _ _ (ner hx)]; exact hx
    refine ⟨?_, .inl rfl, .inr (.inl rfl), .inr (.inr (.inl rfl)), .inr (.inr (.inr (.inl rfl))), .inr (.inr (.inr (.inr (.inl rfl)))), .inr (.inr (.inr (.inr (.inr rfl)))), updH_same _ _ _, m1, m2 _ _ B2, m2 _ _ B3, m2 _ _ B4, m2 _ _ B5, rfl⟩
    rintro x (rfl | rfl | rfl | rfl | rfl | rfl)
    · exact ⟨_, updH_same _ _ _⟩
    · exact ⟨_, m1⟩
    · exact ⟨_, m2 _ _ B2⟩
    · exact ⟨_, m2 _ _ B3⟩
    · exact ⟨_, m2 _ _ B4⟩
    · exact ⟨_, m2 _ _ B5⟩
  have hcall := scenesGo_c h hv (pos_taker h hv out ho env0 r l b2 b3 b4 b5 g2 g3 g4 g5) _ _ J0
  refine hcall.mono ?_
  rintro _ H2 ⟨rfl, F', hF, hkeep, hcase⟩
  have hExt : ∀ x o, H x = some o → H2 x = some o := fun x o hx => by
    have hne : ∀ y, H y = none → x ≠ y := fun y hy h => by rw [h, hy] at hx; cases hx
    rw [hkeep x (by rintro (h | h | h | h | h | h) <;> exact hne _ (by assumption) h) ⟨o, by rw [updH_ne _ _ (hne _ zl), updH_ne _ _ (hne _ zr)]; exact e5 x o hx⟩, updH_ne _ _ (hne _ zl), updH_ne _ _ (hne _ zr)]
    exact e5 x o hx
  have hExt2 : Ext H (delH H2 l) := fun x o hx => by
    rw [delH_ne _ (fun h => by rw [h, zl] at hx; cases hx)]
    exact hExt x o hx
  rcases hcase with J | ⟨l1, l2, hl12, E⟩
  · refine ⟨_, _, _, _, _, _, _, J.hl, by simp, .norm, rfl, ?_⟩
    have Kr : delH H2 l r = some .deferd := (delH_ne _ hlr.symm).trans J.hr
    have K4 : delH H2 l b4 = some (.box [.bool false]) := (delH_ne _ (nel B4)).trans J.h4
    simp only [go_sem, reduceIte, reduceCtorEq, Nat.reduceEqDiff, Nat.reduceBEq, Nat.reduceAdd, Nat.reduceMul, Nat.reduceLeDiff, g4]
    rw [v_store]
    refine ⟨rfl, rfl, by simp [AV.cells, AV.isCell], _, K4, by simp, ?_⟩
    rw [c_bool, placeOne]
    simp only [go_sem, reduceIte, reduceCtorEq, Nat.reduceEqDiff, Nat.reduceBEq, Nat.reduceAdd, Nat.reduceMul, Nat.reduceLeDiff]
    refine fin_defc 4 1 r b4 4 (.bool false) [] agg4 sz4 (by simp [upd_at]) (by rw [updH_ne _ _ (ner B4).symm]; exact Kr) (by simp [upd_at, g4]) (updH_same _ _ _) ⟨_, H, Settle.refl ((hExt2.upd z4 _).del zr), ?_, rfl⟩
    rw [possibleP, J.no]
  · refine ⟨_, _, _, _, _, _, _, E.hl, by simp, .ret, rfl, ?_⟩
    have Kr : delH H2 l r = some .deferd := (delH_ne _ hlr.symm).trans E.hr
    have K4 : delH H2 l b4 = some (.box [.bool true]) := (delH_ne _ (nel B4)).trans E.h4
    simp only [go_sem, reduceIte, reduceCtorEq, Nat.reduceEqDiff, Nat.reduceBEq, Nat.reduceAdd, Nat.reduceMul, Nat.reduceLeDiff]
    refine fin_defc 4 1 r b4 4 (.bool true) [] agg4 sz4 (by simp [upd_at]) Kr (by simp [upd_at, g4]) K4 ⟨_, H, Settle.refl (hExt2.del zr), ?_, rfl⟩
    rw [possibleP, hl12, List.any_append, E.yes]; rfl
end Go.Lift

set_option linter.unusedSimpArgs false
set_option linter.unusedVariables false
namespace Go.Lift
open Go Go.Proofs
theorem leaveGo_c (h : House) (hv : HV h) (bf bh ba : Nat) (nh : bh ≠ bf) (na : ba ≠ bf) :
    ∀ (many : Nat) (out : List Int) (from_ : Nat) (fv : AV) (old : List Int) (H : AHeap), out.length + many ≤ 10 → from_ ≤ 10 → H bf = some (.box [fv]) → FV fv old →
      H bh = some (.box [.slice (h.table.women.map eW), .slice (h.table.pieces.map eP), i6 h.table.wrong, .slice (eI h.sick), i6 h.others, i6 h.last, .slice (h.touches.map eTo), .slice (h.boiled.map eB), .slice (h.signs.map eS)]) → H ba = some (.box [.func (.func 84) [] [.ptr bf 0, .ptr bh 0, .ptr ba 0]]) →
      ACalls Tryz.prog 84 [.slice (eI out), i6 from_, i6 many, .ptr bf 0, .ptr bh 0, .ptr ba 0] H fun r H' => r = .bool ((combos h.signs.length many out from_).any (possibleP h)) ∧
        (∃ fv', H' bf = some (.box [fv']) ∧ FV fv' (tryAll (possibleP h) old (combos h.signs.length many out from_))) ∧ ∀ x o, x ≠ bf → H x = some o → H' x = some o := by
  have hsg := hv.ok.signs
  intro many
  induction many with
  | zero =>
    intro out from_ fv old H hout hfrom hf hfv hh ha
    refine fn_of hmix fc84 (by simp) ?_
    rw [ienv6]
    simp only [go_sem, reduceIte, reduceCtorEq, Nat.reduceEqDiff, Nat.reduceBEq, Nat.reduceAdd, Nat.reduceMul, Nat.reduceLeDiff, ac84, show ((0 : Nat) : Int) = 0 from rfl]
    rw [v_store]
    refine ⟨rfl, rfl, by simp [AV.cells, AV.isCell], _, hf, by simp, ?_⟩
    rw [show (AV.slice (eI out)).cells = [.slice (eI out)] from rfl, placeOne]
    simp only [go_sem, reduceIte, reduceCtorEq, Nat.reduceEqDiff, Nat.reduceBEq, Nat.reduceAdd, Nat.reduceMul, Nat.reduceLeDiff, updH_ne _ _ nh, hh]
    refine (possible_c h hv out (by unfold Sm; omega)).go ?_
    simp only [go_sem, reduceIte, reduceCtorEq, Nat.reduceEqDiff, Nat.reduceBEq, Nat.reduceAdd, Nat.reduceMul, Nat.reduceLeDiff]
    refine fin_ret' 9 (by simp [upd_at]) ?_
    simp only [upd_at, if_true]
    refine ⟨by simp [combos], ⟨_, updH_same _ _ _, ?_⟩, fun x o hx ho => by rw [updH_ne _ _ hx]; exact ho⟩
    have : tryAll (possibleP h) old (combos h.signs.length 0 out from_) = out := by simp [combos, tryAll]
    rw [this]; exact .inr rfl
  | succ k ih =>
    intro out from_ fv old H hout hfrom hf hfv hh ha
    refine fn_of hmix fc84 (by simp) ?_
    rw [ienv6]
    have hmne : ¬ (((k + 1 : Nat) : Int) = 0) := by omega
    obtain ⟨cnt, hcnt⟩ : ∃ cnt, cnt = h.signs.length - k - from_ := ⟨_, rfl⟩
    obtain ⟨f, hf'⟩ : ∃ f : Nat → List (List Int), f = fun j => combos h.signs.length k (out ++ [((from_ + j : Nat) : Int)]) (from_ + j + 1) := ⟨_, rfl⟩
    have hcomb : combos h.signs.length (k + 1) out from_ = (List.range cnt).flatMap f := by rw [hcnt, hf']; rfl
    rw [hcomb]
    obtain ⟨ok, hok⟩ : ∃ ok, ok = possibleP h := ⟨_, rfl⟩
    rw [← hok]
    have hsub := w64 (x := (h.signs.length : Int) - ((k + 1 : Nat) : Int)) (by omega) (by omega)
    have hdec : IntKind.i64.wrap (((k + 1 : Nat) : Int) - 1) = (k : Int) := by rw [w64 (by omega) (by omega)]; omega
    simp only [go_sem, reduceIte, reduceCtorEq, Nat.reduceEqDiff, Nat.reduceBEq, Nat.reduceAdd, Nat.reduceMul, Nat.reduceLeDiff, ac84, hmne]
    refine x_for cnt (fun j env H1 => (∀ x o, x ≠ bf → H x = some o → H1 x = some o) ∧ (∃ fv', H1 bf = some (.box [fv']) ∧ FV fv' (tryAll ok old ((List.range j).flatMap f))) ∧ (((List.range j).flatMap f).any ok = false) ∧
        env 0 = .slice (eI out) ∧ env 2 = i6 ((k + 1 : Nat) : Int) ∧ env 4 = .ptr bh 0 ∧ env 5 = .ptr ba 0 ∧ env 10 = i6 ((from_ + j : Nat) : Int) ∧ env 38 = .any)
      ⟨fun _ _ _ h => h, ⟨fv, hf, hfv⟩, rfl, by simp [upd_at], by simp [upd_at], by simp [upd_at], by simp [upd_at], by simp [upd_at], by simp [upd_at]⟩ ?_
    rintro j env H1 hj ⟨hK, ⟨fv1, hf1, hfv1⟩, hany, g0, g2, g4, g5, g10, hN⟩
    have hh1 := hK _ _ nh hh
    have ha1 := hK _ _ na ha
    by_cases hlt : ((from_ + j : Nat) : Int) ≤ (h.signs.length : Int) - ((k + 1 : Nat) : Int)
    · have hltc : j < cnt := by omega
      simp only [go_sem, reduceIte, reduceCtorEq, Nat.reduceEqDiff, Nat.reduceBEq, Nat.reduceAdd, Nat.reduceMul, Nat.reduceLeDiff, g0, g2, g4, g5, g10, hN, hh1, hsub, hlt, hdec, ha1, take_f', List.getElem?_cons_zero, wsucc (show from_ + j < 4611686018427387904 by omega)]
      refine ACalls.mono (clone_c out (by omega) H1) ?_
      rintro r H2 ⟨hE2, hG2⟩
      simp only [go_sem, reduceIte, reduceCtorEq, Nat.reduceEqDiff, Nat.reduceBEq, Nat.reduceAdd, Nat.reduceMul, Nat.reduceLeDiff, g5, hE2 _ _ ha1, take_f', List.getElem?_cons_zero]
      refine v_append hG2 hE2 rfl (eI_good _) (one_good _) (one_cell _) (by simp; omega) (by simp; omega) ?_
      intro v' H3 hg' he' hk'
      simp only [go_sem, reduceIte, reduceCtorEq, Nat.reduceEqDiff, Nat.reduceBEq, Nat.reduceAdd, Nat.reduceMul, Nat.reduceLeDiff, g5, he' _ _ ha1, take_f', List.getElem?_cons_zero, List.nil_append, List.cons_append]
      refine ACalls.arg0 (y := .slice (eI (out ++ [((from_ + j : Nat) : Int)]))) (fun w v hr => by rw [eI_app]; exact hg'.weakRep hr) ?_
      have hcall := ih (out ++ [((from_ + j : Nat) : Int)]) (from_ + j + 1) fv1 _ H3 (by simp; omega) (by omega) (he' _ _ hf1) hfv1 (he' _ _ hh1) (he' _ _ ha1)
      rw [← hok] at hcall
      refine hcall.mono ?_
      rintro r H4 ⟨rfl, ⟨fv', hf4, hfv4⟩, hK4⟩
      have hKall : ∀ x o, x ≠ bf → H x = some o → H4 x = some o := fun x o hx ho => hK4 x o hx (he' _ _ (hK x o hx ho))
      have hfj : f j = combos h.signs.length k (out ++ [((from_ + j : Nat) : Int)]) (from_ + j + 1) := by rw [hf']
      rw [← hfj] at hfv4 ⊢
      have hsucc : (List.range (j + 1)).flatMap f = (List.range j).flatMap f ++ f j := by rw [List.range_succ, List.flatMap_append]; simp
      have htry : tryAll ok old ((List.range (j + 1)).flatMap f) = tryAll ok (tryAll ok old ((List.range j).flatMap f)) (f j) := by rw [hsucc, tryAll_append, hany]; rfl
      cases hr : (f j).any ok
      · simp only [go_sem, reduceIte, reduceCtorEq, Nat.reduceEqDiff, Nat.reduceBEq, Nat.reduceAdd, Nat.reduceMul, Nat.reduceLeDiff, g0, g2, g4, g5, g10, hN, wsucc (show from_ + j < 4611686018427387904 by omega), hltc]
        refine ⟨hKall, ⟨fv', hf4, by (try rw [← List.range_succ]); rw [htry]; exact hfv4⟩, by (try rw [← List.range_succ]); rw [hsucc, List.any_append, hany, hr]; rfl, by rw [Nat.add_assoc]⟩
      · simp only [go_sem, reduceIte, reduceCtorEq, Nat.reduceEqDiff, Nat.reduceBEq, Nat.reduceAdd, Nat.reduceMul, Nat.reduceLeDiff, hN]
        refine fin_ret' 9 (by simp [upd_at, hN]) ?_
        simp only [upd_at, if_true]
        obtain ⟨r, hfull⟩ := range_split f hltc
        have hany2 : ((List.range (j + 1)).flatMap f).any ok = true := by rw [hsucc, List.any_append, hr, Bool.or_true]
        refine ⟨?_, ⟨fv', hf4, ?_⟩, hKall⟩
        · rw [hfull, List.any_append, hany2]; rfl
        · rw [hfull, tryAll_append, hany2, if_pos rfl, htry]; exact hfv4
    · simp only [go_sem, reduceIte, reduceCtorEq, Nat.reduceEqDiff, Nat.reduceBEq, Nat.reduceAdd, Nat.reduceMul, Nat.reduceLeDiff, g0, g2, g4, g5, g10, hN, hh1, hsub, hlt, take_f', List.getElem?_cons_zero]
      have : j = cnt := by omega
      subst this
      refine fin_ret' 9 (by simp [upd_at, hN]) ?_
      simp only [upd_at, if_true]
      exact ⟨by rw [hany], ⟨fv1, hf1, hfv1⟩, hK⟩
def leaveAll (h : House) (m : Nat) : List (List Int) := (List.range m).flatMap fun k => combos h.signs.length k [] 0
def leaveOf (h : House) : List Int := tryAll (possibleP h) [] (leaveAll h (h.signs.length + 1))
theorem leave_c (h : House) (hs : TSm h.table) (hsk : Sm h.sick.length) : Pure Tryz.prog 30 [eH h] (listR (checkHouse h) (leaveOf h)) := by
  intro H
  refine fn_of hmix fc30 (by simp) ?_
  rw [ienv1]
  simp only [go_sem, reduceIte, reduceCtorEq, Nat.reduceEqDiff, Nat.reduceBEq, Nat.reduceAdd, Nat.reduceMul, Nat.reduceLeDiff, ac30, eH]
  refine v_box _ rfl fun b1 hb1 => ?_
  simp only [go_sem, reduceIte, reduceCtorEq, Nat.reduceEqDiff, Nat.reduceBEq, Nat.reduceAdd, Nat.reduceMul, Nat.reduceLeDiff]
  refine (checkHouse_c h hs hsk).go ?_
  have e1 := (Ext.refl H).new hb1 (.box [.slice (h.table.women.map eW), .slice (h.table.pieces.map eP), i6 h.table.wrong, .slice (eI h.sick), i6 h.others, i6 h.last, .slice (h.touches.map eTo), .slice (h.boiled.map eB), .slice (h.signs.map eS)])
  by_cases c1 : checkHouse h = 0
  rotate_left
  · simp only [go_sem, reduceIte, reduceCtorEq, Nat.reduceEqDiff, Nat.reduceBEq, Nat.reduceAdd, Nat.reduceMul, Nat.reduceLeDiff, c1]
    refine fin_ret2 2 3 (by simp [upd_at]) ⟨_, H, Settle.refl e1, ?_, rfl⟩
    simp [upd_at, listR, c1]
  have hv := hv_of hs hsk c1
  have hsg := hv.ok.signs
  simp only [go_sem, reduceIte, reduceCtorEq, Nat.reduceEqDiff, Nat.reduceBEq, Nat.reduceAdd, Nat.reduceMul, Nat.reduceLeDiff, c1]
  refine v_alloc fun b5 hb5 => ?_
  have n15 : b1 ≠ b5 := fun h => by subst h; simp at hb5
  have z5 : H b5 = none := e1.isNone hb5
  have e2 := e1.new hb5 (.box [.emp])
  simp only [go_sem, reduceIte, reduceCtorEq, Nat.reduceEqDiff, Nat.reduceBEq, Nat.reduceAdd, Nat.reduceMul, Nat.reduceLeDiff]
  refine v_alloc fun b6 hb6 => ?_
  have n16 : b1 ≠ b6 := fun h => by subst h; simp [updH, n15] at hb6
  have n56 : b5 ≠ b6 := fun h => by subst h; simp at hb6
  have z6 : H b6 = none := e2.isNone hb6
  simp only [go_sem, reduceIte, reduceCtorEq, Nat.reduceEqDiff, Nat.reduceBEq, Nat.reduceAdd, Nat.reduceMul, Nat.reduceLeDiff]
  rw [v_store]
  refine ⟨rfl, rfl, by simp [AV.cells, AV.isCell], _, updH_same _ _ _, by simp, ?_⟩
  have e5 := (e2.new hb6 (.box [.nilf])).upd z6 (.box [.func (.func 84) [] [.ptr b5 0, .ptr b1 0, .ptr b6 0]])
  simp only [c_func, placeOne]
  generalize hHH : updH (updH (updH (updH H b1 (.box [.slice (h.table.women.map eW), .slice (h.table.pieces.map eP), i6 h.table.wrong, .slice (eI h.sick), i6 h.others, i6 h.last, .slice (h.touches.map eTo), .slice (h.boiled.map eB), .slice (h.signs.map eS)])) b5 (.box [.emp])) b6 (.box [.nilf])) b6 (.box [.func (.func 84) [] [.ptr b5 0, .ptr b1 0, .ptr b6 0]]) = HH at e5 ⊢
  have B1 : HH b1 = some (.box [.slice (h.table.women.map eW), .slice (h.table.pieces.map eP), i6 h.table.wrong, .slice (eI h.sick), i6 h.others, i6 h.last, .slice (h.touches.map eTo), .slice (h.boiled.map eB), .slice (h.signs.map eS)]) := by subst hHH; simp [updH, n15, n16]
  have B5 : HH b5 = some (.box [.emp]) := by subst hHH; simp [updH, n56]
  have B6 : HH b6 = some (.box [.func (.func 84) [] [.ptr b5 0, .ptr b1 0, .ptr b6 0]]) := by subst hHH; simp [updH]
  clear hHH
  obtain ⟨ok, hok⟩ : ∃ ok, ok = possibleP h := ⟨_, rfl⟩
  simp only [go_sem, reduceIte, reduceCtorEq, Nat.reduceEqDiff, Nat.reduceBEq, Nat.reduceAdd, Nat.reduceMul, Nat.reduceLeDiff, B1, take_f', List.getElem?_cons_zero, wsucc (show h.signs.length < 4611686018427387904 by omega)]
  have hExt : ∀ (H1 : AHeap), (∀ x o, x ≠ b5 → HH x = some o → H1 x = some o) → Ext H H1 := fun H1 hK x o hx => hK x o (fun h => by rw [h, z5] at hx; cases hx) (e5 x o hx)
  refine x_for (h.signs.length + 1) (fun j env H1 => (∀ x o, x ≠ b5 → HH x = some o → H1 x = some o) ∧ (∃ fv', H1 b5 = some (.box [fv']) ∧ FV fv' (tryAll ok [] (leaveAll h j))) ∧ ((leaveAll h j).any ok = false) ∧
      env 5 = .ptr b5 0 ∧ env 6 = .ptr b6 0 ∧ env 17 = i6 ((h.signs.length + 1 : Nat) : Int) ∧ env 18 = i6 j ∧ env 26 = .any)
    ⟨fun _ _ _ h => h, ⟨_, B5, .inl ⟨rfl, rfl⟩⟩, rfl, by simp [upd_at], by simp [upd_at], by simp [upd_at], by simp [upd_at], by simp [upd_at]⟩ ?_
  rintro j env H1 hj ⟨hK, ⟨fv1, hf1, hfv1⟩, hany, g5, g6, g17, g18, hN⟩
  have fin0 : ∀ (H1 : AHeap) (fv : AV), Ext H H1 → FV fv (leaveOf h) → ∃ r' H2, Settle H1 (.tup [fv, i6 0]) H2 r' ∧ (r' = listR 0 (leaveOf h) ∧ H2 = H) := fun H1 fv hE hg =>
    ⟨.tup [.slice (eI (leaveOf h)), i6 0], H, settle_fv hg hE, rfl, rfl⟩
  by_cases hlt : (j : Int) < ((h.signs.length + 1 : Nat) : Int)
  · have hlt' : j < h.signs.length + 1 := by omega
    have hK6 := hK _ _ n56.symm B6
    simp only [go_sem, reduceIte, reduceCtorEq, Nat.reduceEqDiff, Nat.reduceBEq, Nat.reduceAdd, Nat.reduceMul, Nat.reduceLeDiff, g5, g6, g17, g18, hN, hlt, hK6, take_f', List.getElem?_cons_zero, List.nil_append, List.cons_append]
    refine ACalls.arg0 (y := .slice (eI [])) (fun w v hr => Rep.weaken_emp hr) ?_
    have hcall := leaveGo_c h hv b5 b1 b6 n15 n56.symm j [] 0 fv1 _ H1 (by simp; omega) (by omega) hf1 hfv1 (hK _ _ n15 B1) hK6
    rw [← hok] at hcall
    refine hcall.mono ?_
    rintro r H4 ⟨rfl, ⟨fv', hf4, hfv4⟩, hK4⟩
    have hKall : ∀ x o, x ≠ b5 → HH x = some o → H4 x = some o := fun x o hx ho => hK4 x o hx (hK x o hx ho)
    have hsucc : leaveAll h (j + 1) = leaveAll h j ++ combos h.signs.length j [] 0 := by simp only [leaveAll]; rw [List.range_succ, List.flatMap_append]; simp
    have htry : tryAll ok [] (leaveAll h (j + 1)) = tryAll ok (tryAll ok [] (leaveAll h j)) (combos h.signs.length j [] 0) := by rw [hsucc, tryAll_append, hany]; rfl
    cases hr : (combos h.signs.length j [] 0).any ok
    · simp only [go_sem, reduceIte, reduceCtorEq, Nat.reduceEqDiff, Nat.reduceBEq, Nat.reduceAdd, Nat.reduceMul, Nat.reduceLeDiff, g5, g6, g17, g18, hN, wsucc (show j < 4611686018427387904 by omega), hlt']
      exact ⟨hKall, ⟨fv', hf4, by rw [htry]; exact hfv4⟩, by rw [hsucc, List.any_append, hany, hr]; rfl⟩
    · simp only [go_sem, reduceIte, reduceCtorEq, Nat.reduceEqDiff, Nat.reduceBEq, Nat.reduceAdd, Nat.reduceMul, Nat.reduceLeDiff, g5, hN, hf4, take_f', List.getElem?_cons_zero]
      refine fin_ret2 2 3 (by simp [upd_at, hN]) ?_
      simp only [upd_at, if_true, Nat.reduceEqDiff, if_false]
      refine fin0 H4 fv' (hExt H4 hKall) ?_
      obtain ⟨r, hr2⟩ := range_split (fun k => combos h.signs.length k [] 0) hlt'
      have hany2 : (leaveAll h (j + 1)).any ok = true := by rw [hsucc, List.any_append, hr, Bool.or_true]
      have : leaveAll h (h.signs.length + 1) = leaveAll h (j + 1) ++ r := hr2
      rw [leaveOf, ← hok, this, tryAll_append, hany2, if_pos rfl, htry]; exact hfv4
  · have : j = h.signs.length + 1 := by omega
    subst this
    simp only [go_sem, reduceIte, reduceCtorEq, Nat.reduceEqDiff, Nat.reduceBEq, Nat.reduceAdd, Nat.reduceMul, Nat.reduceLeDiff, g5, g6, g17, g18, hN, hlt, hf1, take_f', List.getElem?_cons_zero]
    refine fin_ret2 2 3 (by simp [upd_at, hN]) ?_
    simp only [upd_at, if_true, Nat.reduceEqDiff, if_false]
    exact fin0 H1 fv1 (hExt H1 hK) (by rw [leaveOf, ← hok]; exact hfv1)
def cut (h : House) (k : Nat) : House := { h with signs := h.signs.take k }
theorem timesUpto_cut (h : House) (k : Nat) (m : Int) : ∀ j, timesUpto (cut h k) m j = timesUpto h m j
  | 0 => rfl
  | j + 1 => by simp only [timesUpto, timesUpto_cut h k m j]; rfl
theorem hv_cut {h : House} (hv : HV h) (k : Nat) : HV (cut h k) := by
  refine ⟨⟨hv.ok.sm, hv.ok.pcs, hv.ok.sk, hv.ok.others, hv.ok.last, hv.ok.touches, hv.ok.touch, hv.ok.boiled, ?_, ?_⟩, hv.tab, hv.ask, hv.tim, ?_⟩
  · have := hv.ok.signs; simp [cut]; omega
  · intro s hs; exact hv.ok.sign s (List.mem_of_mem_take hs)
  · have := hv.many
    rw [manyH] at this ⊢
    rw [timesUpto_cut]; exact this
def badAt (h : House) (i : Nat) : Bool := !possibleP (cut h (i + 1)) []
def firstR (h : House) : AV := if checkHouse h = 0 then (match (List.range h.signs.length).find? (badAt h) with | some i => .tup [i6 i, i6 0] | none => .tup [i6 0, i6 7]) else .tup [i6 0, i6 (checkHouse h)]
theorem first_c (h : House) (hs : TSm h.table) (hsk : Sm h.sick.length) : Pure Tryz.prog 29 [eH h] (firstR h) := by
  intro H
  refine fn_of hmix fc29 (by simp) ?_
  rw [ienv1]
  simp only [go_sem, reduceIte, reduceCtorEq, Nat.reduceEqDiff, Nat.reduceBEq, Nat.reduceAdd, Nat.reduceMul, Nat.reduceLeDiff, ac29, eH]
  refine v_box _ rfl fun b1 hb1 => ?_
  simp only [go_sem, reduceIte, reduceCtorEq, Nat.reduceEqDiff, Nat.reduceBEq, Nat.reduceAdd, Nat.reduceMul, Nat.reduceLeDiff]
  refine (checkHouse_c h hs hsk).go ?_
  have e1 := (Ext.refl H).new hb1 (.box [.slice (h.table.women.map eW), .slice (h.table.pieces.map eP), i6 h.table.wrong, .slice (eI h.sick), i6 h.others, i6 h.last, .slice (h.touches.map eTo), .slice (h.boiled.map eB), .slice (h.signs.map eS)])
  by_cases c1 : checkHouse h = 0
  rotate_left
  · simp only [go_sem, reduceIte, reduceCtorEq, Nat.reduceEqDiff, Nat.reduceBEq, Nat.reduceAdd, Nat.reduceMul, Nat.reduceLeDiff, c1]
    refine fin_ret2 2 3 (by simp [upd_at]) ⟨_, H, Settle.refl e1, ?_, rfl⟩
    simp [upd_at, firstR, c1]
  have hv := hv_of hs hsk c1
  have hsg := hv.ok.signs
  simp only [go_sem, reduceIte, reduceCtorEq, Nat.reduceEqDiff, Nat.reduceBEq, Nat.reduceAdd, Nat.reduceMul, Nat.reduceLeDiff, c1]
  refine v_alloc fun b5 hb5 => ?_
  have n15 : b1 ≠ b5 := fun h => by subst h; simp at hb5
  have z5 : H b5 = none := e1.isNone hb5
  simp only [go_sem, reduceIte, reduceCtorEq, Nat.reduceEqDiff, Nat.reduceBEq, Nat.reduceAdd, Nat.reduceMul, Nat.reduceLeDiff]
  rw [v_store]
  refine ⟨rfl, rfl, by simp [AV.cells, AV.isCell], _, updH_same _ _ _, by simp, ?_⟩
  rw [c_agg, show placeAt [.emp, .emp, .int .i64 0, .emp, .int .i64 0, .int .i64 0, .emp, .emp, .emp] 0 [.slice (h.table.women.map eW), .slice (h.table.pieces.map eP), i6 h.table.wrong, .slice (eI h.sick), i6 h.others, i6 h.last, .slice (h.touches.map eTo), .slice (h.boiled.map eB), .slice (h.signs.map eS)] = [.slice (h.table.women.map eW), .slice (h.table.pieces.map eP), i6 h.table.wrong, .slice (eI h.sick), i6 h.others, i6 h.last, .slice (h.touches.map eTo), .slice (h.boiled.map eB), .slice (h.signs.map eS)] from rfl]
  have e2 : ∀ o1 o2, Ext H (updH (updH (updH H b1 (.box [.slice (h.table.women.map eW), .slice (h.table.pieces.map eP), i6 h.table.wrong, .slice (eI h.sick), i6 h.others, i6 h.last, .slice (h.touches.map eTo), .slice (h.boiled.map eB), .slice (h.signs.map eS)])) b5 o1) b5 o2) := fun o1 o2 => (e1.new hb5 o1).upd z5 o2
  simp only [go_sem, reduceIte, reduceCtorEq, Nat.reduceEqDiff, Nat.reduceBEq, Nat.reduceAdd, Nat.reduceMul, Nat.reduceLeDiff, updH_ne _ _ n15, take_f', List.getElem?_cons_zero]
  refine x_for h.signs.length (fun j env H1 => Ext H H1 ∧ H1 b1 = some (.box [.slice (h.table.women.map eW), .slice (h.table.pieces.map eP), i6 h.table.wrong, .slice (eI h.sick), i6 h.others, i6 h.last, .slice (h.touches.map eTo), .slice (h.boiled.map eB), .slice (h.signs.map eS)]) ∧ (∃ sv, H1 b5 = some (.box [.slice (h.table.women.map eW), .slice (h.table.pieces.map eP), i6 h.table.wrong, .slice (eI h.sick), i6 h.others, i6 h.last, .slice (h.touches.map eTo), .slice (h.boiled.map eB), sv])) ∧
      env 1 = .ptr b1 0 ∧ env 5 = .ptr b5 0 ∧ env 15 = i6 h.signs.length ∧ env 16 = i6 j ∧ env 30 = .any ∧ (List.range j).find? (badAt h) = none)
    ⟨e2 _ _, by rw [updH_ne _ _ n15, updH_ne _ _ n15]; exact updH_same _ _ _, ⟨_, updH_same _ _ _⟩, by simp [upd_at], by simp [upd_at], by simp [upd_at], by simp [upd_at], by simp [upd_at], rfl⟩ ?_
  rintro j env H1 hj ⟨hE, hB1, ⟨sv, hB5⟩, g1, g5, g15, g16, hN, hq⟩
  by_cases hlt : (j : Int) < (h.signs.length : Int)
  · have hlt' : j < h.signs.length := by omega
    simp only [go_sem, reduceIte, reduceCtorEq, Nat.reduceEqDiff, Nat.reduceBEq, Nat.reduceAdd, Nat.reduceMul, Nat.reduceLeDiff, g1, g5, g15, g16, hN, hlt, hB1, take_f', List.getElem?_cons_zero, wsucc (show j < 4611686018427387904 by omega), show ((j + 1 : Nat) : Int) ≤ (h.signs.length : Int) by omega, show (0 : Int) ≤ ((j + 1 : Nat) : Int) by omega]
    rw [v_store]
    refine ⟨rfl, rfl, by simp [AV.cells, AV.isCell], _, hB5, by simp, ?_⟩
    have hsl : (h.signs.map eS).take (j + 1) = (h.signs.take (j + 1)).map eS := by rw [List.map_take]
    rw [hsl, c_slice, show placeAt [.slice (h.table.women.map eW), .slice (h.table.pieces.map eP), i6 h.table.wrong, .slice (eI h.sick), i6 h.others, i6 h.last, .slice (h.touches.map eTo), .slice (h.boiled.map eB), sv] (0 + 8) [.slice ((h.signs.take (j + 1)).map eS)] = [.slice (h.table.women.map eW), .slice (h.table.pieces.map eP), i6 h.table.wrong, .slice (eI h.sick), i6 h.others, i6 h.last, .slice (h.touches.map eTo), .slice (h.boiled.map eB), .slice ((h.signs.take (j + 1)).map eS)] from rfl]
    simp only [go_sem, reduceIte, reduceCtorEq, Nat.reduceEqDiff, Nat.reduceBEq, Nat.reduceAdd, Nat.reduceMul, Nat.reduceLeDiff, g1, g5, g15, g16, hN]
    refine (Pure.emp1 (possible_c (cut h (j + 1)) (hv_cut hv (j + 1)) [] (by unfold Sm; simp))).go ?_
    have hfr : (List.range (j + 1)).find? (badAt h) = if badAt h j = true then some j else none := by
      rw [List.range_succ, List.find?_append, hq]
      cases hb : badAt h j <;> simp [List.find?_cons, hb]
    cases hp : possibleP (cut h (j + 1)) []
    · have hb : badAt h j = true := by rw [badAt, hp]; rfl
      simp only [go_sem, reduceIte, reduceCtorEq, Nat.reduceEqDiff, Nat.reduceBEq, Nat.reduceAdd, Nat.reduceMul, Nat.reduceLeDiff, g1, g5, g15, g16, hN]
      refine fin_ret2 2 3 (by simp [upd_at, hN]) ⟨_, H, Settle.refl (hE.upd z5 _), ?_, rfl⟩
      have hfull : (List.range h.signs.length).find? (badAt h) = some j := by
        have : h.signs.length = (j + 1) + (h.signs.length - (j + 1)) := by omega
        rw [this, List.range_add, List.find?_append, hfr, if_pos hb]; rfl
      simp [upd_at, firstR, c1, hfull, g16]
    · have hb : badAt h j = false := by rw [badAt, hp]; rfl
      simp only [go_sem, reduceIte, reduceCtorEq, Nat.reduceEqDiff, Nat.reduceBEq, Nat.reduceAdd, Nat.reduceMul, Nat.reduceLeDiff, g1, g5, g15, g16, hN, hlt', updH_ne _ _ n15, hB1, wsucc (show j < 4611686018427387904 by omega)]
      exact ⟨hE.upd z5 _, ⟨_, rfl⟩, by (try rw [← List.range_succ]); rw [hfr, hb]; rfl⟩
  · have : j = h.signs.length := by omega
    subst this
    simp only [go_sem, reduceIte, reduceCtorEq, Nat.reduceEqDiff, Nat.reduceBEq, Nat.reduceAdd, Nat.reduceMul, Nat.reduceLeDiff, g1, g5, g15, g16, hN, hlt]
    refine fin_ret2 2 3 (by simp [upd_at, hN]) ⟨_, H, Settle.refl hE, ?_, rfl⟩
    simp [upd_at, firstR, c1, hq]
end Go.Lift

set_option linter.unusedSimpArgs false
set_option linter.unusedVariables false
namespace Go.Lift
open Go Go.Proofs
/-- The places that are true, of the first so many. -/
def truesUpto (bs : List Bool) (j : Nat) : List Int := ((List.range j).filter fun i => bs.getD i false).map Int.ofNat
theorem truesUpto_succ (bs : List Bool) (j : Nat) : truesUpto bs (j + 1) = truesUpto bs j ++ (if bs.getD j false = true then [(j : Int)] else []) := by
  simp only [truesUpto, List.range_succ, List.filter_append, List.map_append]
  congr 1
  cases h : bs.getD j false <;> simp only [List.filter_cons, h, List.filter_nil] <;> simp
theorem truesUpto_len (bs : List Bool) (j : Nat) : (truesUpto bs j).length ≤ j := by
  simp only [truesUpto, List.length_map]
  exact Nat.le_trans (List.length_filter_le _ _) (by simp)
theorem sceneOf_ok {h : House} {c : Course} (hc : courseOK h c = true) : sceneOf h c = pad7 c.owners ++ pad6 c.hours := by rw [sceneOf, if_pos hc]
theorem sceneOf_len (h : House) (hk : HOK h) (c : Course) : (sceneOf h c).length = 13 := by
  by_cases hc : courseOK h c = true
  · have := courseOK_len hc
    have h1 := hk.pcs
    have h2 := hk.touches
    rw [sceneOf_ok hc, List.length_append, pad7_len _ (by omega), pad6_len _ (by omega)]
  · rw [sceneOf, if_neg hc]; rfl
def playE (h : House) (c : Course) : Int := if checkHouse h = 0 then (if courseOK h c = true then 0 else 2) else checkHouse h
theorem playS_c (h : House) (hs : TSm h.table) (hsk : Sm h.sick.length) (c : Course) (hc1 : Sm c.owners.length) (hc2 : Sm c.hours.length) : Pure Tryz.prog 37 [eH h, eC c] (listR (playE h c) (truesUpto (lastOf h c []) 10)) := by
  intro H
  refine fn_of hmix fc37 (by simp) ?_
  rw [ienv2]
  simp only [go_sem, reduceIte, reduceCtorEq, Nat.reduceEqDiff, Nat.reduceBEq, Nat.reduceAdd, Nat.reduceMul, Nat.reduceLeDiff, ac37, eH, eC]
  refine v_box _ rfl fun b2 hb2 => ?_
  simp only [go_sem, reduceIte, reduceCtorEq, Nat.reduceEqDiff, Nat.reduceBEq, Nat.reduceAdd, Nat.reduceMul, Nat.reduceLeDiff]
  refine v_box _ rfl fun b3 hb3 => ?_
  have n23 : b2 ≠ b3 := fun h => by subst h; simp at hb3
  simp only [go_sem, reduceIte, reduceCtorEq, Nat.reduceEqDiff, Nat.reduceBEq, Nat.reduceAdd, Nat.reduceMul, Nat.reduceLeDiff, updH_ne _ _ n23]
  refine (checkHouse_c h hs hsk).go ?_
  have e1 := (Ext.refl H).new hb2 (.box [.slice (h.table.women.map eW), .slice (h.table.pieces.map eP), i6 h.table.wrong, .slice (eI h.sick), i6 h.others, i6 h.last, .slice (h.touches.map eTo), .slice (h.boiled.map eB), .slice (h.signs.map eS)])
  have z3 : H b3 = none := e1.isNone hb3
  have e2 := e1.new hb3 (.box [.slice (eI c.owners), .slice (eI c.hours)])
  by_cases c1 : checkHouse h = 0
  rotate_left
  · simp only [go_sem, reduceIte, reduceCtorEq, Nat.reduceEqDiff, Nat.reduceBEq, Nat.reduceAdd, Nat.reduceMul, Nat.reduceLeDiff, c1]
    refine fin_ret2 4 5 (by simp [upd_at]) ⟨_, H, Settle.refl e2, ?_, rfl⟩
    simp [upd_at, listR, playE, c1]
  have hv := hv_of hs hsk c1
  have hsl := sceneOf_len h hv.ok c
  have hsl' : ((sceneOf h c).map i6).length = 13 := by simp [hsl]
  simp only [go_sem, reduceIte, reduceCtorEq, Nat.reduceEqDiff, Nat.reduceBEq, Nat.reduceAdd, Nat.reduceMul, Nat.reduceLeDiff, c1, updH_ne _ _ n23]
  refine (scene_c h hv.ok c hc1 hc2).go ?_
  simp only [go_sem, reduceIte, reduceCtorEq, Nat.reduceEqDiff, Nat.reduceBEq, Nat.reduceAdd, Nat.reduceMul, Nat.reduceLeDiff, List.getElem?_cons_zero, List.getElem?_cons_succ]
  refine v_alloc fun b7 hb7 => ?_
  have n27 : b2 ≠ b7 := fun h => by subst h; simp [updH, n23] at hb7
  simp only [go_sem, reduceIte, reduceCtorEq, Nat.reduceEqDiff, Nat.reduceBEq, Nat.reduceAdd, Nat.reduceMul, Nat.reduceLeDiff, List.getElem?_cons_zero, List.getElem?_cons_succ]
  rw [v_store]
  refine ⟨rfl, hsl', map_i6_cell _, _, updH_same _ _ _, by simp, ?_⟩
  rw [c_agg, placeAll _ _ (by rw [hsl']; rfl)]
  have e3 : ∀ o1 o2, Ext H (updH (updH (updH (updH H b2 (.box [.slice (h.table.women.map eW), .slice (h.table.pieces.map eP), i6 h.table.wrong, .slice (eI h.sick), i6 h.others, i6 h.last, .slice (h.touches.map eTo), .slice (h.boiled.map eB), .slice (h.signs.map eS)])) b3 (.box [.slice (eI c.owners), .slice (eI c.hours)])) b7 o1) b7 o2) := fun o1 o2 => (e2.new hb7 o1).upd (e2.isNone hb7) o2
  cases c2 : courseOK h c
  · simp only [go_sem, reduceIte, reduceCtorEq, Nat.reduceEqDiff, Nat.reduceBEq, Nat.reduceAdd, Nat.reduceMul, Nat.reduceLeDiff, List.getElem?_cons_zero, List.getElem?_cons_succ]
    refine fin_ret2 4 5 (by simp [upd_at]) ⟨_, H, Settle.refl (e3 _ _), ?_, rfl⟩
    simp [upd_at, listR, playE, c1, c2]
  have hol := courseOK_len c2
  have hp7 := hv.ok.pcs
  have hm6 := hv.ok.touches
  simp only [go_sem, reduceIte, reduceCtorEq, Nat.reduceEqDiff, Nat.reduceBEq, Nat.reduceAdd, Nat.reduceMul, Nat.reduceLeDiff, updH_ne _ _ n23, updH_ne _ _ n27, List.getElem?_cons_zero, List.getElem?_cons_succ, hsl', take_len hsl', hsl]
  refine pgo_call (Pure.emp1 (boilings_c h [] (by unfold Sm; have := hv.ok.boiled; omega) (by unfold Sm; simp))) ?_
  simp only [go_sem, reduceIte, reduceCtorEq, Nat.reduceEqDiff, Nat.reduceBEq, Nat.reduceAdd, Nat.reduceMul, Nat.reduceLeDiff]
  rw [sceneOf_ok c2]
  refine pgo_call (play_c h hv.ok (pad7 c.owners) (pad6 c.hours) (h.boiled ++ []) (pad7_len _ (by omega)) (pad6_len _ (by omega))) ?_
  have hlo : playOf h (pad7 c.owners) (pad6 c.hours) (List.map bKey (h.boiled ++ ([] : List Boiling))) = lastOf h c [] := rfl
  rw [hlo]
  have hll := lastOf_len h c []
  simp only [go_sem, reduceIte, reduceCtorEq, Nat.reduceEqDiff, Nat.reduceBEq, Nat.reduceAdd, Nat.reduceMul, Nat.reduceLeDiff]
  refine x_for 10 (fun j env H1 => Ext H H1 ∧ Grown 1 H H1 (env 9) (eI (truesUpto (lastOf h c []) j)) ∧ env 29 = .agg ((lastOf h c []).map .bool) ∧ env 30 = i6 j ∧ env 41 = .any)
    ⟨e3 _ _, .inl ⟨by simp [upd_at], rfl⟩, by simp [upd_at], by simp [upd_at], by simp [upd_at]⟩ ?_
  rintro j env H1 hj ⟨hE, hG, g29, g30, hN⟩
  by_cases hlt : (j : Int) < 10
  · have hlt' : j < 10 := by omega
    have hgb := bget (c := lastOf h c []) (show j < (lastOf h c []).length by omega)
    have htl := truesUpto_len (lastOf h c []) j
    cases hb : (lastOf h c []).getD j false <;> rw [hb] at hgb
    · simp only [go_sem, reduceIte, reduceCtorEq, Nat.reduceEqDiff, Nat.reduceBEq, Nat.reduceAdd, Nat.reduceMul, Nat.reduceLeDiff, g29, g30, hN, hlt, show (j : Int) < ((10 : Nat) : Int) by omega, Nat.mul_one, hgb, wsucc (show j < 4611686018427387904 by omega), hlt']
      refine ⟨hE, ?_⟩
      rw [truesUpto_succ, hb]; simpa using hG
    · simp only [go_sem, reduceIte, reduceCtorEq, Nat.reduceEqDiff, Nat.reduceBEq, Nat.reduceAdd, Nat.reduceMul, Nat.reduceLeDiff, g29, g30, hN, hlt, show (j : Int) < ((10 : Nat) : Int) by omega, Nat.mul_one, hgb]
      refine v_append hG hE rfl (eI_good _) (one_good _) (one_cell _) (by simp; omega) (by simp; omega) ?_
      intro v' H2 hg' he' hk'
      simp only [go_sem, reduceIte, reduceCtorEq, Nat.reduceEqDiff, Nat.reduceBEq, Nat.reduceAdd, Nat.reduceMul, Nat.reduceLeDiff, g29, g30, hN, wsucc (show j < 4611686018427387904 by omega), hlt']
      refine ⟨he', ?_⟩
      rw [truesUpto_succ, hb, if_pos rfl, eI_app]; exact hg'
  · have : j = 10 := by omega
    subst this
    simp only [go_sem, reduceIte, reduceCtorEq, Nat.reduceEqDiff, Nat.reduceBEq, Nat.reduceAdd, Nat.reduceMul, Nat.reduceLeDiff, g29, g30, hN, hlt]
    have hE0 : playE h c = 0 := by rw [playE, if_pos c1, if_pos c2]
    refine fin_ret2 4 5 (by simp [upd_at, hN]) ⟨.tup [.slice (eI (truesUpto (lastOf h c []) 10)), i6 0], H, ?_, by rw [listR, if_pos hE0], rfl⟩
    simp only [upd_at, if_true, Nat.reduceEqDiff, if_false]
    exact settle_list hG hE
end Go.Lift

set_option linter.unusedSimpArgs false
set_option linter.unusedVariables false
namespace Go.Lift
open Go Go.Proofs
/-- The number with these bits. -/
def natOf : List Bool → Nat
  | [] => 0
  | b :: c => 2 * natOf c + (if b = true then 1 else 0)
theorem natOf_bit : ∀ (c : List Bool) (i : Nat), (natOf c).testBit i = c.getD i false
  | [], i => by simp [natOf]
  | b :: c, 0 => by
    cases b <;> simp [natOf, Nat.testBit_zero] <;> omega
  | b :: c, i + 1 => by
    have h : (natOf (b :: c)) / 2 = natOf c := by cases b <;> simp [natOf] <;> omega
    rw [Nat.testBit_succ, h, natOf_bit c i]; rfl
theorem natOf_lt : ∀ (c : List Bool), natOf c < 2 ^ c.length
  | [] => by simp [natOf]
  | b :: c => by
    have := natOf_lt c
    rw [List.length_cons, Nat.pow_succ, natOf]
    cases b <;> simp <;> omega
/-- The bits of one number that another one has not. -/
def andN (a b : Nat) : Nat := a ^^^ (a &&& b)
theorem andN_bit (a b i : Nat) : (andN a b).testBit i = (a.testBit i && !b.testBit i) := by
  simp only [andN, Nat.testBit_xor, Nat.testBit_and]
  cases a.testBit i <;> cases b.testBit i <;> rfl
theorem bv_nat (a : Nat) : BitVec.ofInt IntKind.i64.bits (a : Int) = BitVec.ofNat 64 a := BitVec.ofInt_natCast 64 a
theorem w_or {a b : Nat} (ha : a < 2 ^ 62) (hb : b < 2 ^ 62) : IntKind.i64.wrap (((BitVec.ofInt IntKind.i64.bits (a : Int) ||| BitVec.ofInt IntKind.i64.bits (b : Int)).toNat : Nat) : Int) = ((a ||| b : Nat) : Int) := by
  have h1 : (BitVec.ofInt IntKind.i64.bits (a : Int) ||| BitVec.ofInt IntKind.i64.bits (b : Int)).toNat = a ||| b := by
    rw [bv_nat, bv_nat]
    show (BitVec.ofNat 64 a ||| BitVec.ofNat 64 b).toNat = _
    rw [BitVec.toNat_or, BitVec.toNat_ofNat, BitVec.toNat_ofNat, Nat.mod_eq_of_lt (by omega), Nat.mod_eq_of_lt (by omega)]
  have h2 := Nat.or_lt_two_pow ha hb
  rw [h1, w64 (by omega) (by omega)]
theorem w_and {a b : Nat} (ha : a < 2 ^ 62) (hb : b < 2 ^ 62) : IntKind.i64.wrap (((BitVec.ofInt IntKind.i64.bits (a : Int) &&& BitVec.ofInt IntKind.i64.bits (b : Int)).toNat : Nat) : Int) = ((a &&& b : Nat) : Int) := by
  have h1 : (BitVec.ofInt IntKind.i64.bits (a : Int) &&& BitVec.ofInt IntKind.i64.bits (b : Int)).toNat = a &&& b := by
    rw [bv_nat, bv_nat]
    show (BitVec.ofNat 64 a &&& BitVec.ofNat 64 b).toNat = _
    rw [BitVec.toNat_and, BitVec.toNat_ofNat, BitVec.toNat_ofNat, Nat.mod_eq_of_lt (by omega), Nat.mod_eq_of_lt (by omega)]
  have h2 := Nat.and_lt_two_pow a hb
  rw [h1, w64 (by omega) (by omega)]
theorem w_andN {a b : Nat} (ha : a < 2 ^ 62) (hb : b < 2 ^ 62) : IntKind.i64.wrap (((BitVec.ofInt IntKind.i64.bits (a : Int) &&& ~~~ BitVec.ofInt IntKind.i64.bits (b : Int)).toNat : Nat) : Int) = ((andN a b : Nat) : Int) := by
  have h1 : (BitVec.ofInt IntKind.i64.bits (a : Int) &&& ~~~ BitVec.ofInt IntKind.i64.bits (b : Int)).toNat = andN a b := by
    rw [bv_nat, bv_nat]
    show (BitVec.ofNat 64 a &&& ~~~ BitVec.ofNat 64 b).toNat = _
    apply Nat.eq_of_testBit_eq
    intro i
    rw [andN_bit, BitVec.testBit_toNat, BitVec.getLsbD_and, BitVec.getLsbD_not, BitVec.getLsbD_ofNat, BitVec.getLsbD_ofNat]
    by_cases hi : i < 64
    · simp [hi]
    · have : a.testBit i = false := Nat.testBit_lt_two_pow (Nat.lt_of_lt_of_le ha (Nat.pow_le_pow_right (by omega) (by omega)))
      simp [hi, this]
  have h2 : andN a b < 2 ^ 62 := by
    apply Nat.lt_pow_two_of_testBit
    intro i hi
    rw [andN_bit, Nat.testBit_lt_two_pow (Nat.lt_of_lt_of_le ha (Nat.pow_le_pow_right (by omega) hi))]; rfl
  rw [h1, w64 (by omega) (by omega)]
theorem u64w {i : Nat} (h : i < 2 ^ 62) : IntKind.u64.wrap (i : Int) = (i : Int) := by
  simp only [IntKind.wrap, IntKind.signed, IntKind.bits]
  simp
  omega
theorem w_shl {a i : Nat} (hi : i ≤ 62) (h : a * 2 ^ i < 2 ^ 62) : IntKind.i64.wrap ((a : Int) * 2 ^ Nat.min i IntKind.i64.bits) = ((a * 2 ^ i : Nat) : Int) := by
  have h1 : Nat.min i IntKind.i64.bits = i := Nat.min_eq_left (by simp only [IntKind.bits]; omega)
  rw [h1]
  have h2 : ((a : Int) * 2 ^ i) = ((a * 2 ^ i : Nat) : Int) := by simp
  rw [h2, w64 (by omega) (by omega)]
theorem shr_nat {a i : Nat} (hi : i ≤ 64) : (a : Int).fdiv (2 ^ Nat.min i IntKind.i64.bits) = ((a / 2 ^ i : Nat) : Int) := by
  have h1 : Nat.min i IntKind.i64.bits = i := Nat.min_eq_left (by simp only [IntKind.bits]; omega)
  rw [h1]
  have h2 : (2 : Int) ^ i = ((2 ^ i : Nat) : Int) := by simp
  rw [h2, Int.fdiv_eq_ediv_of_nonneg _ (Int.natCast_nonneg _)]; rfl
/-- The numbers of a number's bits. -/
def bitsUpto (n p : Nat) : List Int := ((List.range p).filter n.testBit).map Int.ofNat
theorem bitsUpto_succ (n p : Nat) : bitsUpto n (p + 1) = bitsUpto n p ++ (if n.testBit p = true then [(p : Int)] else []) := by
  simp only [bitsUpto, List.range_succ, List.filter_append, List.map_append]
  congr 1
  cases h : n.testBit p <;> simp only [List.filter_cons, h, List.filter_nil] <;> simp
theorem bitsUpto_len (n p : Nat) : (bitsUpto n p).length ≤ p := by
  simp only [bitsUpto, List.length_map]
  exact Nat.le_trans (List.length_filter_le _ _) (by simp)
theorem bitsUpto_more (n : Nat) : ∀ (p k : Nat), n < 2 ^ p → bitsUpto n (p + k) = bitsUpto n p
  | p, 0, _ => rfl
  | p, k + 1, h => by
    rw [← Nat.add_assoc, bitsUpto_succ, bitsUpto_more n p k h, Nat.testBit_lt_two_pow (Nat.lt_of_lt_of_le h (Nat.pow_le_pow_right (by omega) (by omega)))]
    simp
def bitsL (n : Nat) : List Int := bitsUpto n 62
theorem bitsL_of {n p : Nat} (hp : p ≤ 62) (h : n < 2 ^ p) : bitsL n = bitsUpto n p := by
  have := bitsUpto_more n p (62 - p) h
  rw [show p + (62 - p) = 62 by omega] at this
  exact this
theorem bitsL_natOf {c : List Bool} (hc : c.length ≤ 62) : bitsL (natOf c) = truesUpto c c.length := by
  rw [bitsL_of hc (natOf_lt c), bitsUpto, truesUpto]
  congr 1
  apply List.filter_congr
  intro i _
  rw [natOf_bit]
end Go.Lift

set_option linter.unusedSimpArgs false
set_option linter.unusedVariables false
namespace Go.Lift
open Go Go.Proofs
theorem bits_c (n : Nat) (hn : n < 2 ^ 62) : Pure Tryz.prog 51 [i6 n] (.slice (eI (bitsL n))) := by
  intro H
  refine fn_of hmix fc51 (by simp) ?_
  rw [ienv1]
  simp only [go_sem, reduceIte, reduceCtorEq, Nat.reduceEqDiff, Nat.reduceBEq, Nat.reduceAdd, Nat.reduceMul, Nat.reduceLeDiff, ac51]
  refine x_for 62 (fun p env H1 => Ext H H1 ∧ Grown 1 H H1 (env 3) (eI (bitsUpto n p)) ∧ env 0 = i6 n ∧ env 4 = i6 p ∧ env 23 = .any)
    ⟨Ext.refl H, .inl ⟨by simp [upd_at], rfl⟩, by simp [upd_at], by simp [upd_at], by simp [upd_at]⟩ ?_
  rintro p env H1 hp ⟨hE, hG, g0, g4, hN⟩
  have hu := u64w (show p < 2 ^ 62 by omega)
  have hs := shr_nat (a := n) (show p ≤ 64 by omega)
  have hbl := bitsUpto_len n p
  by_cases hlt : (0 : Int) < ((n / 2 ^ p : Nat) : Int)
  · have hp' : p < 62 := by
      rcases Nat.lt_or_ge p 62 with h | h
      · exact h
      · have : p = 62 := by omega
        subst this
        rw [Nat.div_eq_of_lt hn] at hlt; omega
    have hmod : (((n / 2 ^ p : Nat) : Int)).tmod 2 = ((n / 2 ^ p % 2 : Nat) : Int) := (Int.ofNat_tmod (n / 2 ^ p) 2).symm
    have hbit : n.testBit p = decide (n / 2 ^ p % 2 = 1) := Nat.testBit_eq_decide_div_mod_eq
    by_cases hb : n / 2 ^ p % 2 = 1
    · have hb' : ((n / 2 ^ p % 2 : Nat) : Int) = 1 := by omega
      simp only [↓aops_nil, ↓aops_go, ↓aops_go0, ↓aops_if, ↓k_cont, ↓k_cont0, g_tt, g_ff, g_tf, g_ft, g_u, ↓apre_nil, ↓apre_if, ↓apre_go, pgo_det, Tag.isCall, popt_some, gp_tt, gp_ff, gp_tf, gp_ft, gp_u, ↓k_draw, opt_some, List.map_cons, List.map_nil, ev, upd_at, ↓x_skip, ↓x_label, ↓x_ret, ↓x_exit, ↓x_seq, ↓x_block, ↓x_ops, ↓x_cond, x_sel_t, x_sel_f, ↓x_draw, ↓q_kseq_n, ↓q_kseq_r, ↓q_kseq_e, ↓q_block_n, ↓q_block_r, ↓q_block_e, ↓q_loop_n, ↓q_loop_r, ↓q_loop_e, ↓l_done, d_mov, d_pick, d_not, d_nilchk, d_nilchk', d_conv, d_add, d_sub, d_mul, d_quo, d_rem, d_shl, d_shr, d_and, d_or, d_andnot, d_eql, d_neq, d_lss, d_leq, d_gtr, d_geq, d_eqb, d_neqb, d_mkfunc, d_load, d_fieldaddr, d_fieldaddr', d_field_t, d_field_f, d_idxaddr, d_idxaddr_g, elemO_some, d_idxaddr_m, d_arraddr, d_arraddr', d_idx_f, d_sub_s, d_sub_g, d_arrsub, d_arrall, d_extract, d_len, d_len_g, d_len_e, d_len_m, d_min, d_build, d_bslice0, d_bs1, d_bs2, d_bsa, d_eqagg, v_mov, v_pick, v_not, v_nilchk, v_conv, v_bin, v_binb, v_eqagg, v_mkfunc, v_load, v_fieldaddr, v_field, v_idxaddr, v_arraddr, v_idx, v_sub, v_arrsub, v_arrall, v_extract, v_len, v_min, v_build, v_bslice, v_lookup, v_call, v_callv, Nat.reduceEqDiff, Nat.reduceBEq, reduceIte, ite_true, ite_false, Bool.false_eq_true, Bool.true_eq_false, if_true, if_false, decide_eq_true_eq, decide_eq_false_iff_not, decide_true, decide_false, Nat.zero_add, Nat.add_zero, Nat.reduceAdd, reduceCtorEq, eq_self, not_true_eq_false, not_false_eq_true, Bool.not_true, Bool.not_false, Nat.reduceMul, List.length_cons, List.length_nil, at_elem, take_f, take_tt, Int.toNat_natCast, Option.some.injEq, Option.bind_some, Int.natCast_nonneg, true_and, and_true, and_self, ↓q_for_n, ↓q_for_r, ↓q_for_e, eI_len, List.length_map, at_obj, obj_box, updH_same, Nat.reduceLeDiff, Nat.zero_le, Nat.le_refl, List.drop_zero, List.drop_succ_cons, List.take_succ_cons, List.take_zero, c_agg, c_int, c_bool, c_slice, c_emp, c_grow, g0, g4, hN, hu, hs, hlt, hmod, hb', show ¬ ((p : Int) < 0) by omega, show ¬ ((2 : Int) = 0) by omega]
      refine v_append hG hE rfl (eI_good _) (one_good _) (one_cell _) (by simp; omega) (by simp; omega) ?_
      intro v' H2 hg' he' hk'
      simp only [go_sem, reduceIte, reduceCtorEq, Nat.reduceEqDiff, Nat.reduceBEq, Nat.reduceAdd, Nat.reduceMul, Nat.reduceLeDiff, g0, g4, hN, wsucc (show p < 4611686018427387904 by omega), hp']
      refine ⟨he', ?_⟩
      rw [bitsUpto_succ, hbit, if_pos (by simp [hb]), eI_app]; exact hg'
    · have hb' : ¬ ((n / 2 ^ p % 2 : Nat) : Int) = 1 := by omega
      simp only [↓aops_nil, ↓aops_go, ↓aops_go0, ↓aops_if, ↓k_cont, ↓k_cont0, g_tt, g_ff, g_tf, g_ft, g_u, ↓apre_nil, ↓apre_if, ↓apre_go, pgo_det, Tag.isCall, popt_some, gp_tt, gp_ff, gp_tf, gp_ft, gp_u, ↓k_draw, opt_some, List.map_cons, List.map_nil, ev, upd_at, ↓x_skip, ↓x_label, ↓x_ret, ↓x_exit, ↓x_seq, ↓x_block, ↓x_ops, ↓x_cond, x_sel_t, x_sel_f, ↓x_draw, ↓q_kseq_n, ↓q_kseq_r, ↓q_kseq_e, ↓q_block_n, ↓q_block_r, ↓q_block_e, ↓q_loop_n, ↓q_loop_r, ↓q_loop_e, ↓l_done, d_mov, d_pick, d_not, d_nilchk, d_nilchk', d_conv, d_add, d_sub, d_mul, d_quo, d_rem, d_shl, d_shr, d_and, d_or, d_andnot, d_eql, d_neq, d_lss, d_leq, d_gtr, d_geq, d_eqb, d_neqb, d_mkfunc, d_load, d_fieldaddr, d_fieldaddr', d_field_t, d_field_f, d_idxaddr, d_idxaddr_g, elemO_some, d_idxaddr_m, d_arraddr, d_arraddr', d_idx_f, d_sub_s, d_sub_g, d_arrsub, d_arrall, d_extract, d_len, d_len_g, d_len_e, d_len_m, d_min, d_build, d_bslice0, d_bs1, d_bs2, d_bsa, d_eqagg, v_mov, v_pick, v_not, v_nilchk, v_conv, v_bin, v_binb, v_eqagg, v_mkfunc, v_load, v_fieldaddr, v_field, v_idxaddr, v_arraddr, v_idx, v_sub, v_arrsub, v_arrall, v_extract, v_len, v_min, v_build, v_bslice, v_lookup, v_call, v_callv, Nat.reduceEqDiff, Nat.reduceBEq, reduceIte, ite_true, ite_false, Bool.false_eq_true, Bool.true_eq_false, if_true, if_false, decide_eq_true_eq, decide_eq_false_iff_not, decide_true, decide_false, Nat.zero_add, Nat.add_zero, Nat.reduceAdd, reduceCtorEq, eq_self, not_true_eq_false, not_false_eq_true, Bool.not_true, Bool.not_false, Nat.reduceMul, List.length_cons, List.length_nil, at_elem, take_f, take_tt, Int.toNat_natCast, Option.some.injEq, Option.bind_some, Int.natCast_nonneg, true_and, and_true, and_self, ↓q_for_n, ↓q_for_r, ↓q_for_e, eI_len, List.length_map, at_obj, obj_box, updH_same, Nat.reduceLeDiff, Nat.zero_le, Nat.le_refl, List.drop_zero, List.drop_succ_cons, List.take_succ_cons, List.take_zero, c_agg, c_int, c_bool, c_slice, c_emp, c_grow, g0, g4, hN, hu, hs, hlt, hmod, hb', show ¬ ((p : Int) < 0) by omega, show ¬ ((2 : Int) = 0) by omega, wsucc (show p < 4611686018427387904 by omega), hp']
      refine ⟨hE, ?_⟩
      rw [bitsUpto_succ, hbit, if_neg (by simp [hb]), List.append_nil]; exact hG
  · simp only [↓aops_nil, ↓aops_go, ↓aops_go0, ↓aops_if, ↓k_cont, ↓k_cont0, g_tt, g_ff, g_tf, g_ft, g_u, ↓apre_nil, ↓apre_if, ↓apre_go, pgo_det, Tag.isCall, popt_some, gp_tt, gp_ff, gp_tf, gp_ft, gp_u, ↓k_draw, opt_some, List.map_cons, List.map_nil, ev, upd_at, ↓x_skip, ↓x_label, ↓x_ret, ↓x_exit, ↓x_seq, ↓x_block, ↓x_ops, ↓x_cond, x_sel_t, x_sel_f, ↓x_draw, ↓q_kseq_n, ↓q_kseq_r, ↓q_kseq_e, ↓q_block_n, ↓q_block_r, ↓q_block_e, ↓q_loop_n, ↓q_loop_r, ↓q_loop_e, ↓l_done, d_mov, d_pick, d_not, d_nilchk, d_nilchk', d_conv, d_add, d_sub, d_mul, d_quo, d_rem, d_shl, d_shr, d_and, d_or, d_andnot, d_eql, d_neq, d_lss, d_leq, d_gtr, d_geq, d_eqb, d_neqb, d_mkfunc, d_load, d_fieldaddr, d_fieldaddr', d_field_t, d_field_f, d_idxaddr, d_idxaddr_g, elemO_some, d_idxaddr_m, d_arraddr, d_arraddr', d_idx_f, d_sub_s, d_sub_g, d_arrsub, d_arrall, d_extract, d_len, d_len_g, d_len_e, d_len_m, d_min, d_build, d_bslice0, d_bs1, d_bs2, d_bsa, d_eqagg, v_mov, v_pick, v_not, v_nilchk, v_conv, v_bin, v_binb, v_eqagg, v_mkfunc, v_load, v_fieldaddr, v_field, v_idxaddr, v_arraddr, v_idx, v_sub, v_arrsub, v_arrall, v_extract, v_len, v_min, v_build, v_bslice, v_lookup, v_call, v_callv, Nat.reduceEqDiff, Nat.reduceBEq, reduceIte, ite_true, ite_false, Bool.false_eq_true, Bool.true_eq_false, if_true, if_false, decide_eq_true_eq, decide_eq_false_iff_not, decide_true, decide_false, Nat.zero_add, Nat.add_zero, Nat.reduceAdd, reduceCtorEq, eq_self, not_true_eq_false, not_false_eq_true, Bool.not_true, Bool.not_false, Nat.reduceMul, List.length_cons, List.length_nil, at_elem, take_f, take_tt, Int.toNat_natCast, Option.some.injEq, Option.bind_some, Int.natCast_nonneg, true_and, and_true, and_self, ↓q_for_n, ↓q_for_r, ↓q_for_e, eI_len, List.length_map, at_obj, obj_box, updH_same, Nat.reduceLeDiff, Nat.zero_le, Nat.le_refl, List.drop_zero, List.drop_succ_cons, List.take_succ_cons, List.take_zero, c_agg, c_int, c_bool, c_slice, c_emp, c_grow, g0, g4, hN, hu, hs, hlt, show ¬ ((p : Int) < 0) by omega]
    refine fin_ret 2 (by simp [upd_at, hN]) ⟨_, H, ?_, rfl, rfl⟩
    simp only [upd_at, if_true]
    have hz : n / 2 ^ p = 0 := by generalize n / 2 ^ p = q at hlt; omega
    have hlt2 : n < 2 ^ p := by
      rcases Nat.div_eq_zero_iff.1 hz with h | h
      · exact absurd h (by have := Nat.two_pow_pos p; omega)
      · exact h
    rw [bitsL_of hp hlt2]
    exact hG.weaken hE
def beforeL : List Int → List Int → Bool
  | a :: xs, b :: bs => if a = b then beforeL xs bs else decide (a < b)
  | [], bs => decide (0 < bs.length)
  | _ :: _, [] => false
theorem beforeL_drop : ∀ (j : Nat) (a b : List Int), j ≤ a.length → j ≤ b.length → a.take j = b.take j → beforeL a b = beforeL (a.drop j) (b.drop j)
  | 0, _, _, _, _, _ => rfl
  | j + 1, a :: xs, b :: bs, h1, h2, h => by
    simp only [List.take_succ_cons, List.cons.injEq] at h
    rw [beforeL, if_pos h.1, List.drop_succ_cons, List.drop_succ_cons]
    exact beforeL_drop j xs bs (by simpa using h1) (by simpa using h2) h.2
  | j + 1, [], _, h1, _, _ => by simp at h1
  | j + 1, _ :: _, [], _, h2, _ => by simp at h2
theorem before_c (a b : List Int) (ha : Sm a.length) (hb : Sm b.length) : Pure Tryz.prog 105 [.slice (eI a), .slice (eI b)] (.bool (beforeL a b)) := by
  intro H
  unfold Sm at ha hb
  refine fn_of hmix fc105 (by simp) ?_
  rw [ienv2]
  simp only [go_sem, reduceIte, reduceCtorEq, Nat.reduceEqDiff, Nat.reduceBEq, Nat.reduceAdd, Nat.reduceMul, Nat.reduceLeDiff, ac105]
  refine x_for a.length (fun j env H1 => H1 = H ∧ j ≤ b.length ∧ a.take j = b.take j ∧ env 0 = .slice (eI a) ∧ env 1 = .slice (eI b) ∧ env 5 = i6 j ∧ env 41 = .any) (by simp [upd_at]) ?_
  rintro j env H1 hj ⟨rfl, hjb, hq, g0, g1, g5, hN⟩
  by_cases c1 : (j : Int) < (a.length : Int)
  · have c1' : j < a.length := by omega
    by_cases c2 : (j : Int) < (b.length : Int)
    · have c2' : j < b.length := by omega
      have hd := beforeL_drop j a b hj hjb hq
      rw [List.drop_eq_getElem_cons c1', List.drop_eq_getElem_cons c2', beforeL] at hd
      by_cases he : a[j] = b[j]
      · simp only [go_sem, reduceIte, reduceCtorEq, Nat.reduceEqDiff, Nat.reduceBEq, Nat.reduceAdd, Nat.reduceMul, Nat.reduceLeDiff, g0, g1, g5, hN, c1, c2, eI_get c1', eI_get c2', he, wsucc (show j < 4611686018427387904 by omega), c1']
        exact ⟨c2', by rw [take_snoc c1', take_snoc c2', hq, he]⟩
      · simp only [go_sem, reduceIte, reduceCtorEq, Nat.reduceEqDiff, Nat.reduceBEq, Nat.reduceAdd, Nat.reduceMul, Nat.reduceLeDiff, g0, g1, g5, hN, c1, c2, eI_get c1', eI_get c2', he]
        refine fin_ret' 4 (by simp [upd_at, hN]) ?_
        rw [if_neg he] at hd
        simp only [upd_at, if_true, hd, and_self]
    · have hd := beforeL_drop j a b hj hjb hq
      rw [List.drop_eq_getElem_cons c1', List.drop_of_length_le (show b.length ≤ j by omega), beforeL] at hd
      simp only [go_sem, reduceIte, reduceCtorEq, Nat.reduceEqDiff, Nat.reduceBEq, Nat.reduceAdd, Nat.reduceMul, Nat.reduceLeDiff, g0, g1, g5, hN, c1, c2]
      refine fin_ret' 4 (by simp [upd_at, hN]) ?_
      simp only [upd_at, if_true, hd, and_true, AV.bool.injEq, decide_eq_false_iff_not]
      omega
  · have : j = a.length := by omega
    subst this
    have hd := beforeL_drop a.length a b hj hjb hq
    rw [List.drop_of_length_le (Nat.le_refl a.length), beforeL, List.length_drop] at hd
    simp only [go_sem, reduceIte, reduceCtorEq, Nat.reduceEqDiff, Nat.reduceBEq, Nat.reduceAdd, Nat.reduceMul, Nat.reduceLeDiff, g0, g1, g5, hN, c1]
    refine fin_ret' 4 (by simp [upd_at, hN]) ?_
    simp only [upd_at, if_true, hd, and_true, AV.bool.injEq, decide_eq_decide]
    omega
def shorterL (a b : List Int) : Bool := decide (a.length < b.length) || (decide (a.length = b.length) && beforeL a b)
theorem shorter_c (a b : List Int) (ha : Sm a.length) (hb : Sm b.length) : Pure Tryz.prog 50 [.slice (eI a), .slice (eI b)] (.bool (shorterL a b)) := by
  intro H
  refine fn_of hmix fc50 (by simp) ?_
  rw [ienv2]
  by_cases c1 : (a.length : Int) < (b.length : Int)
  · have c1' : a.length < b.length := by omega
    simp only [go_sem, reduceIte, reduceCtorEq, Nat.reduceEqDiff, Nat.reduceBEq, Nat.reduceAdd, Nat.reduceMul, Nat.reduceLeDiff, ac50, c1]
    refine fin_ret' 4 (by simp [upd_at]) ?_
    simp [upd_at, shorterL, c1']
  have c1' : ¬ a.length < b.length := by omega
  by_cases c2 : (a.length : Int) = (b.length : Int)
  · have c2' : a.length = b.length := by omega
    have d1 : decide ((a.length : Int) < (b.length : Int)) = false := decide_eq_false c1
    have d2 : decide ((a.length : Int) = (b.length : Int)) = true := decide_eq_true c2
    simp only [go_sem, reduceIte, reduceCtorEq, Nat.reduceEqDiff, Nat.reduceBEq, Nat.reduceAdd, Nat.reduceMul, Nat.reduceLeDiff, ac50, d1, d2]
    refine (before_c a b ha hb).go ?_
    simp only [go_sem, reduceIte, reduceCtorEq, Nat.reduceEqDiff, Nat.reduceBEq, Nat.reduceAdd, Nat.reduceMul, Nat.reduceLeDiff]
    refine fin_ret' 4 (by simp [upd_at]) ?_
    simp [upd_at, shorterL, c2']
  · have c2' : ¬ a.length = b.length := by omega
    simp only [go_sem, reduceIte, reduceCtorEq, Nat.reduceEqDiff, Nat.reduceBEq, Nat.reduceAdd, Nat.reduceMul, Nat.reduceLeDiff, ac50, c1, c2]
    refine fin_ret' 4 (by simp [upd_at]) ?_
    simp [upd_at, shorterL, c1', c2']
def canN (all : List Nat) (w : Nat) : Bool := all.any fun a => decide (a &&& w = w)
def eN (l : List Nat) : List (List AV) := eI (l.map Int.ofNat)
theorem can_c (all : List Nat) (w : Nat) (hl : Sm all.length) (ha : ∀ a ∈ all, a < 2 ^ 62) (hw : w < 2 ^ 62) : Pure Tryz.prog 87 [.slice (eN all), i6 w] (.bool (canN all w)) := by
  intro H
  unfold Sm at hl
  have hel : (all.map Int.ofNat).length = all.length := by simp
  refine fn_of hmix fc87 (by simp) ?_
  rw [ienv2]
  simp only [go_sem, reduceIte, reduceCtorEq, Nat.reduceEqDiff, Nat.reduceBEq, Nat.reduceAdd, Nat.reduceMul, Nat.reduceLeDiff, ac87]
  refine x_for all.length (fun j env H1 => H1 = H ∧ ((all.take j).any fun a => decide (a &&& w = w)) = false ∧ env 0 = .slice (eN all) ∧ env 1 = i6 w ∧ env 5 = i6 j ∧ env 20 = .any) (by simp [upd_at]) ?_
  rintro j env H1 hj ⟨rfl, hq, g0, g1, g5, hN⟩
  by_cases c1 : (j : Int) < (all.length : Int)
  · have c1' : j < all.length := by omega
    have hget : (all.map Int.ofNat)[j]'(by omega) = (all[j] : Int) := by simp
    have hwa := w_and (ha _ (List.getElem_mem c1')) hw
    by_cases he : all[j] &&& w = w
    · have he' : ((all[j] &&& w : Nat) : Int) = (w : Int) := by rw [he]
      simp only [↓aops_nil, ↓aops_go, ↓aops_go0, ↓aops_if, ↓k_cont, ↓k_cont0, g_tt, g_ff, g_tf, g_ft, g_u, ↓apre_nil, ↓apre_if, ↓apre_go, pgo_det, Tag.isCall, popt_some, gp_tt, gp_ff, gp_tf, gp_ft, gp_u, ↓k_draw, opt_some, List.map_cons, List.map_nil, ev, upd_at, ↓x_skip, ↓x_label, ↓x_ret, ↓x_exit, ↓x_seq, ↓x_block, ↓x_ops, ↓x_cond, x_sel_t, x_sel_f, ↓x_draw, ↓q_kseq_n, ↓q_kseq_r, ↓q_kseq_e, ↓q_block_n, ↓q_block_r, ↓q_block_e, ↓q_loop_n, ↓q_loop_r, ↓q_loop_e, ↓l_done, d_mov, d_pick, d_not, d_nilchk, d_nilchk', d_conv, d_add, d_sub, d_mul, d_quo, d_rem, d_shl, d_shr, d_and, d_or, d_andnot, d_eql, d_neq, d_lss, d_leq, d_gtr, d_geq, d_eqb, d_neqb, d_mkfunc, d_load, d_fieldaddr, d_fieldaddr', d_field_t, d_field_f, d_idxaddr, d_idxaddr_g, elemO_some, d_idxaddr_m, d_arraddr, d_arraddr', d_idx_f, d_sub_s, d_sub_g, d_arrsub, d_arrall, d_extract, d_len, d_len_g, d_len_e, d_len_m, d_min, d_build, d_bslice0, d_bs1, d_bs2, d_bsa, d_eqagg, v_mov, v_pick, v_not, v_nilchk, v_conv, v_bin, v_binb, v_eqagg, v_mkfunc, v_load, v_fieldaddr, v_field, v_idxaddr, v_arraddr, v_idx, v_sub, v_arrsub, v_arrall, v_extract, v_len, v_min, v_build, v_bslice, v_lookup, v_call, v_callv, Nat.reduceEqDiff, Nat.reduceBEq, reduceIte, ite_true, ite_false, Bool.false_eq_true, Bool.true_eq_false, if_true, if_false, decide_eq_true_eq, decide_eq_false_iff_not, decide_true, decide_false, Nat.zero_add, Nat.add_zero, Nat.reduceAdd, reduceCtorEq, eq_self, not_true_eq_false, not_false_eq_true, Bool.not_true, Bool.not_false, Nat.reduceMul, List.length_cons, List.length_nil, at_elem, take_f, take_tt, Int.toNat_natCast, Option.some.injEq, Option.bind_some, Int.natCast_nonneg, true_and, and_true, and_self, ↓q_for_n, ↓q_for_r, ↓q_for_e, eI_len, List.length_map, at_obj, obj_box, updH_same, Nat.reduceLeDiff, Nat.zero_le, Nat.le_refl, List.drop_zero, List.drop_succ_cons, List.take_succ_cons, List.take_zero, c_agg, c_int, c_bool, c_slice, c_emp, c_grow, g0, g1, g5, hN, eN, hel, c1, eI_get (show j < (all.map Int.ofNat).length by omega), hget, hwa, he']
      refine fin_ret' 4 (by simp [upd_at, hN]) ?_
      simp only [upd_at, if_true, and_true, AV.bool.injEq]
      symm; rw [canN, List.any_eq_true]
      exact ⟨all[j], List.getElem_mem _, by simp [he]⟩
    · have he' : ¬ ((all[j] &&& w : Nat) : Int) = (w : Int) := by omega
      simp only [↓aops_nil, ↓aops_go, ↓aops_go0, ↓aops_if, ↓k_cont, ↓k_cont0, g_tt, g_ff, g_tf, g_ft, g_u, ↓apre_nil, ↓apre_if, ↓apre_go, pgo_det, Tag.isCall, popt_some, gp_tt, gp_ff, gp_tf, gp_ft, gp_u, ↓k_draw, opt_some, List.map_cons, List.map_nil, ev, upd_at, ↓x_skip, ↓x_label, ↓x_ret, ↓x_exit, ↓x_seq, ↓x_block, ↓x_ops, ↓x_cond, x_sel_t, x_sel_f, ↓x_draw, ↓q_kseq_n, ↓q_kseq_r, ↓q_kseq_e, ↓q_block_n, ↓q_block_r, ↓q_block_e, ↓q_loop_n, ↓q_loop_r, ↓q_loop_e, ↓l_done, d_mov, d_pick, d_not, d_nilchk, d_nilchk', d_conv, d_add, d_sub, d_mul, d_quo, d_rem, d_shl, d_shr, d_and, d_or, d_andnot, d_eql, d_neq, d_lss, d_leq, d_gtr, d_geq, d_eqb, d_neqb, d_mkfunc, d_load, d_fieldaddr, d_fieldaddr', d_field_t, d_field_f, d_idxaddr, d_idxaddr_g, elemO_some, d_idxaddr_m, d_arraddr, d_arraddr', d_idx_f, d_sub_s, d_sub_g, d_arrsub, d_arrall, d_extract, d_len, d_len_g, d_len_e, d_len_m, d_min, d_build, d_bslice0, d_bs1, d_bs2, d_bsa, d_eqagg, v_mov, v_pick, v_not, v_nilchk, v_conv, v_bin, v_binb, v_eqagg, v_mkfunc, v_load, v_fieldaddr, v_field, v_idxaddr, v_arraddr, v_idx, v_sub, v_arrsub, v_arrall, v_extract, v_len, v_min, v_build, v_bslice, v_lookup, v_call, v_callv, Nat.reduceEqDiff, Nat.reduceBEq, reduceIte, ite_true, ite_false, Bool.false_eq_true, Bool.true_eq_false, if_true, if_false, decide_eq_true_eq, decide_eq_false_iff_not, decide_true, decide_false, Nat.zero_add, Nat.add_zero, Nat.reduceAdd, reduceCtorEq, eq_self, not_true_eq_false, not_false_eq_true, Bool.not_true, Bool.not_false, Nat.reduceMul, List.length_cons, List.length_nil, at_elem, take_f, take_tt, Int.toNat_natCast, Option.some.injEq, Option.bind_some, Int.natCast_nonneg, true_and, and_true, and_self, ↓q_for_n, ↓q_for_r, ↓q_for_e, eI_len, List.length_map, at_obj, obj_box, updH_same, Nat.reduceLeDiff, Nat.zero_le, Nat.le_refl, List.drop_zero, List.drop_succ_cons, List.take_succ_cons, List.take_zero, c_agg, c_int, c_bool, c_slice, c_emp, c_grow, g0, g1, g5, hN, eN, hel, c1, eI_get (show j < (all.map Int.ofNat).length by omega), hget, hwa, he', wsucc (show j < 4611686018427387904 by omega), c1']
      rw [take_snoc c1', List.any_append, hq]; simp [he]
  · have : j = all.length := by omega
    subst this
    rw [List.take_length] at hq
    simp only [go_sem, reduceIte, reduceCtorEq, Nat.reduceEqDiff, Nat.reduceBEq, Nat.reduceAdd, Nat.reduceMul, Nat.reduceLeDiff, g0, g1, g5, hN, eN, hel, c1]
    refine fin_ret' 4 (by simp [upd_at, hN]) ?_
    simp only [upd_at, if_true, and_true, AV.bool.injEq, canN]
    exact hq.symm
end Go.Lift

set_option linter.unusedSimpArgs false
set_option linter.unusedVariables false
namespace Go.Lift
open Go Go.Proofs
def ofAt (t : Table) (i : Nat) : List Int := womenOf t.women (t.pieces.getD i default).marks
theorem womenR_c (t : Table) (hs : TSm t) (i : Nat) (hi : i < t.pieces.length) : Pure Tryz.prog 132 [eT t, i6 i] (.slice (eI (ofAt t i))) := by
  intro H
  have h1 := hs.women
  unfold Sm at h1
  have hget : t.pieces.getD i default = t.pieces[i] := by simp [hi]
  rw [ofAt, hget]
  refine fn_of hmix fc132 (by simp) ?_
  rw [ienv2]
  simp only [go_sem, reduceIte, reduceCtorEq, Nat.reduceEqDiff, Nat.reduceBEq, Nat.reduceAdd, Nat.reduceMul, Nat.reduceLeDiff, ac132, eT]
  refine v_box _ rfl fun b1 hb1 => ?_
  simp only [go_sem, reduceIte, reduceCtorEq, Nat.reduceEqDiff, Nat.reduceBEq, Nat.reduceAdd, Nat.reduceMul, Nat.reduceLeDiff]
  refine x_for t.women.length (fun j env H1 => Ext H H1 ∧ H1 b1 = some (.box [.slice (t.women.map eW), .slice (t.pieces.map eP), i6 t.wrong]) ∧ Grown 1 H H1 (env 5) (eI (womenUpto t.women t.pieces[i].marks j)) ∧ env 1 = i6 i ∧ env 2 = .ptr b1 0 ∧ env 6 = i6 j ∧ env 32 = .any)
    ⟨(Ext.refl H).new hb1 _, updH_same _ _ _, .inl ⟨by simp [upd_at], rfl⟩, by simp [upd_at], by simp [upd_at], by simp [upd_at], by simp [upd_at]⟩ ?_
  rintro j env H1 hj ⟨hE, hB, hG, g1, g2, g6, hN⟩
  have hwl := womenUpto_len t.women t.pieces[i].marks j
  by_cases hlt : (j : Int) < (t.women.length : Int)
  · have hlt' : j < t.women.length := by omega
    have hgw : t.women.getD j default = t.women[j] := by simp [hlt']
    simp only [go_sem, reduceIte, reduceCtorEq, Nat.reduceEqDiff, Nat.reduceBEq, Nat.reduceAdd, Nat.reduceMul, Nat.reduceLeDiff, g1, g2, g6, hN, hB, hlt, map_get (f := eW) hlt', map_get (f := eP) hi, eW, eP, take_f', List.getElem?_cons_zero]
    refine pgo_call (has_c t.pieces[i].marks t.women[j].mark (hs.marks _ (List.getElem_mem _))) ?_
    by_cases hin : t.women[j].mark ∈ t.pieces[i].marks
    · simp only [go_sem, reduceIte, reduceCtorEq, Nat.reduceEqDiff, Nat.reduceBEq, Nat.reduceAdd, Nat.reduceMul, Nat.reduceLeDiff, hin, g1, g2, g6, hN]
      refine v_append hG hE rfl (eI_good _) (one_good _) (one_cell _) (by simp; omega) (by simp; omega) ?_
      intro v' H2 hg' he' hk'
      simp only [go_sem, reduceIte, reduceCtorEq, Nat.reduceEqDiff, Nat.reduceBEq, Nat.reduceAdd, Nat.reduceMul, Nat.reduceLeDiff, g1, g2, g6, hN, wsucc (show j < 4611686018427387904 by omega), hlt']
      refine ⟨he', hk'.box hG hB, ?_⟩
      rw [womenUpto_succ, hgw, if_pos hin, eI_app]; exact hg'
    · simp only [go_sem, reduceIte, reduceCtorEq, Nat.reduceEqDiff, Nat.reduceBEq, Nat.reduceAdd, Nat.reduceMul, Nat.reduceLeDiff, hin, g1, g2, g6, hN, wsucc (show j < 4611686018427387904 by omega), hlt']
      refine ⟨hE, hB, ?_⟩
      rw [womenUpto_succ, hgw, if_neg hin, List.append_nil]; exact hG
  · simp only [go_sem, reduceIte, reduceCtorEq, Nat.reduceEqDiff, Nat.reduceBEq, Nat.reduceAdd, Nat.reduceMul, Nat.reduceLeDiff, g1, g2, g6, hN, hB, hlt, take_f', List.getElem?_cons_zero]
    have : j = t.women.length := by omega
    subst this
    refine fin_ret 4 (by simp [upd_at, hN]) ⟨_, H, ?_, rfl, rfl⟩
    simp only [upd_at, if_true]
    exact hG.weaken hE
theorem capmin (cap a b : Nat) : (if ((min cap a : Nat) : Int) * (b : Int) < (cap : Int) then ((min cap a : Nat) : Int) * (b : Int) else (cap : Int)) = ((min cap (a * b) : Nat) : Int) := by
  have h0 : ((min cap a : Nat) : Int) * (b : Int) = ((min cap a * b : Nat) : Int) := by simp
  rw [h0]
  have h1 : min cap a * b ≤ a * b := Nat.mul_le_mul_right b (Nat.min_le_right cap a)
  rcases Nat.lt_or_ge cap a with h | h
  · rw [Nat.min_eq_left (by omega)] at *
    rcases Nat.eq_zero_or_pos b with rfl | hb
    · simp
    · have h2 : cap ≤ cap * b := Nat.le_mul_of_pos_right cap hb
      have h3 : cap ≤ a * b := by omega
      rw [Nat.min_eq_left h3]
      split <;> omega
  · rw [Nat.min_eq_right h] at *
    split <;> omega
def manyR (t : Table) (j : Nat) : Nat := min 3000 (prodL (womN t) 0 j)
theorem manyR_c (t : Table) (hs : TSm t) : Pure Tryz.prog 98 [eT t] (i6 (manyR t t.pieces.length)) := by
  intro H
  have h1 := hs.women
  have h2 := hs.pieces
  unfold Sm at h1 h2
  refine fn_of hmix fc98 (by simp) ?_
  rw [ienv1]
  simp only [go_sem, reduceIte, reduceCtorEq, Nat.reduceEqDiff, Nat.reduceBEq, Nat.reduceAdd, Nat.reduceMul, Nat.reduceLeDiff, ac98, eT]
  refine v_box _ rfl fun b1 hb1 => ?_
  simp only [go_sem, reduceIte, reduceCtorEq, Nat.reduceEqDiff, Nat.reduceBEq, Nat.reduceAdd, Nat.reduceMul, Nat.reduceLeDiff]
  refine x_for t.pieces.length (fun j env H1 => Ext H H1 ∧ H1 b1 = some (.box [.slice (t.women.map eW), .slice (t.pieces.map eP), i6 t.wrong]) ∧ env 1 = .ptr b1 0 ∧ env 3 = i6 (manyR t j) ∧ env 4 = i6 j ∧ env 20 = .any)
    ⟨(Ext.refl H).new hb1 _, updH_same _ _ _, by simp [upd_at], by simp [upd_at, manyR, prodL], by simp [upd_at], by simp [upd_at]⟩ ?_
  rintro j env H1 hj ⟨hE, hB, g1, g3, g4, hN⟩
  by_cases hlt : (j : Int) < (t.pieces.length : Int)
  · have hlt' : j < t.pieces.length := by omega
    simp only [go_sem, reduceIte, reduceCtorEq, Nat.reduceEqDiff, Nat.reduceBEq, Nat.reduceAdd, Nat.reduceMul, Nat.reduceLeDiff, g1, g3, g4, hN, hB, hlt, take_f', List.getElem?_cons_zero]
    refine (womenR_c t hs j hlt').go ?_
    have hwl := womenUpto_len t.women (t.pieces.getD j default).marks t.women.length
    have hmr : manyR t j ≤ 3000 := Nat.min_le_left _ _
    have hlen : (ofAt t j).length = womN t j := rfl
    have hwn : womN t j ≤ t.women.length := hwl
    have hmul : manyR t j * womN t j ≤ 3000 * 2147483648 := Nat.mul_le_mul hmr (by omega)
    have hcast : ((manyR t j : Nat) : Int) * ((womN t j : Nat) : Int) = ((manyR t j * womN t j : Nat) : Int) := by simp
    have hw : IntKind.i64.wrap (((manyR t j : Nat) : Int) * ((womN t j : Nat) : Int)) = ((manyR t j : Nat) : Int) * ((womN t j : Nat) : Int) := by
      rw [hcast]; exact w64 (by omega) (by omega)
    have hcap : (if ((manyR t j : Nat) : Int) * ((womN t j : Nat) : Int) < 3000 then ((manyR t j : Nat) : Int) * ((womN t j : Nat) : Int) else 3000) = ((manyR t (j + 1) : Nat) : Int) := by
      rw [show manyR t (j + 1) = min 3000 (prodL (womN t) 0 j * womN t j) by rw [manyR, prodL_snoc, Nat.zero_add]]
      exact capmin 3000 (prodL (womN t) 0 j) (womN t j)
    simp only [go_sem, reduceIte, reduceCtorEq, Nat.reduceEqDiff, Nat.reduceBEq, Nat.reduceAdd, Nat.reduceMul, Nat.reduceLeDiff, g1, g3, g4, hN, hlen, hw, hcap, wsucc (show j < 4611686018427387904 by omega), hlt', hB]
    exact hE
  · simp only [go_sem, reduceIte, reduceCtorEq, Nat.reduceEqDiff, Nat.reduceBEq, Nat.reduceAdd, Nat.reduceMul, Nat.reduceLeDiff, g1, g3, g4, hN, hB, hlt, take_f', List.getElem?_cons_zero]
    have : j = t.pieces.length := by omega
    subst this
    refine fin_ret 2 (by simp [upd_at, hN]) ⟨_, H, Settle.refl hE, ?_, rfl⟩
    simp [upd_at]
theorem capless (a b : Nat) : (if (2001 : Int) < ((min 2001 a : Nat) : Int) * (b : Int) then 2001 else ((min 2001 a : Nat) : Int) * (b : Int)) = ((min 2001 (a * b) : Nat) : Int) := by
  have := capmin 2001 a b
  rw [← this]
  have e : ((2001 : Nat) : Int) = 2001 := rfl
  rw [e]
  split <;> split <;> omega
theorem manyUpto_min (t : Table) : ∀ j, manyUpto t j = ((min 2001 (prodL (womN t) 0 j) : Nat) : Int)
  | 0 => by simp [manyUpto, prodL]
  | j + 1 => by
    rw [manyUpto, manyUpto_min t j, prodL_snoc, Nat.zero_add]
    exact capless _ _
def isTruthR (t : Table) (l : List Int) : Bool := ownersOK t l && decide (((wrongOf t (pad7 l)).length : Int) ≤ t.wrong)
theorem ownersR_c (t : Table) (hs : TSm t) (l : List Int) (hl : Sm l.length) : Pure Tryz.prog 148 [eT t, .slice (eI l)] (.bool (ownersOK t l)) := by
  intro H
  have h2 := hs.pieces
  unfold Sm at h2 hl
  refine fn_of hmix fc148 (by simp) ?_
  rw [ienv2]
  simp only [go_sem, reduceIte, reduceCtorEq, Nat.reduceEqDiff, Nat.reduceBEq, Nat.reduceAdd, Nat.reduceMul, Nat.reduceLeDiff, ac148, eT]
  refine v_box _ rfl fun b1 hb1 => ?_
  simp only [go_sem, reduceIte, reduceCtorEq, Nat.reduceEqDiff, Nat.reduceBEq, Nat.reduceAdd, Nat.reduceMul, Nat.reduceLeDiff]
  have e1 := (Ext.refl H).new hb1 (.box [.slice (t.women.map eW), .slice (t.pieces.map eP), i6 t.wrong])
  by_cases c1 : (l.length : Int) = (t.pieces.length : Int)
  rotate_left
  · simp only [go_sem, reduceIte, reduceCtorEq, Nat.reduceEqDiff, Nat.reduceBEq, Nat.reduceAdd, Nat.reduceMul, Nat.reduceLeDiff, c1]
    refine fin_ret 4 (by simp [upd_at]) ⟨_, H, Settle.refl e1, ?_, rfl⟩
    simp [upd_at, ownersOK, show ¬ l.length = t.pieces.length by omega]
  have c1' : l.length = t.pieces.length := by omega
  have d1 : decide ((l.length : Int) = (t.pieces.length : Int)) = true := decide_eq_true c1
  simp only [go_sem, reduceIte, reduceCtorEq, Nat.reduceEqDiff, Nat.reduceBEq, Nat.reduceAdd, Nat.reduceMul, Nat.reduceLeDiff, d1]
  refine x_for l.length (fun j env H1 => Ext H H1 ∧ H1 b1 = some (.box [.slice (t.women.map eW), .slice (t.pieces.map eP), i6 t.wrong]) ∧ env 1 = .slice (eI l) ∧ env 2 = .ptr b1 0 ∧ env 5 = i6 j ∧ env 27 = .any ∧ ∀ i, i < j → l.getD i 0 ∈ ofAt t i)
    ⟨e1, updH_same _ _ _, by simp [upd_at], by simp [upd_at], by simp [upd_at], by simp [upd_at], by simp⟩ ?_
  rintro j env H1 hj ⟨hE, hB, g1, g2, g5, hN, hq⟩
  by_cases hlt : (j : Int) < (l.length : Int)
  · have hlt' : j < l.length := by omega
    have hgl : l.getD j 0 = l[j] := by simp [hlt']
    have hwl := womenUpto_len t.women (t.pieces.getD j default).marks t.women.length
    have h1 := hs.women
    unfold Sm at h1
    simp only [go_sem, reduceIte, reduceCtorEq, Nat.reduceEqDiff, Nat.reduceBEq, Nat.reduceAdd, Nat.reduceMul, Nat.reduceLeDiff, g1, g2, g5, hN, hlt, hB]
    refine pgo_call (womenR_c t hs j (by omega)) ?_
    simp only [go_sem, reduceIte, reduceCtorEq, Nat.reduceEqDiff, Nat.reduceBEq, Nat.reduceAdd, Nat.reduceMul, Nat.reduceLeDiff, g1, g2, g5, hN, eI_get hlt', take_f', List.getElem?_cons_zero]
    refine pgo_call (has_c (ofAt t j) l[j] (by unfold Sm; rw [show (ofAt t j).length = (womenUpto t.women (t.pieces.getD j default).marks t.women.length).length from rfl]; omega)) ?_
    by_cases hin : l[j] ∈ ofAt t j
    · simp only [go_sem, reduceIte, reduceCtorEq, Nat.reduceEqDiff, Nat.reduceBEq, Nat.reduceAdd, Nat.reduceMul, Nat.reduceLeDiff, hin, g1, g2, g5, hN, wsucc (show j < 4611686018427387904 by omega), hlt']
      refine ⟨hE, hB, fun i hi => ?_⟩
      rcases Nat.lt_or_ge i j with h | h
      · exact hq i h
      · have : i = j := by omega
        subst this; rw [hgl]; exact hin
    · simp only [go_sem, reduceIte, reduceCtorEq, Nat.reduceEqDiff, Nat.reduceBEq, Nat.reduceAdd, Nat.reduceMul, Nat.reduceLeDiff, hin, hN]
      refine fin_ret 4 (by simp [upd_at, hN]) ⟨_, H, Settle.refl hE, ?_, rfl⟩
      have : ownersOK t l = false := by
        simp only [ownersOK, Bool.and_eq_false_iff, List.all_eq_false]
        exact .inr ⟨j, by simp [hlt'], by rw [hgl, show womenOf t.women (t.pieces.getD j default).marks = ofAt t j from rfl, decide_eq_false hin]; simp⟩
      simp [upd_at, this]
  · simp only [go_sem, reduceIte, reduceCtorEq, Nat.reduceEqDiff, Nat.reduceBEq, Nat.reduceAdd, Nat.reduceMul, Nat.reduceLeDiff, g1, g2, g5, hN, hlt]
    have : j = l.length := by omega
    subst this
    refine fin_ret 4 (by simp [upd_at, hN]) ⟨_, H, Settle.refl hE, ?_, rfl⟩
    have : ownersOK t l = true := by
      simp only [ownersOK, Bool.and_eq_true, decide_eq_true_eq, List.all_eq_true, List.mem_range]
      exact ⟨c1', hq⟩
    simp [upd_at, this]
theorem ownR_c (l : List Int) (w : Int) (hl : Sm l.length) : Pure Tryz.prog 175 [.slice (eI l), i6 w] (i6 (l.count w : Nat)) := by
  intro H
  unfold Sm at hl
  refine fn_of hmix fc175 (by simp) ?_
  rw [ienv2]
  simp only [go_sem, reduceIte, reduceCtorEq, Nat.reduceEqDiff, Nat.reduceBEq, Nat.reduceAdd, Nat.reduceMul, Nat.reduceLeDiff, ac175]
  refine x_for l.length (fun j env H1 => H1 = H ∧ env 0 = .slice (eI l) ∧ env 1 = i6 w ∧ env 5 = i6 ((l.take j).count w : Nat) ∧ env 6 = i6 j ∧ env 22 = .any) (by simp [upd_at]) ?_
  rintro j env H1 hj ⟨rfl, g0, g1, g5, g6, hN⟩
  by_cases hlt : (j : Int) < (l.length : Int)
  · have hlt' : j < l.length := by omega
    have hcl : (l.take j).count w ≤ j := Nat.le_trans List.count_le_length (by simp; omega)
    by_cases he : l[j] = w
    · simp only [go_sem, reduceIte, reduceCtorEq, Nat.reduceEqDiff, Nat.reduceBEq, Nat.reduceAdd, Nat.reduceMul, Nat.reduceLeDiff, g0, g1, g5, g6, hN, hlt, eI_get hlt', he, wsucc (show j < 4611686018427387904 by omega), wsucc (show (l.take j).count w < 4611686018427387904 by omega), hlt']
      rw [take_snoc hlt', List.count_append, he]; simp
    · simp only [go_sem, reduceIte, reduceCtorEq, Nat.reduceEqDiff, Nat.reduceBEq, Nat.reduceAdd, Nat.reduceMul, Nat.reduceLeDiff, g0, g1, g5, g6, hN, hlt, eI_get hlt', he, wsucc (show j < 4611686018427387904 by omega), hlt']
      rw [take_snoc hlt', List.count_append, List.count_singleton]; simp [he]
  · simp only [go_sem, reduceIte, reduceCtorEq, Nat.reduceEqDiff, Nat.reduceBEq, Nat.reduceAdd, Nat.reduceMul, Nat.reduceLeDiff, g0, g1, g5, g6, hN, hlt]
    have : j = l.length := by omega
    subst this
    refine fin_ret' 4 (by simp [upd_at, hN]) ?_
    simp only [upd_at, if_true, and_true]
    rw [List.take_length] at g5
    simp [g5]
end Go.Lift

set_option linter.unusedSimpArgs false
set_option linter.unusedVariables false
namespace Go.Lift
open Go Go.Proofs
theorem faultT_c (t : Table) (hs : TSm t) : Pure Tryz.prog 95 [eT t] (i6 (checkTable t)) := by
  intro H
  have h1 := hs.women
  have h2 := hs.pieces
  unfold Sm at h1 h2
  refine fn_of hmix fc95 (by simp) ?_
  rw [ienv1]
  simp only [go_sem, reduceIte, reduceCtorEq, Nat.reduceEqDiff, Nat.reduceBEq, Nat.reduceAdd, Nat.reduceMul, Nat.reduceLeDiff, ac95, eT]
  refine v_box _ rfl fun b1 hb1 => ?_
  have e1 := (Ext.refl H).new hb1 (.box [.slice (t.women.map eW), .slice (t.pieces.map eP), i6 t.wrong])
  by_cases c1 : 5 < (t.women.length : Int)
  · simp only [go_sem, reduceIte, reduceCtorEq, Nat.reduceEqDiff, Nat.reduceBEq, Nat.reduceAdd, Nat.reduceMul, Nat.reduceLeDiff, c1]
    refine fin_ret 2 (by simp [upd_at]) ⟨_, H, Settle.refl e1, ?_, rfl⟩
    simp [upd_at, checkTable, c1]
  by_cases c2 : 7 < (t.pieces.length : Int)
  · simp only [go_sem, reduceIte, reduceCtorEq, Nat.reduceEqDiff, Nat.reduceBEq, Nat.reduceAdd, Nat.reduceMul, Nat.reduceLeDiff, c1, c2]
    refine fin_ret 2 (by simp [upd_at]) ⟨_, H, Settle.refl e1, ?_, rfl⟩
    simp [upd_at, checkTable, c2]
  simp only [go_sem, reduceIte, reduceCtorEq, Nat.reduceEqDiff, Nat.reduceBEq, Nat.reduceAdd, Nat.reduceMul, Nat.reduceLeDiff, c1, c2, take_f', List.getElem?_cons_zero, List.drop_succ_cons]
  refine (in_c t.wrong 0 5).go ?_
  by_cases c3 : 0 ≤ t.wrong ∧ t.wrong ≤ 5
  rotate_left
  · simp only [go_sem, reduceIte, reduceCtorEq, Nat.reduceEqDiff, Nat.reduceBEq, Nat.reduceAdd, Nat.reduceMul, Nat.reduceLeDiff, c3]
    refine fin_ret 2 (by simp [upd_at]) ⟨_, H, Settle.refl e1, ?_, rfl⟩
    simp [upd_at, checkTable, c1, c2, c3]
  simp only [go_sem, reduceIte, reduceCtorEq, Nat.reduceEqDiff, Nat.reduceBEq, Nat.reduceAdd, Nat.reduceMul, Nat.reduceLeDiff, c3]
  refine x_for t.women.length (fun j env H1 => Ext H H1 ∧ H1 b1 = some (.box [.slice (t.women.map eW), .slice (t.pieces.map eP), i6 t.wrong]) ∧ env 1 = .ptr b1 0 ∧ env 3 = i6 j ∧ env 121 = .any ∧ ∀ i, i < j → womanOK (t.women.getD i default) = true)
    ⟨e1, updH_same _ _ _, by simp [upd_at], by simp [upd_at], by simp [upd_at], by simp⟩ ?_
  rintro j env H1 hj ⟨hE, hB, g1, g3, hN, hq⟩
  by_cases hlt : (j : Int) < (t.women.length : Int)
  · have hlt' : j < t.women.length := by omega
    have hget : t.women.getD j default = t.women[j] := by simp [hlt']
    have hbad : womanOK t.women[j] = false → checkTable t = 1 := fun hw => by
      have : t.women.all womanOK = false := List.all_eq_false.2 ⟨_, List.getElem_mem hlt', by simp [hw]⟩
      simp [checkTable, c1, c2, this]
    simp only [go_sem, reduceIte, reduceCtorEq, Nat.reduceEqDiff, Nat.reduceBEq, Nat.reduceAdd, Nat.reduceMul, Nat.reduceLeDiff, g1, g3, hN, hlt, hB, take_f', List.getElem?_cons_zero, map_get (f := eW) hlt', eW]
    refine v_alloc fun b4 hb4 => ?_
    have n14 : b1 ≠ b4 := fun h => by subst h; rw [hB] at hb4; cases hb4
    simp only [go_sem, reduceIte, reduceCtorEq, Nat.reduceEqDiff, Nat.reduceBEq, Nat.reduceAdd, Nat.reduceMul, Nat.reduceLeDiff, g1, g3, hN]
    rw [v_store]
    refine ⟨rfl, rfl, by simp [AV.cells, AV.isCell], _, updH_same _ _ _, by simp, ?_⟩
    have hE4 : ∀ o1 o2, Ext H (updH (updH H1 b4 o1) b4 o2) := fun o1 o2 => (hE.new hb4 _).upd (hE.isNone hb4) _
    simp only [go_sem, reduceIte, reduceCtorEq, Nat.reduceEqDiff, Nat.reduceBEq, Nat.reduceAdd, Nat.reduceMul, Nat.reduceLeDiff, g1, g3, hN, placeAt, List.append_nil, List.nil_append, List.drop_nil, take_f', List.getElem?_cons_zero]
    refine (in_c _ 0 9).go ?_
    by_cases d1 : 0 ≤ t.women[j].mark ∧ t.women[j].mark ≤ 9
    rotate_left
    · simp only [go_sem, reduceIte, reduceCtorEq, Nat.reduceEqDiff, Nat.reduceBEq, Nat.reduceAdd, Nat.reduceMul, Nat.reduceLeDiff, d1, hN]
      refine fin_ret 2 (by simp [upd_at, hN]) ⟨_, H, Settle.refl (hE4 _ _), ?_, rfl⟩
      rw [hbad (by simp only [womanOK, decide_eq_false_iff_not]; intro h; exact d1 ⟨h.1, h.2.1⟩)]; simp [upd_at]
    by_cases d2 : t.women[j].lo < 0
    · simp only [go_sem, reduceIte, reduceCtorEq, Nat.reduceEqDiff, Nat.reduceBEq, Nat.reduceAdd, Nat.reduceMul, Nat.reduceLeDiff, d1, d2, hN, take_f', List.getElem?_cons_zero]
      refine fin_ret 2 (by simp [upd_at, hN]) ⟨_, H, Settle.refl (hE4 _ _), ?_, rfl⟩
      rw [hbad (by simp only [womanOK, decide_eq_false_iff_not]; omega)]; simp [upd_at]
    by_cases d3 : t.women[j].hi < t.women[j].lo
    · simp only [go_sem, reduceIte, reduceCtorEq, Nat.reduceEqDiff, Nat.reduceBEq, Nat.reduceAdd, Nat.reduceMul, Nat.reduceLeDiff, d1, d2, d3, hN, take_f', List.getElem?_cons_zero]
      refine fin_ret 2 (by simp [upd_at, hN]) ⟨_, H, Settle.refl (hE4 _ _), ?_, rfl⟩
      rw [hbad (by simp only [womanOK, decide_eq_false_iff_not]; omega)]; simp [upd_at]
    by_cases d4 : 7 < t.women[j].hi
    · simp only [go_sem, reduceIte, reduceCtorEq, Nat.reduceEqDiff, Nat.reduceBEq, Nat.reduceAdd, Nat.reduceMul, Nat.reduceLeDiff, d1, d2, d3, d4, hN, take_f', List.getElem?_cons_zero]
      refine fin_ret 2 (by simp [upd_at, hN]) ⟨_, H, Settle.refl (hE4 _ _), ?_, rfl⟩
      rw [hbad (by simp only [womanOK, decide_eq_false_iff_not]; omega)]; simp [upd_at]
    simp only [go_sem, reduceIte, reduceCtorEq, Nat.reduceEqDiff, Nat.reduceBEq, Nat.reduceAdd, Nat.reduceMul, Nat.reduceLeDiff, d1, d2, d3, d4, g1, g3, hN, take_f', List.getElem?_cons_zero, updH_ne _ _ n14, hB, wsucc (show j < 4611686018427387904 by omega), hlt']
    refine ⟨hE4 _ _, fun i hi => ?_⟩
    rcases Nat.lt_or_ge i j with h | h
    · exact hq i h
    · have : i = j := by omega
      subst this; rw [hget]; simp only [womanOK, decide_eq_true_eq]; omega
  have hj' : j = t.women.length := by omega
  subst hj'
  have hwall : t.women.all womanOK = true := List.all_eq_true.2 fun w hw => by
    obtain ⟨i, hi, rfl⟩ := List.getElem_of_mem hw
    have := hq i hi
    rwa [show t.women.getD i default = t.women[i] by simp [hi]] at this
  simp only [go_sem, reduceIte, reduceCtorEq, Nat.reduceEqDiff, Nat.reduceBEq, Nat.reduceAdd, Nat.reduceMul, Nat.reduceLeDiff, g1, g3, hN, hlt, hB, take_f', List.getElem?_cons_zero]
  refine x_for t.pieces.length (fun j env H1 => Ext H H1 ∧ H1 b1 = some (.box [.slice (t.women.map eW), .slice (t.pieces.map eP), i6 t.wrong]) ∧ env 1 = .ptr b1 0 ∧ env 5 = i6 j ∧ env 121 = .any ∧ ∀ i, i < j → pieceOK t (t.pieces.getD i default) = true)
    ⟨hE, hB, by simp [upd_at, g1], by simp [upd_at], by simp [upd_at, hN], by simp⟩ ?_
  clear hE hB g1 g3 hN hq hlt hj env H1
  rintro j env H1 hj ⟨hE, hB, g1, g5, hN, hq⟩
  by_cases hlt : (j : Int) < (t.pieces.length : Int)
  rotate_left
  · have hj' : j = t.pieces.length := by omega
    subst hj'
    have hpall : t.pieces.all (pieceOK t) = true := List.all_eq_true.2 fun w hw => by
      obtain ⟨i, hi, rfl⟩ := List.getElem_of_mem hw
      have := hq i hi
      rwa [show t.pieces.getD i default = t.pieces[i] by simp [hi]] at this
    simp only [go_sem, reduceIte, reduceCtorEq, Nat.reduceEqDiff, Nat.reduceBEq, Nat.reduceAdd, Nat.reduceMul, Nat.reduceLeDiff, g1, g5, hN, hlt, hB, take_f', List.getElem?_cons_zero]
    refine (manyR_c t hs).go ?_
    have hm : (2000 : Int) < ((manyR t t.pieces.length : Nat) : Int) ↔ 2000 < manyUpto t t.pieces.length := by
      rw [manyUpto_min]; unfold manyR; omega
    by_cases c6 : (2000 : Int) < ((manyR t t.pieces.length : Nat) : Int)
    · simp only [go_sem, reduceIte, reduceCtorEq, Nat.reduceEqDiff, Nat.reduceBEq, Nat.reduceAdd, Nat.reduceMul, Nat.reduceLeDiff, c6, hN]
      refine fin_ret 2 (by simp [upd_at, hN]) ⟨_, H, Settle.refl hE, ?_, rfl⟩
      simp [upd_at, checkTable, c1, c2, c3, hwall, hpall, hm.1 c6]
    · simp only [go_sem, reduceIte, reduceCtorEq, Nat.reduceEqDiff, Nat.reduceBEq, Nat.reduceAdd, Nat.reduceMul, Nat.reduceLeDiff, c6, hN]
      refine fin_ret 2 (by simp [upd_at, hN]) ⟨_, H, Settle.refl hE, ?_, rfl⟩
      have c6' : ¬ 2000 < manyUpto t t.pieces.length := fun h => c6 (hm.2 h)
      simp [upd_at, checkTable, c1, c2, c3, hwall, hpall, c6']
  have hlt' : j < t.pieces.length := by omega
  have hget : t.pieces.getD j default = t.pieces[j] := by simp [hlt']
  obtain ⟨p, hp⟩ : ∃ p, p = t.pieces[j] := ⟨_, rfl⟩
  have hpm : Sm p.marks.length := by rw [hp]; exact hs.marks _ (List.getElem_mem _)
  have hpm' := hpm
  unfold Sm at hpm'
  have hbad : pieceOK t p = false → checkTable t = 1 := fun hw => by
    have : t.pieces.all (pieceOK t) = false := List.all_eq_false.2 ⟨_, List.getElem_mem hlt', by rw [← hp, hw]; simp⟩
    simp [checkTable, c1, c2, this]
  simp only [go_sem, reduceIte, reduceCtorEq, Nat.reduceEqDiff, Nat.reduceBEq, Nat.reduceAdd, Nat.reduceMul, Nat.reduceLeDiff, g1, g5, hN, hlt, hB, take_f', List.getElem?_cons_zero, map_get (f := eP) hlt', ← hp, eP]
  refine v_alloc fun b6 hb6 => ?_
  have n16 : b1 ≠ b6 := fun h => by subst h; rw [hB] at hb6; cases hb6
  have z6 : H b6 = none := hE.isNone hb6
  simp only [go_sem, reduceIte, reduceCtorEq, Nat.reduceEqDiff, Nat.reduceBEq, Nat.reduceAdd, Nat.reduceMul, Nat.reduceLeDiff, g1, g5, hN]
  rw [v_store]
  refine ⟨rfl, rfl, by simp [AV.cells, AV.isCell], _, updH_same _ _ _, by simp, ?_⟩
  have hE6 : ∀ o1 o2, Ext H (updH (updH H1 b6 o1) b6 o2) := fun o1 o2 => (hE.new hb6 _).upd z6 _
  simp only [go_sem, reduceIte, reduceCtorEq, Nat.reduceEqDiff, Nat.reduceBEq, Nat.reduceAdd, Nat.reduceMul, Nat.reduceLeDiff, g1, g5, hN, placeAt, List.append_nil, List.nil_append, List.drop_nil]
  refine x_for p.marks.length (fun k env H2 => Ext H H2 ∧ H2 b1 = some (.box [.slice (t.women.map eW), .slice (t.pieces.map eP), i6 t.wrong]) ∧ H2 b6 = some (.box [.slice (eI p.marks), i6 p.bundle]) ∧ env 1 = .ptr b1 0 ∧ env 5 = i6 j ∧ env 6 = .ptr b6 0 ∧ env 7 = i6 k ∧ env 121 = .any ∧ ∀ i, i < k → markAt p.marks i = true)
    ⟨hE6 _ _, by rw [updH_ne _ _ n16, updH_ne _ _ n16]; exact hB, updH_same _ _ _, by simp [upd_at, g1], by simp [upd_at, g5], by simp [upd_at], by simp [upd_at], by simp [upd_at, hN], by simp⟩ ?_
  clear hE hB g1 g5 hN hlt hb6 hE6 env H1
  rintro k env H1 hk ⟨hE, hB, hB6, g1, g5, g6, g7, hN, hm⟩
  by_cases hlt : (k : Int) < (p.marks.length : Int)
  · have hltk : k < p.marks.length := by omega
    have hgk : p.marks.getD k 0 = p.marks[k] := by simp [hltk]
    have hbadm : markAt p.marks k = false → pieceOK t p = false := fun h => by
      have : marksOK p.marks = false := by rw [marksOK, List.all_eq_false]; exact ⟨k, by simp [hltk], by simp [h]⟩
      rw [pieceOK, this]; rfl
    simp only [go_sem, reduceIte, reduceCtorEq, Nat.reduceEqDiff, Nat.reduceBEq, Nat.reduceAdd, Nat.reduceMul, Nat.reduceLeDiff, g1, g5, g6, g7, hN, hlt, hB6, eI_get hltk, take_f', List.getElem?_cons_zero]
    refine pgo_call (in_c p.marks[k] 0 9) ?_
    by_cases d1 : 0 ≤ p.marks[k] ∧ p.marks[k] ≤ 9
    rotate_left
    · simp only [go_sem, reduceIte, reduceCtorEq, Nat.reduceEqDiff, Nat.reduceBEq, Nat.reduceAdd, Nat.reduceMul, Nat.reduceLeDiff, d1, hN]
      refine fin_ret 2 (by simp [upd_at, hN]) ⟨_, H, Settle.refl hE, ?_, rfl⟩
      rw [hbad (hbadm (by rw [markAt, hgk, decide_eq_false d1]; rfl))]; simp [upd_at]
    by_cases d2 : (0 : Int) < (k : Int)
    rotate_left
    · have hk0 : k = 0 := by omega
      simp only [go_sem, reduceIte, reduceCtorEq, Nat.reduceEqDiff, Nat.reduceBEq, Nat.reduceAdd, Nat.reduceMul, Nat.reduceLeDiff, d1, d2, g1, g5, g6, g7, hN, wsucc (show k < 4611686018427387904 by omega), hltk]
      refine ⟨hE, hB, hB6, fun i hi => ?_⟩
      rcases Nat.lt_or_ge i k with h | h
      · exact hm i h
      · have : i = k := by omega
        subst this; rw [markAt, hgk, decide_eq_true d1]; simp [hk0]
    have hgk1 : p.marks.getD (k - 1) 0 = p.marks[k - 1] := by simp [show k - 1 < p.marks.length by omega]
    have hk0 : ¬ k = 0 := by omega
    by_cases d3 : p.marks[k] ≤ p.marks[k - 1]
    · simp only [go_sem, reduceIte, reduceCtorEq, Nat.reduceEqDiff, Nat.reduceBEq, Nat.reduceAdd, Nat.reduceMul, Nat.reduceLeDiff, d1, d2, d3, g1, g5, g6, g7, hN, hB6, take_f', List.getElem?_cons_zero, wpred (show k < 4611686018427387904 by omega) (show 0 < k by omega), eI_get hltk, eI_get (show k - 1 < p.marks.length by omega)]
      refine fin_ret 2 (by simp [upd_at, hN]) ⟨_, H, Settle.refl hE, ?_, rfl⟩
      rw [hbad (hbadm (by rw [markAt, hgk, hgk1, decide_eq_true d3, decide_eq_false hk0]; simp))]; simp [upd_at]
    · simp only [go_sem, reduceIte, reduceCtorEq, Nat.reduceEqDiff, Nat.reduceBEq, Nat.reduceAdd, Nat.reduceMul, Nat.reduceLeDiff, d1, d2, d3, g1, g5, g6, g7, hN, hB6, take_f', List.getElem?_cons_zero, wpred (show k < 4611686018427387904 by omega) (show 0 < k by omega), eI_get hltk, eI_get (show k - 1 < p.marks.length by omega), wsucc (show k < 4611686018427387904 by omega), hltk]
      refine ⟨hE, hB, fun i hi => ?_⟩
      rcases Nat.lt_or_ge i k with h | h
      · exact hm i h
      · have : i = k := by omega
        subst this; rw [markAt, hgk, hgk1, decide_eq_true d1, decide_eq_false d3]; simp
  have hk' : k = p.marks.length := by omega
  subst hk'
  have hmall : marksOK p.marks = true := by
    rw [marksOK, List.all_eq_true]; intro i hi; exact hm i (by simpa using hi)
  have hw1 := w64 (x := (t.women.length : Int) - 1) (by omega) (by omega)
  simp only [go_sem, reduceIte, reduceCtorEq, Nat.reduceEqDiff, Nat.reduceBEq, Nat.reduceAdd, Nat.reduceMul, Nat.reduceLeDiff, g1, g5, g6, g7, hN, hlt, hB, hB6, take_f', List.getElem?_cons_zero, List.drop_succ_cons, hw1]
  refine (in_c p.bundle 0 _).go ?_
  by_cases d1 : 0 ≤ p.bundle ∧ p.bundle ≤ (t.women.length : Int) - 1
  rotate_left
  · simp only [go_sem, reduceIte, reduceCtorEq, Nat.reduceEqDiff, Nat.reduceBEq, Nat.reduceAdd, Nat.reduceMul, Nat.reduceLeDiff, d1, hN]
    refine fin_ret 2 (by simp [upd_at, hN]) ⟨_, H, Settle.refl hE, ?_, rfl⟩
    rw [hbad (by rw [pieceOK, decide_eq_false d1]; simp)]; simp [upd_at]
  simp only [go_sem, reduceIte, reduceCtorEq, Nat.reduceEqDiff, Nat.reduceBEq, Nat.reduceAdd, Nat.reduceMul, Nat.reduceLeDiff, d1, hN, g1, g5, hB]
  refine (womenR_c t hs j hlt').go ?_
  have hof : ofAt t j = womenOf t.women p.marks := by rw [ofAt, hget, ← hp]
  rw [hof]
  by_cases d2 : ((womenOf t.women p.marks).length : Int) = 0
  · simp only [go_sem, reduceIte, reduceCtorEq, Nat.reduceEqDiff, Nat.reduceBEq, Nat.reduceAdd, Nat.reduceMul, Nat.reduceLeDiff, d1, d2, hN]
    refine fin_ret 2 (by simp [upd_at, hN]) ⟨_, H, Settle.refl hE, ?_, rfl⟩
    rw [hbad (by rw [pieceOK, show decide (0 < (womenOf t.women p.marks).length) = false by rw [decide_eq_false_iff_not]; omega]; simp)]; simp [upd_at]
  · simp only [go_sem, reduceIte, reduceCtorEq, Nat.reduceEqDiff, Nat.reduceBEq, Nat.reduceAdd, Nat.reduceMul, Nat.reduceLeDiff, d1, d2, g1, g5, g6, g7, hN, hB, wsucc (show j < 4611686018427387904 by omega), hlt']
    refine ⟨hE, fun i hi => ?_⟩
    rcases Nat.lt_or_ge i j with h | h
    · exact hq i h
    · have : i = j := by omega
      subst this
      rw [hget, ← hp, pieceOK, hmall, decide_eq_true d1, show decide (0 < (womenOf t.women p.marks).length) = true by rw [decide_eq_true_eq]; omega]; rfl
end Go.Lift

set_option linter.unusedSimpArgs false
set_option linter.unusedVariables false
namespace Go.Lift
open Go Go.Proofs
theorem natOf_snoc (c : List Bool) (b : Bool) : natOf (c ++ [b]) = if b = true then natOf c ||| 2 ^ c.length else natOf c := by
  apply Nat.eq_of_testBit_eq
  intro i
  rw [natOf_bit, List.getD_eq_getElem?_getD]
  have hl := natOf_lt c
  rcases Nat.lt_trichotomy i c.length with h | h | h
  · rw [List.getElem?_append_left h, ← List.getD_eq_getElem?_getD, ← natOf_bit]
    cases b
    · simp
    · simp [Nat.testBit_or, Nat.testBit_two_pow, show ¬ c.length = i by omega]
  · subst h
    rw [List.getElem?_append_right (Nat.le_refl _)]
    have := Nat.testBit_lt_two_pow hl
    cases b <;> simp [Nat.testBit_or, Nat.testBit_two_pow, this]
  · rw [List.getElem?_append_right (by omega), List.getElem?_eq_none (by simp; omega)]
    have h1 : (natOf c).testBit i = false := Nat.testBit_lt_two_pow (Nat.lt_of_lt_of_le hl (Nat.pow_le_pow_right (by omega) (by omega)))
    cases b <;> simp [Nat.testBit_or, Nat.testBit_two_pow, h1]
    omega
theorem w_shl1 {i : Nat} (hi : i < 62) : IntKind.i64.wrap (1 * 2 ^ Nat.min i IntKind.i64.bits) = ((2 ^ i : Nat) : Int) := by
  have h := w_shl (a := 1) (i := i) (by omega) (by rw [Nat.one_mul]; exact Nat.pow_lt_pow_right (by omega) hi)
  rw [Nat.one_mul] at h
  exact h
theorem two_lt {i : Nat} (hi : i < 62) : 2 ^ i < 2 ^ 62 := Nat.pow_lt_pow_right (by omega) hi
theorem natOf_lt62 {c : List Bool} (hc : c.length ≤ 62) : natOf c < 2 ^ 62 := Nat.lt_of_lt_of_le (natOf_lt c) (Nat.pow_le_pow_right (by omega) hc)
def rightAt (t : Table) (l : List Int) (w : Nat) : Bool := decide ((t.women.getD w default).lo ≤ (l.count (w : Int) : Nat) ∧ ((l.count (w : Int) : Nat) : Int) ≤ (t.women.getD w default).hi)
def rightL (t : Table) (l : List Int) : List Bool := (List.range t.women.length).map (rightAt t l)
theorem rightR_c (t : Table) (l : List Int) (hw : t.women.length ≤ 5) (hl : Sm l.length) : Pure Tryz.prog 150 [eT t, .slice (eI l)] (i6 (natOf (rightL t l) : Nat)) := by
  intro H
  refine fn_of hmix fc150 (by simp) ?_
  rw [ienv2]
  simp only [go_sem, reduceIte, reduceCtorEq, Nat.reduceEqDiff, Nat.reduceBEq, Nat.reduceAdd, Nat.reduceMul, Nat.reduceLeDiff, ac150, eT]
  refine v_box _ rfl fun b1 hb1 => ?_
  simp only [go_sem, reduceIte, reduceCtorEq, Nat.reduceEqDiff, Nat.reduceBEq, Nat.reduceAdd, Nat.reduceMul, Nat.reduceLeDiff]
  refine x_for t.women.length (fun j env H1 => Ext H H1 ∧ H1 b1 = some (.box [.slice (t.women.map eW), .slice (t.pieces.map eP), i6 t.wrong]) ∧ env 1 = .slice (eI l) ∧ env 2 = .ptr b1 0 ∧ env 5 = i6 (natOf ((List.range j).map (rightAt t l)) : Nat) ∧ env 6 = i6 j ∧ env 38 = .any)
    ⟨(Ext.refl H).new hb1 _, updH_same _ _ _, by simp [upd_at], by simp [upd_at], by simp [upd_at, natOf], by simp [upd_at], by simp [upd_at]⟩ ?_
  rintro j env H1 hj ⟨hE, hB, g1, g2, g5, g6, hN⟩
  by_cases hlt : (j : Int) < (t.women.length : Int)
  · have hlt' : j < t.women.length := by omega
    have hget : t.women.getD j default = t.women[j] := by simp [hlt']
    have hsn : natOf ((List.range (j + 1)).map (rightAt t l)) = if rightAt t l j = true then natOf ((List.range j).map (rightAt t l)) ||| 2 ^ j else natOf ((List.range j).map (rightAt t l)) := by
      rw [List.range_succ, List.map_append, List.map_cons, List.map_nil, natOf_snoc]; simp
    simp only [go_sem, reduceIte, reduceCtorEq, Nat.reduceEqDiff, Nat.reduceBEq, Nat.reduceAdd, Nat.reduceMul, Nat.reduceLeDiff, g1, g2, g5, g6, hN, hB, hlt, take_f', List.getElem?_cons_zero]
    refine pgo_call (ownR_c l (j : Int) hl) ?_
    simp only [go_sem, reduceIte, reduceCtorEq, Nat.reduceEqDiff, Nat.reduceBEq, Nat.reduceAdd, Nat.reduceMul, Nat.reduceLeDiff, g1, g2, g5, g6, hN, hB, take_f', List.getElem?_cons_zero, map_get (f := eW) hlt', eW]
    refine pgo_call (in_c _ _ _) ?_
    by_cases hm : t.women[j].lo ≤ ((l.count (j : Int) : Nat) : Int) ∧ ((l.count (j : Int) : Nat) : Int) ≤ t.women[j].hi
    · have hr : rightAt t l j = true := by rw [rightAt, hget]; exact decide_eq_true hm
      have hor := w_or (natOf_lt62 (c := (List.range j).map (rightAt t l)) (by simp; omega)) (two_lt (show j < 62 by omega))
      simp only [↓aops_nil, ↓aops_go, ↓aops_go0, ↓aops_if, ↓k_cont, ↓k_cont0, g_tt, g_ff, g_tf, g_ft, g_u, ↓apre_nil, ↓apre_if, ↓apre_go, pgo_det, Tag.isCall, popt_some, gp_tt, gp_ff, gp_tf, gp_ft, gp_u, ↓k_draw, opt_some, List.map_cons, List.map_nil, ev, upd_at, ↓x_skip, ↓x_label, ↓x_ret, ↓x_exit, ↓x_seq, ↓x_block, ↓x_ops, ↓x_cond, x_sel_t, x_sel_f, ↓x_draw, ↓q_kseq_n, ↓q_kseq_r, ↓q_kseq_e, ↓q_block_n, ↓q_block_r, ↓q_block_e, ↓q_loop_n, ↓q_loop_r, ↓q_loop_e, ↓l_done, d_mov, d_pick, d_not, d_nilchk, d_nilchk', d_conv, d_add, d_sub, d_mul, d_quo, d_rem, d_shl, d_shr, d_and, d_or, d_andnot, d_eql, d_neq, d_lss, d_leq, d_gtr, d_geq, d_eqb, d_neqb, d_mkfunc, d_load, d_fieldaddr, d_fieldaddr', d_field_t, d_field_f, d_idxaddr, d_idxaddr_g, elemO_some, d_idxaddr_m, d_arraddr, d_arraddr', d_idx_f, d_sub_s, d_sub_g, d_arrsub, d_arrall, d_extract, d_len, d_len_g, d_len_e, d_len_m, d_min, d_build, d_bslice0, d_bs1, d_bs2, d_bsa, d_eqagg, v_mov, v_pick, v_not, v_nilchk, v_conv, v_bin, v_binb, v_eqagg, v_mkfunc, v_load, v_fieldaddr, v_field, v_idxaddr, v_arraddr, v_idx, v_sub, v_arrsub, v_arrall, v_extract, v_len, v_min, v_build, v_bslice, v_lookup, v_call, v_callv, Nat.reduceEqDiff, Nat.reduceBEq, reduceIte, ite_true, ite_false, Bool.false_eq_true, Bool.true_eq_false, if_true, if_false, decide_eq_true_eq, decide_eq_false_iff_not, decide_true, decide_false, Nat.zero_add, Nat.add_zero, Nat.reduceAdd, reduceCtorEq, eq_self, not_true_eq_false, not_false_eq_true, Bool.not_true, Bool.not_false, Nat.reduceMul, List.length_cons, List.length_nil, at_elem, take_f, take_tt, Int.toNat_natCast, Option.some.injEq, Option.bind_some, Int.natCast_nonneg, true_and, and_true, and_self, ↓q_for_n, ↓q_for_r, ↓q_for_e, eI_len, List.length_map, at_obj, obj_box, updH_same, Nat.reduceLeDiff, Nat.zero_le, Nat.le_refl, List.drop_zero, List.drop_succ_cons, List.take_succ_cons, List.take_zero, c_agg, c_int, c_bool, c_slice, c_emp, c_grow, ↓l_one0, ↓l_one1, ↓k_l0, ↓k_l1, stab_nil, stab_cons, stab_if, st_tt, st_ff, st_tf, st_ft, st_u, hm, g1, g2, g5, g6, hN, u64w (show j < 2 ^ 62 by omega), w_shl1 (show j < 62 by omega), show ¬ ((j : Int) < 0) by omega, hor, wsucc (show j < 4611686018427387904 by omega), hlt', hB]
      refine ⟨hE, ?_⟩
      rw [hsn, if_pos hr]
    · have hr : rightAt t l j = false := by rw [rightAt, hget]; exact decide_eq_false hm
      simp only [↓aops_nil, ↓aops_go, ↓aops_go0, ↓aops_if, ↓k_cont, ↓k_cont0, g_tt, g_ff, g_tf, g_ft, g_u, ↓apre_nil, ↓apre_if, ↓apre_go, pgo_det, Tag.isCall, popt_some, gp_tt, gp_ff, gp_tf, gp_ft, gp_u, ↓k_draw, opt_some, List.map_cons, List.map_nil, ev, upd_at, ↓x_skip, ↓x_label, ↓x_ret, ↓x_exit, ↓x_seq, ↓x_block, ↓x_ops, ↓x_cond, x_sel_t, x_sel_f, ↓x_draw, ↓q_kseq_n, ↓q_kseq_r, ↓q_kseq_e, ↓q_block_n, ↓q_block_r, ↓q_block_e, ↓q_loop_n, ↓q_loop_r, ↓q_loop_e, ↓l_done, d_mov, d_pick, d_not, d_nilchk, d_nilchk', d_conv, d_add, d_sub, d_mul, d_quo, d_rem, d_shl, d_shr, d_and, d_or, d_andnot, d_eql, d_neq, d_lss, d_leq, d_gtr, d_geq, d_eqb, d_neqb, d_mkfunc, d_load, d_fieldaddr, d_fieldaddr', d_field_t, d_field_f, d_idxaddr, d_idxaddr_g, elemO_some, d_idxaddr_m, d_arraddr, d_arraddr', d_idx_f, d_sub_s, d_sub_g, d_arrsub, d_arrall, d_extract, d_len, d_len_g, d_len_e, d_len_m, d_min, d_build, d_bslice0, d_bs1, d_bs2, d_bsa, d_eqagg, v_mov, v_pick, v_not, v_nilchk, v_conv, v_bin, v_binb, v_eqagg, v_mkfunc, v_load, v_fieldaddr, v_field, v_idxaddr, v_arraddr, v_idx, v_sub, v_arrsub, v_arrall, v_extract, v_len, v_min, v_build, v_bslice, v_lookup, v_call, v_callv, Nat.reduceEqDiff, Nat.reduceBEq, reduceIte, ite_true, ite_false, Bool.false_eq_true, Bool.true_eq_false, if_true, if_false, decide_eq_true_eq, decide_eq_false_iff_not, decide_true, decide_false, Nat.zero_add, Nat.add_zero, Nat.reduceAdd, reduceCtorEq, eq_self, not_true_eq_false, not_false_eq_true, Bool.not_true, Bool.not_false, Nat.reduceMul, List.length_cons, List.length_nil, at_elem, take_f, take_tt, Int.toNat_natCast, Option.some.injEq, Option.bind_some, Int.natCast_nonneg, true_and, and_true, and_self, ↓q_for_n, ↓q_for_r, ↓q_for_e, eI_len, List.length_map, at_obj, obj_box, updH_same, Nat.reduceLeDiff, Nat.zero_le, Nat.le_refl, List.drop_zero, List.drop_succ_cons, List.take_succ_cons, List.take_zero, c_agg, c_int, c_bool, c_slice, c_emp, c_grow, ↓l_one0, ↓l_one1, ↓k_l0, ↓k_l1, stab_nil, stab_cons, stab_if, st_tt, st_ff, st_tf, st_ft, st_u, hm, g1, g2, g5, g6, hN, wsucc (show j < 4611686018427387904 by omega), hlt', hB]
      refine ⟨hE, ?_⟩
      rw [hsn, hr]; rfl
  · simp only [go_sem, reduceIte, reduceCtorEq, Nat.reduceEqDiff, Nat.reduceBEq, Nat.reduceAdd, Nat.reduceMul, Nat.reduceLeDiff, g1, g2, g5, g6, hN, hB, hlt, take_f', List.getElem?_cons_zero]
    have : j = t.women.length := by omega
    subst this
    refine fin_ret 4 (by simp [upd_at, hN]) ⟨_, H, Settle.refl hE, ?_, rfl⟩
    simp [upd_at, rightL]
theorem fullR_c (t : Table) (hw : t.women.length ≤ 5) : Pure Tryz.prog 149 [eT t] (i6 ((2 ^ t.women.length - 1 : Nat) : Int)) := by
  intro H
  refine fn_of hmix fc149 (by simp) ?_
  rw [ienv1]
  simp only [go_sem, reduceIte, reduceCtorEq, Nat.reduceEqDiff, Nat.reduceBEq, Nat.reduceAdd, Nat.reduceMul, Nat.reduceLeDiff, ac149, eT]
  refine v_box _ rfl fun b1 hb1 => ?_
  have hp : 1 ≤ 2 ^ t.women.length := Nat.one_le_two_pow
  have hp2 := two_lt (show t.women.length < 62 by omega)
  have hs : IntKind.i64.wrap (((2 ^ t.women.length : Nat) : Int) - 1) = ((2 ^ t.women.length - 1 : Nat) : Int) := by
    generalize 2 ^ t.women.length = q at hp hp2
    rw [w64 (by omega) (by omega)]; omega
  simp only [↓aops_nil, ↓aops_go, ↓aops_go0, ↓aops_if, ↓k_cont, ↓k_cont0, g_tt, g_ff, g_tf, g_ft, g_u, ↓apre_nil, ↓apre_if, ↓apre_go, pgo_det, Tag.isCall, popt_some, gp_tt, gp_ff, gp_tf, gp_ft, gp_u, ↓k_draw, opt_some, List.map_cons, List.map_nil, ev, upd_at, ↓x_skip, ↓x_label, ↓x_ret, ↓x_exit, ↓x_seq, ↓x_block, ↓x_ops, ↓x_cond, x_sel_t, x_sel_f, ↓x_draw, ↓q_kseq_n, ↓q_kseq_r, ↓q_kseq_e, ↓q_block_n, ↓q_block_r, ↓q_block_e, ↓q_loop_n, ↓q_loop_r, ↓q_loop_e, ↓l_done, d_mov, d_pick, d_not, d_nilchk, d_nilchk', d_conv, d_add, d_sub, d_mul, d_quo, d_rem, d_shl, d_shr, d_and, d_or, d_andnot, d_eql, d_neq, d_lss, d_leq, d_gtr, d_geq, d_eqb, d_neqb, d_mkfunc, d_load, d_fieldaddr, d_fieldaddr', d_field_t, d_field_f, d_idxaddr, d_idxaddr_g, elemO_some, d_idxaddr_m, d_arraddr, d_arraddr', d_idx_f, d_sub_s, d_sub_g, d_arrsub, d_arrall, d_extract, d_len, d_len_g, d_len_e, d_len_m, d_min, d_build, d_bslice0, d_bs1, d_bs2, d_bsa, d_eqagg, v_mov, v_pick, v_not, v_nilchk, v_conv, v_bin, v_binb, v_eqagg, v_mkfunc, v_load, v_fieldaddr, v_field, v_idxaddr, v_arraddr, v_idx, v_sub, v_arrsub, v_arrall, v_extract, v_len, v_min, v_build, v_bslice, v_lookup, v_call, v_callv, Nat.reduceEqDiff, Nat.reduceBEq, reduceIte, ite_true, ite_false, Bool.false_eq_true, Bool.true_eq_false, if_true, if_false, decide_eq_true_eq, decide_eq_false_iff_not, decide_true, decide_false, Nat.zero_add, Nat.add_zero, Nat.reduceAdd, reduceCtorEq, eq_self, not_true_eq_false, not_false_eq_true, Bool.not_true, Bool.not_false, Nat.reduceMul, List.length_cons, List.length_nil, at_elem, take_f, take_tt, Int.toNat_natCast, Option.some.injEq, Option.bind_some, Int.natCast_nonneg, true_and, and_true, and_self, ↓q_for_n, ↓q_for_r, ↓q_for_e, eI_len, List.length_map, at_obj, obj_box, updH_same, Nat.reduceLeDiff, Nat.zero_le, Nat.le_refl, List.drop_zero, List.drop_succ_cons, List.take_succ_cons, List.take_zero, c_agg, c_int, c_bool, c_slice, c_emp, c_grow, take_f', List.getElem?_cons_zero, u64w (show t.women.length < 2 ^ 62 by omega), w_shl1 (show t.women.length < 62 by omega), show ¬ ((t.women.length : Int) < 0) by omega, hs]
  refine fin_ret 2 (by simp [upd_at]) ⟨_, H, Settle.refl ((Ext.refl H).new hb1 _), ?_, rfl⟩
  simp [upd_at]
theorem wrong_bits (t : Table) (l : List Int) (hw : t.women.length ≤ 5) (hp : t.pieces.length ≤ 7) (hl : l.length = t.pieces.length) : bitsL (andN (2 ^ t.women.length - 1) (natOf (rightL t l))) = wrongOf t (pad7 l) := by
  have hlt : andN (2 ^ t.women.length - 1) (natOf (rightL t l)) < 2 ^ t.women.length := by
    apply Nat.lt_pow_two_of_testBit
    intro i hi
    rw [andN_bit, Nat.testBit_two_pow_sub_one]
    simp; omega
  rw [bitsL_of (by omega) hlt, bitsUpto, wrongOf, wrongUpto]
  congr 1
  apply List.filter_congr
  intro w hww
  have hww' : w < t.women.length := by simpa using hww
  rw [andN_bit, Nat.testBit_two_pow_sub_one, natOf_bit]
  have h1 : (rightL t l).getD w false = rightAt t l w := by simp [rightL, hww']
  have h2 : (pad7 l).take t.pieces.length = l := by
    rw [pad7, padTo, List.take_length, ← hl, List.take_left']; rfl
  rw [h1, rightAt, h2]
  simp [hww']
theorem isTruthR_c (t : Table) (hs : TSm t) (hw : t.women.length ≤ 5) (hp : t.pieces.length ≤ 7) (l : List Int) (hl : Sm l.length) : Pure Tryz.prog 122 [eT t, .slice (eI l)] (.bool (isTruthR t l)) := by
  intro H
  refine fn_of hmix fc122 (by simp) ?_
  rw [ienv2]
  simp only [go_sem, reduceIte, reduceCtorEq, Nat.reduceEqDiff, Nat.reduceBEq, Nat.reduceAdd, Nat.reduceMul, Nat.reduceLeDiff, ac122, eT]
  refine v_box _ rfl fun b1 hb1 => ?_
  have e1 := (Ext.refl H).new hb1 (.box [.slice (t.women.map eW), .slice (t.pieces.map eP), i6 t.wrong])
  simp only [go_sem, reduceIte, reduceCtorEq, Nat.reduceEqDiff, Nat.reduceBEq, Nat.reduceAdd, Nat.reduceMul, Nat.reduceLeDiff]
  refine pgo_call (ownersR_c t hs l hl) ?_
  cases c1 : ownersOK t l
  · simp only [go_sem, reduceIte, reduceCtorEq, Nat.reduceEqDiff, Nat.reduceBEq, Nat.reduceAdd, Nat.reduceMul, Nat.reduceLeDiff]
    refine fin_ret 4 (by simp [upd_at]) ⟨_, H, Settle.refl e1, ?_, rfl⟩
    simp [upd_at, isTruthR, c1]
  have hll := (agg_ok_owners t l c1).1
  have hpw := two_lt (show t.women.length < 62 by omega)
  have hrl : (rightL t l).length ≤ 62 := by simp [rightL]; omega
  simp only [go_sem, reduceIte, reduceCtorEq, Nat.reduceEqDiff, Nat.reduceBEq, Nat.reduceAdd, Nat.reduceMul, Nat.reduceLeDiff]
  refine pgo_call (fullR_c t hw) ?_
  simp only [go_sem, reduceIte, reduceCtorEq, Nat.reduceEqDiff, Nat.reduceBEq, Nat.reduceAdd, Nat.reduceMul, Nat.reduceLeDiff]
  refine pgo_call (rightR_c t l hw hl) ?_
  have handn := w_andN (a := 2 ^ t.women.length - 1) (b := natOf (rightL t l)) (by omega) (natOf_lt62 hrl)
  have hlt : andN (2 ^ t.women.length - 1) (natOf (rightL t l)) < 2 ^ 62 := by
    apply Nat.lt_pow_two_of_testBit
    intro i hi
    rw [andN_bit, Nat.testBit_two_pow_sub_one]
    simp; omega
  simp only [↓aops_nil, ↓aops_go, ↓aops_go0, ↓aops_if, ↓k_cont, ↓k_cont0, g_tt, g_ff, g_tf, g_ft, g_u, ↓apre_nil, ↓apre_if, ↓apre_go, pgo_det, Tag.isCall, popt_some, gp_tt, gp_ff, gp_tf, gp_ft, gp_u, ↓k_draw, opt_some, List.map_cons, List.map_nil, ev, upd_at, ↓x_skip, ↓x_label, ↓x_ret, ↓x_exit, ↓x_seq, ↓x_block, ↓x_ops, ↓x_cond, x_sel_t, x_sel_f, ↓x_draw, ↓q_kseq_n, ↓q_kseq_r, ↓q_kseq_e, ↓q_block_n, ↓q_block_r, ↓q_block_e, ↓q_loop_n, ↓q_loop_r, ↓q_loop_e, ↓l_done, d_mov, d_pick, d_not, d_nilchk, d_nilchk', d_conv, d_add, d_sub, d_mul, d_quo, d_rem, d_shl, d_shr, d_and, d_or, d_andnot, d_eql, d_neq, d_lss, d_leq, d_gtr, d_geq, d_eqb, d_neqb, d_mkfunc, d_load, d_fieldaddr, d_fieldaddr', d_field_t, d_field_f, d_idxaddr, d_idxaddr_g, elemO_some, d_idxaddr_m, d_arraddr, d_arraddr', d_idx_f, d_sub_s, d_sub_g, d_arrsub, d_arrall, d_extract, d_len, d_len_g, d_len_e, d_len_m, d_min, d_build, d_bslice0, d_bs1, d_bs2, d_bsa, d_eqagg, v_mov, v_pick, v_not, v_nilchk, v_conv, v_bin, v_binb, v_eqagg, v_mkfunc, v_load, v_fieldaddr, v_field, v_idxaddr, v_arraddr, v_idx, v_sub, v_arrsub, v_arrall, v_extract, v_len, v_min, v_build, v_bslice, v_lookup, v_call, v_callv, Nat.reduceEqDiff, Nat.reduceBEq, reduceIte, ite_true, ite_false, Bool.false_eq_true, Bool.true_eq_false, if_true, if_false, decide_eq_true_eq, decide_eq_false_iff_not, decide_true, decide_false, Nat.zero_add, Nat.add_zero, Nat.reduceAdd, reduceCtorEq, eq_self, not_true_eq_false, not_false_eq_true, Bool.not_true, Bool.not_false, Nat.reduceMul, List.length_cons, List.length_nil, at_elem, take_f, take_tt, Int.toNat_natCast, Option.some.injEq, Option.bind_some, Int.natCast_nonneg, true_and, and_true, and_self, ↓q_for_n, ↓q_for_r, ↓q_for_e, eI_len, List.length_map, at_obj, obj_box, updH_same, Nat.reduceLeDiff, Nat.zero_le, Nat.le_refl, List.drop_zero, List.drop_succ_cons, List.take_succ_cons, List.take_zero, c_agg, c_int, c_bool, c_slice, c_emp, c_grow, ↓l_one0, ↓l_one1, ↓k_l0, ↓k_l1, stab_nil, stab_cons, stab_if, st_tt, st_ff, st_tf, st_ft, st_u, handn]
  refine pgo_call (bits_c _ hlt) ?_
  rw [wrong_bits t l hw hp hll]
  simp only [go_sem, reduceIte, reduceCtorEq, Nat.reduceEqDiff, Nat.reduceBEq, Nat.reduceAdd, Nat.reduceMul, Nat.reduceLeDiff, take_f', List.getElem?_cons_zero]
  refine fin_ret 4 (by simp [upd_at]) ⟨_, H, Settle.refl e1, ?_, rfl⟩
  simp [upd_at, isTruthR, c1]
end Go.Lift

set_option linter.unusedSimpArgs false
set_option linter.unusedVariables false
namespace Go.Lift
open Go Go.Proofs
def nthL (t : Table) : Nat → Nat → List Int
  | 0, _ => []
  | i + 1, n => nthL t i (n / womN t i) ++ [(ofAt t i).getD (n % womN t i) 0]
theorem nthL_len (t : Table) : ∀ (k n : Nat), (nthL t k n).length = k
  | 0, _ => rfl
  | k + 1, n => by rw [nthL, List.length_append, nthL_len t k]; rfl
theorem nth_c (t : Table) (hs : TSm t) (hpos : ∀ i, i < t.pieces.length → 1 ≤ womN t i) (n : Nat) (hn : n < 2 ^ 62) : Pure Tryz.prog 129 [eT t, i6 n] (.slice (eI (nthL t t.pieces.length n))) := by
  intro H
  have h2 := hs.pieces
  unfold Sm at h2
  refine fn_of hmix fc129 (by simp) ?_
  rw [ienv2]
  have hsub : IntKind.i64.wrap ((t.pieces.length : Int) - 1) = (t.pieces.length : Int) - 1 := w64 (by omega) (by omega)
  simp only [go_sem, reduceIte, reduceCtorEq, Nat.reduceEqDiff, Nat.reduceBEq, Nat.reduceAdd, Nat.reduceMul, Nat.reduceLeDiff, ac129, eT]
  refine v_box _ rfl fun b1 hb1 => ?_
  simp only [go_sem, reduceIte, reduceCtorEq, Nat.reduceEqDiff, Nat.reduceBEq, Nat.reduceAdd, Nat.reduceMul, Nat.reduceLeDiff, take_f', List.getElem?_cons_zero]
  refine ⟨by omega, by omega, by omega, fun b3 hb3 => ?_⟩
  have n13 : b1 ≠ b3 := fun h => by subst h; simp at hb3
  have e1 := (Ext.refl H).new hb1 (.box [.slice (t.women.map eW), .slice (t.pieces.map eP), i6 t.wrong])
  have z3 : H b3 = none := e1.isNone hb3
  have hfl : (List.replicate t.pieces.length [AV.int .i64 0]).flatten = (List.replicate t.pieces.length (0 : Int)).map i6 := by
    generalize t.pieces.length = m
    induction m with
    | zero => rfl
    | succ n ih => rw [List.replicate_succ, List.flatten_cons, ih]; rfl
  simp only [go_sem, reduceIte, reduceCtorEq, Nat.reduceEqDiff, Nat.reduceBEq, Nat.reduceAdd, Nat.reduceMul, Nat.reduceLeDiff, updH_ne _ _ n13, take_f', List.getElem?_cons_zero, hsub]
  rw [hfl]
  refine x_for t.pieces.length (fun s env H1 => Ext H H1 ∧ H1 b1 = some (.box [.slice (t.women.map eW), .slice (t.pieces.map eP), i6 t.wrong]) ∧ (∃ (k nk : Nat) (suf : List Int), s + k = t.pieces.length ∧ nk < 2 ^ 62 ∧ suf.length = s ∧ nthL t t.pieces.length n = nthL t k nk ++ suf ∧ H1 b3 = some (.box ((List.replicate k (0 : Int) ++ suf).map i6)) ∧ env 1 = i6 nk ∧ env 6 = i6 ((k : Int) - 1)) ∧
      env 2 = .ptr b1 0 ∧ env 5 = .mslice b3 0 t.pieces.length t.pieces.length ∧ env 38 = .any)
    ⟨e1.new hb3 _, by rw [updH_ne _ _ n13]; exact updH_same _ _ _, ⟨t.pieces.length, n, [], by omega, hn, rfl, by simp, by rw [List.append_nil]; exact updH_same _ _ _, by simp [upd_at], by simp [upd_at]⟩, by simp [upd_at], by simp [upd_at], by simp [upd_at]⟩ ?_
  rintro s env H1 hsj ⟨hE, hB, ⟨k, nk, suf, hk, hnk, hsuf, heq, hB3, g1, g6⟩, g2, g5, hN⟩
  by_cases hlt : (0 : Int) ≤ (k : Int) - 1
  · obtain ⟨i, rfl⟩ : ∃ i, k = i + 1 := ⟨k - 1, by omega⟩
    have hi : i < t.pieces.length := by omega
    have hcast : ((i + 1 : Nat) : Int) - 1 = (i : Int) := by omega
    rw [hcast] at g6 hlt
    have hp := hpos i hi
    have hlen : (ofAt t i).length = womN t i := rfl
    have hwn : womN t i < 2147483648 := by
      have := womenUpto_len t.women (t.pieces.getD i default).marks t.women.length; have := hs.women; unfold Sm at this; rw [← hlen]; simp only [ofAt, womenOf]; omega
    have hne : ¬ ((womN t i : Nat) : Int) = 0 := by omega
    have hrem : (nk : Int).tmod ((womN t i : Nat) : Int) = ((nk % womN t i : Nat) : Int) := (Int.ofNat_tmod nk (womN t i)).symm
    have hquo : (nk : Int).tdiv ((womN t i : Nat) : Int) = ((nk / womN t i : Nat) : Int) := (Int.ofNat_tdiv nk (womN t i)).symm
    have hml : nk % womN t i < (ofAt t i).length := Nat.mod_lt _ hp
    have hdl : nk / womN t i < 2 ^ 62 := Nat.lt_of_le_of_lt (Nat.div_le_self _ _) hnk
    have hwd : IntKind.i64.wrap ((nk / womN t i : Nat) : Int) = ((nk / womN t i : Nat) : Int) := by
      generalize nk / womN t i = q at hdl
      exact w64 (by omega) (by omega)
    have hdec : IntKind.i64.wrap ((i : Int) - 1) = (i : Int) - 1 := w64 (by omega) (by omega)
    simp only [go_sem, reduceIte, reduceCtorEq, Nat.reduceEqDiff, Nat.reduceBEq, Nat.reduceAdd, Nat.reduceMul, Nat.reduceLeDiff, g1, g2, g5, g6, hN, hB, hlt]
    refine (womenR_c t hs i hi).go ?_
    simp only [go_sem, reduceIte, reduceCtorEq, Nat.reduceEqDiff, Nat.reduceBEq, Nat.reduceAdd, Nat.reduceMul, Nat.reduceLeDiff, g1, g2, g5, g6, hN, hlen, hne, hrem, hquo, hwd, eI_get hml, take_f', List.getElem?_cons_zero, show (i : Int) < (t.pieces.length : Int) by omega, Nat.mul_one]
    rw [v_store]
    refine ⟨rfl, rfl, by simp [AV.cells, AV.isCell], _, hB3, by simp, ?_⟩
    rw [show (AV.int .i64 (ofAt t i)[nk % womN t i]).cells = [i6 (ofAt t i)[nk % womN t i]] from rfl, iset _ _ _ (by simp; omega)]
    have hset : (List.replicate (i + 1) (0 : Int) ++ suf).set i (ofAt t i)[nk % womN t i] = List.replicate i 0 ++ ((ofAt t i)[nk % womN t i] :: suf) := by
      rw [List.replicate_succ', List.append_assoc, List.set_append_right _ _ (by simp)]
      simp
    rw [hset]
    simp only [go_sem, reduceIte, reduceCtorEq, Nat.reduceEqDiff, Nat.reduceBEq, Nat.reduceAdd, Nat.reduceMul, Nat.reduceLeDiff, g1, g2, g5, g6, hN, hdec, show s < t.pieces.length by omega, updH_ne _ _ n13, hB]
    refine ⟨hE.upd z3 _, i, nk / womN t i, (ofAt t i)[nk % womN t i] :: suf, by omega, hdl, by simp [hsuf], ?_, rfl, rfl, rfl⟩
    rw [heq, nthL, List.append_assoc]
    congr 1
    simp [hml]
  · simp only [go_sem, reduceIte, reduceCtorEq, Nat.reduceEqDiff, Nat.reduceBEq, Nat.reduceAdd, Nat.reduceMul, Nat.reduceLeDiff, g1, g2, g5, g6, hN, hlt]
    have hk0 : k = 0 := by omega
    subst hk0
    have hsl : suf.length = t.pieces.length := by omega
    rw [heq]
    simp only [nthL, List.nil_append, List.replicate_zero] at hB3 ⊢
    refine fin_ret 4 (by simp [upd_at, hN]) ⟨_, H, ?_, rfl, rfl⟩
    simp only [upd_at, if_true]
    have := settle_mslice (n := t.pieces.length) (cap := t.pieces.length) hB3 hE z3 (by simp [hsl]) (Nat.le_refl _)
    simpa [eI, List.map_map, Function.comp_def] using this
theorem d_bs_s {H : AHeap} (es : List (List AV)) : detV (.bslice 1) [.slice es] H = some (.slice [[.slice es]]) := by simp [detV, AV.ok, AV.cells]
theorem eII_good (l : List (List Int)) : goodEls 1 (l.map fun x => [AV.slice (eI x)]) := by
  intro e he; rw [List.mem_map] at he; obtain ⟨x, _, rfl⟩ := he; rfl
theorem eII_cell (l : List (List Int)) : cellEls (l.map fun x => [AV.slice (eI x)]) := by
  intro e he x hx; rw [List.mem_map] at he; obtain ⟨y, _, rfl⟩ := he
  simp only [List.mem_singleton] at hx; subst hx; rfl
def ownersUpto (t : Table) (j : Nat) : List (List Int) := ((List.range j).map (nthL t t.pieces.length)).filter (isTruthR t)
def truthsR (t : Table) : List (List Int) := ownersUpto t (manyR t t.pieces.length)
theorem ownersUpto_succ (t : Table) (j : Nat) : ownersUpto t (j + 1) = ownersUpto t j ++ (if isTruthR t (nthL t t.pieces.length j) = true then [nthL t t.pieces.length j] else []) := by
  simp only [ownersUpto, List.range_succ, List.map_append, List.filter_append, List.map_cons, List.map_nil]
  congr 1
  cases h : isTruthR t (nthL t t.pieces.length j) <;> simp only [List.filter_cons, h, List.filter_nil] <;> simp
theorem ownersUpto_len (t : Table) (j : Nat) : (ownersUpto t j).length ≤ j := by
  simp only [ownersUpto]
  exact Nat.le_trans (List.length_filter_le _ _) (by simp)
theorem truthsR_c (t : Table) (hs : TSm t) (hc : checkTable t = 0) : Pure Tryz.prog 88 [eT t] (eII (truthsR t)) := by
  intro H
  obtain ⟨hw5, hp7⟩ := checkTable_len hc
  have hpos := womN_pos hc
  have hmr : manyR t t.pieces.length ≤ 3000 := Nat.min_le_left _ _
  refine fn_of hmix fc88 (by simp) ?_
  rw [ienv1]
  simp only [go_sem, reduceIte, reduceCtorEq, Nat.reduceEqDiff, Nat.reduceBEq, Nat.reduceAdd, Nat.reduceMul, Nat.reduceLeDiff, ac88, eT]
  refine v_box _ rfl fun b1 hb1 => ?_
  simp only [go_sem, reduceIte, reduceCtorEq, Nat.reduceEqDiff, Nat.reduceBEq, Nat.reduceAdd, Nat.reduceMul, Nat.reduceLeDiff]
  refine x_for (manyR t t.pieces.length) (fun j env H1 => Ext H H1 ∧ H1 b1 = some (.box [.slice (t.women.map eW), .slice (t.pieces.map eP), i6 t.wrong]) ∧ Grown 1 H H1 (env 3) ((ownersUpto t j).map fun x => [AV.slice (eI x)]) ∧ env 1 = .ptr b1 0 ∧ env 4 = i6 j ∧ env 23 = .any)
    ⟨(Ext.refl H).new hb1 _, updH_same _ _ _, .inl ⟨by simp [upd_at], rfl⟩, by simp [upd_at], by simp [upd_at], by simp [upd_at]⟩ ?_
  rintro j env H1 hj ⟨hE, hB, hG, g1, g4, hN⟩
  have hul := ownersUpto_len t j
  simp only [go_sem, reduceIte, reduceCtorEq, Nat.reduceEqDiff, Nat.reduceBEq, Nat.reduceAdd, Nat.reduceMul, Nat.reduceLeDiff, g1, g4, hN, hB]
  refine (manyR_c t hs).go ?_
  by_cases hlt : (j : Int) < ((manyR t t.pieces.length : Nat) : Int)
  · have hlt' : j < manyR t t.pieces.length := by omega
    simp only [go_sem, reduceIte, reduceCtorEq, Nat.reduceEqDiff, Nat.reduceBEq, Nat.reduceAdd, Nat.reduceMul, Nat.reduceLeDiff, g1, g4, hN, hB, hlt]
    refine (nth_c t hs hpos j (by omega)).go ?_
    simp only [go_sem, reduceIte, reduceCtorEq, Nat.reduceEqDiff, Nat.reduceBEq, Nat.reduceAdd, Nat.reduceMul, Nat.reduceLeDiff, g1, g4, hN, hB]
    refine (isTruthR_c t hs hw5 hp7 _ (by unfold Sm; rw [nthL_len]; omega)).go ?_
    cases hT : isTruthR t (nthL t t.pieces.length j)
    · simp only [go_sem, reduceIte, reduceCtorEq, Nat.reduceEqDiff, Nat.reduceBEq, Nat.reduceAdd, Nat.reduceMul, Nat.reduceLeDiff, g1, g4, hN, hB, wsucc (show j < 4611686018427387904 by omega), hlt']
      refine ⟨hE, ?_⟩
      rw [ownersUpto_succ, hT]; simpa using hG
    · simp only [go_sem, reduceIte, reduceCtorEq, Nat.reduceEqDiff, Nat.reduceBEq, Nat.reduceAdd, Nat.reduceMul, Nat.reduceLeDiff, g1, g4, hN, d_bs_s]
      refine v_append hG hE rfl (eII_good _) (eII_good [nthL t t.pieces.length j]) (eII_cell [nthL t t.pieces.length j]) (by simp; omega) (by simp; omega) ?_
      intro v' H2 hg' he' hk'
      simp only [go_sem, reduceIte, reduceCtorEq, Nat.reduceEqDiff, Nat.reduceBEq, Nat.reduceAdd, Nat.reduceMul, Nat.reduceLeDiff, g1, g4, hN, wsucc (show j < 4611686018427387904 by omega), hlt']
      refine ⟨he', hk'.box hG hB, ?_⟩
      rw [ownersUpto_succ, hT, if_pos rfl, List.map_append]; exact hg'
  · simp only [go_sem, reduceIte, reduceCtorEq, Nat.reduceEqDiff, Nat.reduceBEq, Nat.reduceAdd, Nat.reduceMul, Nat.reduceLeDiff, g1, g4, hN, hlt]
    have : j = manyR t t.pieces.length := by omega
    subst this
    refine fin_ret 2 (by simp [upd_at, hN]) ⟨_, H, ?_, rfl, rfl⟩
    simp only [upd_at, if_true]
    exact hG.weaken hE
end Go.Lift

