/- Part 24 of the proof: the tools and contracts. Conditions: none. -/
import Derived.Test.YthnfcdkiaihfcaaGreatP23
import Derived.Deep.Slices
import Derived.ChangeShapes
import Derived.ChangeArms
import Derived.Test.YthnfcdkiaihfcaaGreatRows
import Derived.ProofKit
import Derived.ReadAgain
import Derived.Carry
set_option linter.unusedSimpArgs false
set_option linter.unusedVariables false
namespace Go.Lift
open Go Go.Proofs
/-- All lists of so many things more. -/
def orders (n : Nat) : Nat → List Int → List (List Int)
  | 0, out => [out]
  | k + 1, out => (List.range n).flatMap fun j => orders n k (out ++ [((j : Nat) : Int)])
theorem orderGo_c (h : House) (hv : HV h) (hour : Int) (bf bw bk bh ba : Nat) (nw : bw ≠ bf) (nk : bk ≠ bf) (nh : bh ≠ bf) (na : ba ≠ bf) :
    ∀ (many : Nat) (out : List Int) (fv : AV) (old : List Int) (H : AHeap), out.length + many ≤ 10 → H bf = some (.box [fv]) → FV fv old → H bw = some (.box [.elem (kCells h)]) → H bk = some (.box [i6 hour]) →
      H bh = some (.box [.slice (h.table.women.map eW), .slice (h.table.pieces.map eP), i6 h.table.wrong, .slice (eI h.sick), i6 h.others, i6 h.last, .slice (h.touches.map eTo), .slice (h.boiled.map eB), .slice (h.signs.map eS)]) → H ba = some (.box [.func (.func 107) [] [.ptr bf 0, .ptr bw 0, .ptr bk 0, .ptr bh 0, .ptr ba 0]]) →
      ACalls Tryz.prog 107 [.slice (eI out), i6 many, .ptr bf 0, .ptr bw 0, .ptr bk 0, .ptr bh 0, .ptr ba 0] H fun r H' => r = .bool ((orders (nT h) many out).any fun x => safeP h (rowOf x hour)) ∧
        (∃ fv', H' bf = some (.box [fv']) ∧ FV fv' (tryAll (fun x => safeP h (rowOf x hour)) old (orders (nT h) many out))) ∧ ∀ x o, x ≠ bf → H x = some o → H' x = some o := by
  have hnT := nT_le hv.ok
  intro many
  induction many with
  | zero =>
    intro out fv old H hout hf hfv hw hk hh ha
    refine fn_of hmix fc107 (by simp) ?_
    rw [ienv7]
    simp only [go_sem, reduceIte, reduceCtorEq, Nat.reduceEqDiff, Nat.reduceBEq, Nat.reduceAdd, Nat.reduceMul, Nat.reduceLeDiff, ac107, show ((0 : Nat) : Int) = 0 from rfl]
    rw [v_store]
    refine ⟨rfl, rfl, by simp [AV.cells, AV.isCell], _, hf, by simp, ?_⟩
    rw [show (AV.slice (eI out)).cells = [.slice (eI out)] from rfl, placeOne]
    simp only [go_sem, reduceIte, reduceCtorEq, Nat.reduceEqDiff, Nat.reduceBEq, Nat.reduceAdd, Nat.reduceMul, Nat.reduceLeDiff, updH_ne _ _ nw, updH_ne _ _ nk, hw, hk, take_f', List.getElem?_cons_zero]
    refine pgo_call (row_c out hour (by unfold Sm; omega)) ?_
    simp only [go_sem, reduceIte, reduceCtorEq, Nat.reduceEqDiff, Nat.reduceBEq, Nat.reduceAdd, Nat.reduceMul, Nat.reduceLeDiff]
    refine pgo_call (safe_c h hv (rowOf out hour) (by unfold Sm; simp [rowOf]; omega)) ?_
    simp only [go_sem, reduceIte, reduceCtorEq, Nat.reduceEqDiff, Nat.reduceBEq, Nat.reduceAdd, Nat.reduceMul, Nat.reduceLeDiff]
    refine fin_ret' 9 (by simp [upd_at]) ?_
    simp only [upd_at, if_true]
    refine ⟨by simp [orders], ⟨_, updH_same _ _ _, ?_⟩, fun x o hx ho => by rw [updH_ne _ _ hx]; exact ho⟩
    have : tryAll (fun x => safeP h (rowOf x hour)) old (orders (nT h) 0 out) = out := by simp [orders, tryAll]
    rw [this]; exact .inr rfl
  | succ k ih =>
    intro out fv old H hout hf hfv hw hk hh ha
    refine fn_of hmix fc107 (by simp) ?_
    rw [ienv7]
    have hmne : ¬ (((k + 1 : Nat) : Int) = 0) := by omega
    obtain ⟨f, hf'⟩ : ∃ f : Nat → List (List Int), f = fun j => orders (nT h) k (out ++ [((j : Nat) : Int)]) := ⟨_, rfl⟩
    have hcomb : orders (nT h) (k + 1) out = (List.range (nT h)).flatMap f := by rw [hf']; rfl
    rw [hcomb]
    obtain ⟨ok, hok⟩ : ∃ ok, ok = fun x => safeP h (rowOf x hour) := ⟨_, rfl⟩
    rw [← hok]
    have hdec : IntKind.i64.wrap (((k + 1 : Nat) : Int) - 1) = (k : Int) := by rw [w64 (by omega) (by omega)]; omega
    simp only [go_sem, reduceIte, reduceCtorEq, Nat.reduceEqDiff, Nat.reduceBEq, Nat.reduceAdd, Nat.reduceMul, Nat.reduceLeDiff, ac107, hmne, hh]
    refine (things_c h).go ?_
    rw [thingsW_ok hv.ok]
    simp only [go_sem, reduceIte, reduceCtorEq, Nat.reduceEqDiff, Nat.reduceBEq, Nat.reduceAdd, Nat.reduceMul, Nat.reduceLeDiff]
    refine x_for (nT h) (fun j env H1 => (∀ x o, x ≠ bf → H x = some o → H1 x = some o) ∧ (∃ fv', H1 bf = some (.box [fv']) ∧ FV fv' (tryAll ok old ((List.range j).flatMap f))) ∧ (((List.range j).flatMap f).any ok = false) ∧
        env 0 = .slice (eI out) ∧ env 1 = i6 ((k + 1 : Nat) : Int) ∧ env 6 = .ptr ba 0 ∧ env 20 = i6 (nT h) ∧ env 21 = i6 j ∧ env 34 = .any)
      ⟨fun _ _ _ h => h, ⟨fv, hf, hfv⟩, rfl, by simp [upd_at], by simp [upd_at], by simp [upd_at], by simp [upd_at], by simp [upd_at], by simp [upd_at]⟩ ?_
    rintro j env H1 hj ⟨hK, ⟨fv1, hf1, hfv1⟩, hany, g0, g1, g6, g20, g21, hN⟩
    have hw1 := hK _ _ nw hw
    have hk1 := hK _ _ nk hk
    have hh1 := hK _ _ nh hh
    have ha1 := hK _ _ na ha
    by_cases hlt : (j : Int) < (nT h : Int)
    · have hltc : j < nT h := by omega
      simp only [go_sem, reduceIte, reduceCtorEq, Nat.reduceEqDiff, Nat.reduceBEq, Nat.reduceAdd, Nat.reduceMul, Nat.reduceLeDiff, g0, g1, g6, g20, g21, hN, hlt, hdec, ha1, take_f', List.getElem?_cons_zero]
      refine ACalls.mono (clone_c out (by omega) H1) ?_
      rintro r H2 ⟨hE2, hG2⟩
      simp only [go_sem, reduceIte, reduceCtorEq, Nat.reduceEqDiff, Nat.reduceBEq, Nat.reduceAdd, Nat.reduceMul, Nat.reduceLeDiff, g6, hE2 _ _ ha1, take_f', List.getElem?_cons_zero]
      refine v_append hG2 hE2 rfl (eI_good _) (one_good _) (one_cell _) (by simp; omega) (by simp; omega) ?_
      intro v' H3 hg' he' hk'
      simp only [go_sem, reduceIte, reduceCtorEq, Nat.reduceEqDiff, Nat.reduceBEq, Nat.reduceAdd, Nat.reduceMul, Nat.reduceLeDiff, g6, he' _ _ ha1, take_f', List.getElem?_cons_zero, List.nil_append, List.cons_append]
      refine ACalls.arg0 (y := .slice (eI (out ++ [((j : Nat) : Int)]))) (fun w v hr => by rw [eI_app]; exact hg'.weakRep hr) ?_
      have hcall := ih (out ++ [((j : Nat) : Int)]) fv1 _ H3 (by simp; omega) (he' _ _ hf1) hfv1 (he' _ _ hw1) (he' _ _ hk1) (he' _ _ hh1) (he' _ _ ha1)
      rw [← hok] at hcall
      refine hcall.mono ?_
      rintro r H4 ⟨rfl, ⟨fv', hf4, hfv4⟩, hK4⟩
      have hKall : ∀ x o, x ≠ bf → H x = some o → H4 x = some o := fun x o hx ho => hK4 x o hx (he' _ _ (hK x o hx ho))
      have hfj : f j = orders (nT h) k (out ++ [((j : Nat) : Int)]) := by rw [hf']
      rw [← hfj] at hfv4 ⊢
      have hsucc : (List.range (j + 1)).flatMap f = (List.range j).flatMap f ++ f j := by rw [List.range_succ, List.flatMap_append]; simp
      have htry : tryAll ok old ((List.range (j + 1)).flatMap f) = tryAll ok (tryAll ok old ((List.range j).flatMap f)) (f j) := by rw [hsucc, tryAll_append, hany]; rfl
      cases hr : (f j).any ok
      · simp only [go_sem, reduceIte, reduceCtorEq, Nat.reduceEqDiff, Nat.reduceBEq, Nat.reduceAdd, Nat.reduceMul, Nat.reduceLeDiff, g0, g1, g6, g20, g21, hN, wsucc (show j < 4611686018427387904 by omega), hltc]
        exact ⟨hKall, ⟨fv', hf4, by (try rw [← List.range_succ]); rw [htry]; exact hfv4⟩, by (try rw [← List.range_succ]); rw [hsucc, List.any_append, hany, hr]; rfl⟩
      · simp only [go_sem, reduceIte, reduceCtorEq, Nat.reduceEqDiff, Nat.reduceBEq, Nat.reduceAdd, Nat.reduceMul, Nat.reduceLeDiff, hN]
        refine fin_ret' 9 (by simp [upd_at, hN]) ?_
        simp only [upd_at, if_true]
        obtain ⟨r, hfull⟩ := range_split f hltc
        have hany2 : ((List.range (j + 1)).flatMap f).any ok = true := by rw [hsucc, List.any_append, hr, Bool.or_true]
        refine ⟨?_, ⟨fv', hf4, ?_⟩, hKall⟩
        · rw [hfull, List.any_append, hany2]; rfl
        · rw [hfull, tryAll_append, hany2, if_pos rfl, htry]; exact hfv4
    · simp only [go_sem, reduceIte, reduceCtorEq, Nat.reduceEqDiff, Nat.reduceBEq, Nat.reduceAdd, Nat.reduceMul, Nat.reduceLeDiff, g0, g1, g6, g20, g21, hN, hlt]
      have : j = nT h := by omega
      subst this
      refine fin_ret' 9 (by simp [upd_at, hN]) ?_
      simp only [upd_at, if_true]
      exact ⟨by rw [hany], ⟨fv1, hf1, hfv1⟩, hK⟩
def orderAll (h : House) (m : Nat) : List (List Int) := (List.range m).flatMap fun k => orders (nT h) k []
def orderN (h : House) (hour : Int) : Nat := (longestOf h hour).toNat
def orderL (h : House) (hour : Int) : List (List Int) := orderAll h (orderN h hour + 1)
def orderOf (h : House) (hour : Int) : List Int := tryAll (fun x => safeP h (rowOf x hour)) [] (orderL h hour)
def orderE (h : House) (hour : Int) : Int := if askErrH h (hourOK h hour) = 0 then (if ((orderL h hour).any fun x => safeP h (rowOf x hour)) = true then 0 else 10) else askErrH h (hourOK h hour)
theorem ask_fine {h : House} {f : Bool} (he : askErrH h f = 0) : f = true := by
  cases f
  · rw [askErrH] at he
    split at he
    · cases he
    · rename_i h1; exact absurd he h1
  · rfl
theorem longest_ok {h : House} (hk : HOK h) {hour : Int} (hh : hourOK h hour = true) : ∃ n : Nat, longestOf h hour = (n : Int) ∧ n ≤ 3 ∧ (n : Int) ≤ h.last - hour + 1 := by
  obtain ⟨m, h1, h2⟩ := hk.last
  simp only [hourOK, decide_eq_true_eq] at hh
  have e1 := w64 (x := h.last - hour) (by omega) (by omega)
  have e2 := w64 (x := h.last - hour + 1) (by omega) (by omega)
  refine ⟨(longestOf h hour).toNat, ?_, ?_, ?_⟩ <;> simp only [longestOf, e1, e2] <;> split <;> omega
theorem order_c (h : House) (hs : TSm h.table) (hsk : Sm h.sick.length) (hour : Int) : Pure Tryz.prog 58 [eH h, i6 hour] (listR (orderE h hour) (orderOf h hour)) := by
  intro H
  refine fn_of hmix fc58 (by simp) ?_
  rw [ienv2]
  simp only [go_sem, reduceIte, reduceCtorEq, Nat.reduceEqDiff, Nat.reduceBEq, Nat.reduceAdd, Nat.reduceMul, Nat.reduceLeDiff, ac58, eH]
  refine v_box _ rfl fun b2 hb2 => ?_
  simp only [go_sem, reduceIte, reduceCtorEq, Nat.reduceEqDiff, Nat.reduceBEq, Nat.reduceAdd, Nat.reduceMul, Nat.reduceLeDiff]
  refine v_box _ rfl fun b3 hb3 => ?_
  have n23 : b2 ≠ b3 := fun h => by subst h; simp at hb3
  simp only [go_sem, reduceIte, reduceCtorEq, Nat.reduceEqDiff, Nat.reduceBEq, Nat.reduceAdd, Nat.reduceMul, Nat.reduceLeDiff, updH_ne _ _ n23, take_f', List.getElem?_cons_zero]
  refine pgo_call (hour_c h hour) ?_
  simp only [go_sem, reduceIte, reduceCtorEq, Nat.reduceEqDiff, Nat.reduceBEq, Nat.reduceAdd, Nat.reduceMul, Nat.reduceLeDiff]
  refine pgo_call (askedH_c h hs hsk (hourOK h hour)) ?_
  have e1 := (Ext.refl H).new hb2 (.box [.slice (h.table.women.map eW), .slice (h.table.pieces.map eP), i6 h.table.wrong, .slice (eI h.sick), i6 h.others, i6 h.last, .slice (h.touches.map eTo), .slice (h.boiled.map eB), .slice (h.signs.map eS)])
  have z3 : H b3 = none := e1.isNone hb3
  have e2 := e1.new hb3 (.box [i6 hour])
  by_cases c1 : askErrH h (hourOK h hour) = 0
  rotate_left
  · have hres : orderE h hour = askErrH h (hourOK h hour) := by rw [orderE, if_neg c1]
    simp only [go_sem, reduceIte, reduceCtorEq, Nat.reduceEqDiff, Nat.reduceBEq, Nat.reduceAdd, Nat.reduceMul, Nat.reduceLeDiff, askedR, c1, List.getElem?_cons_zero, List.getElem?_cons_succ]
    refine v_alloc fun b6 hb6 => ?_
    have n26 : b2 ≠ b6 := fun h => by subst h; simp [updH, n23] at hb6
    have n36 : b3 ≠ b6 := fun h => by subst h; simp at hb6
    simp only [go_sem, reduceIte, reduceCtorEq, Nat.reduceEqDiff, Nat.reduceBEq, Nat.reduceAdd, Nat.reduceMul, Nat.reduceLeDiff, updH_ne _ _ n26, updH_ne _ _ n36, updH_ne _ _ n23, take_f', List.getElem?_cons_zero]
    rw [v_store]
    refine ⟨rfl, rfl, by simp [AV.cells, AV.isCell], _, updH_same _ _ _, by simp, ?_⟩
    simp only [go_sem, reduceIte, reduceCtorEq, Nat.reduceEqDiff, Nat.reduceBEq, Nat.reduceAdd, Nat.reduceMul, Nat.reduceLeDiff, List.getElem?_cons_zero, List.getElem?_cons_succ, c1]
    refine fin_ret2 4 5 (by simp [upd_at]) ⟨_, H, Settle.refl ((e2.new hb6 _).upd (e2.isNone hb6) _), ?_, rfl⟩
    simp [upd_at, listR, hres, c1]
  have hv := hv_ask hs hsk c1
  have hnT := nT_le hv.ok
  simp only [go_sem, reduceIte, reduceCtorEq, Nat.reduceEqDiff, Nat.reduceBEq, Nat.reduceAdd, Nat.reduceMul, Nat.reduceLeDiff, askedR, c1, List.getElem?_cons_zero, List.getElem?_cons_succ]
  refine v_alloc fun b6 hb6 => ?_
  have n26 : b2 ≠ b6 := fun h => by subst h; simp [updH, n23] at hb6
  have n36 : b3 ≠ b6 := fun h => by subst h; simp at hb6
  have z6 : H b6 = none := e2.isNone hb6
  have e3 := (e2.new hb6 (.box [.nilp])).upd z6 (.box [.elem (kCells h)])
  simp only [go_sem, reduceIte, reduceCtorEq, Nat.reduceEqDiff, Nat.reduceBEq, Nat.reduceAdd, Nat.reduceMul, Nat.reduceLeDiff, updH_ne _ _ n26, updH_ne _ _ n36, updH_ne _ _ n23, take_f', List.getElem?_cons_zero]
  rw [v_store]
  refine ⟨rfl, rfl, by simp [AV.cells, AV.isCell, kCells], _, updH_same _ _ _, by simp, ?_⟩
  rw [show (AV.elem (kCells h)).cells = [.elem (kCells h)] from rfl, placeOne]
  simp only [go_sem, reduceIte, reduceCtorEq, Nat.reduceEqDiff, Nat.reduceBEq, Nat.reduceAdd, Nat.reduceMul, Nat.reduceLeDiff, List.getElem?_cons_zero, List.getElem?_cons_succ]
  refine v_alloc fun b8 hb8 => ?_
  have n28 : b2 ≠ b8 := fun h => by subst h; simp [updH, n23, n26] at hb8
  have n38 : b3 ≠ b8 := fun h => by subst h; simp [updH, n36] at hb8
  have n68 : b6 ≠ b8 := fun h => by subst h; simp at hb8
  have z8 : H b8 = none := e3.isNone hb8
  have e4 := e3.new hb8 (.box [.emp])
  simp only [go_sem, reduceIte, reduceCtorEq, Nat.reduceEqDiff, Nat.reduceBEq, Nat.reduceAdd, Nat.reduceMul, Nat.reduceLeDiff]
  refine v_alloc fun b9 hb9 => ?_
  have n29 : b2 ≠ b9 := fun h => by subst h; simp [updH, n23, n26, n28] at hb9
  have n39 : b3 ≠ b9 := fun h => by subst h; simp [updH, n36, n38] at hb9
  have n69 : b6 ≠ b9 := fun h => by subst h; simp [updH, n68] at hb9
  have n89 : b8 ≠ b9 := fun h => by subst h; simp at hb9
  have z9 : H b9 = none := e4.isNone hb9
  simp only [go_sem, reduceIte, reduceCtorEq, Nat.reduceEqDiff, Nat.reduceBEq, Nat.reduceAdd, Nat.reduceMul, Nat.reduceLeDiff]
  rw [v_store]
  refine ⟨rfl, rfl, by simp [AV.cells, AV.isCell], _, updH_same _ _ _, by simp, ?_⟩
  have e5 := (e4.new hb9 (.box [.nilf])).upd z9 (.box [.func (.func 107) [] [.ptr b8 0, .ptr b6 0, .ptr b3 0, .ptr b2 0, .ptr b9 0]])
  simp only [c_func, placeOne]
  generalize hHH : updH (updH (updH (updH (updH (updH (updH H b2 (.box [.slice (h.table.women.map eW), .slice (h.table.pieces.map eP), i6 h.table.wrong, .slice (eI h.sick), i6 h.others, i6 h.last, .slice (h.touches.map eTo), .slice (h.boiled.map eB), .slice (h.signs.map eS)])) b3 (.box [i6 hour])) b6 (.box [.nilp])) b6 (.box [.elem (kCells h)])) b8 (.box [.emp])) b9 (.box [.nilf])) b9 (.box [.func (.func 107) [] [.ptr b8 0, .ptr b6 0, .ptr b3 0, .ptr b2 0, .ptr b9 0]]) = HH at e5 ⊢
  have B2 : HH b2 = some (.box [.slice (h.table.women.map eW), .slice (h.table.pieces.map eP), i6 h.table.wrong, .slice (eI h.sick), i6 h.others, i6 h.last, .slice (h.touches.map eTo), .slice (h.boiled.map eB), .slice (h.signs.map eS)]) := by subst hHH; simp [updH, n23, n26, n28, n29]
  have B3 : HH b3 = some (.box [i6 hour]) := by subst hHH; simp [updH, n36, n38, n39]
  have B6 : HH b6 = some (.box [.elem (kCells h)]) := by subst hHH; simp [updH, n68, n69]
  have B8 : HH b8 = some (.box [.emp]) := by subst hHH; simp [updH, n89]
  have B9 : HH b9 = some (.box [.func (.func 107) [] [.ptr b8 0, .ptr b6 0, .ptr b3 0, .ptr b2 0, .ptr b9 0]]) := by subst hHH; simp [updH]
  clear hHH
  simp only [go_sem, reduceIte, reduceCtorEq, Nat.reduceEqDiff, Nat.reduceBEq, Nat.reduceAdd, Nat.reduceMul, Nat.reduceLeDiff, B2, B3, take_f', List.getElem?_cons_zero]
  refine (longest_c h hour).go ?_
  obtain ⟨lg, hlg, hlg3, _⟩ := longest_ok hv.ok (ask_fine c1)
  have hN' : orderN h hour = lg := by rw [orderN, hlg]; rfl
  rw [hlg]
  obtain ⟨ok, hok⟩ : ∃ ok, ok = fun x => safeP h (rowOf x hour) := ⟨_, rfl⟩
  simp only [go_sem, reduceIte, reduceCtorEq, Nat.reduceEqDiff, Nat.reduceBEq, Nat.reduceAdd, Nat.reduceMul, Nat.reduceLeDiff, wsucc (show lg < 4611686018427387904 by omega)]
  have hExt : ∀ (H1 : AHeap), (∀ x o, x ≠ b8 → HH x = some o → H1 x = some o) → Ext H H1 := fun H1 hK x o hx => hK x o (fun h => by rw [h, z8] at hx; cases hx) (e5 x o hx)
  refine x_for (lg + 1) (fun j env H1 => (∀ x o, x ≠ b8 → HH x = some o → H1 x = some o) ∧ (∃ fv', H1 b8 = some (.box [fv']) ∧ FV fv' (tryAll ok [] (orderAll h j))) ∧ ((orderAll h j).any ok = false) ∧
      env 8 = .ptr b8 0 ∧ env 9 = .ptr b9 0 ∧ env 26 = i6 ((lg + 1 : Nat) : Int) ∧ env 27 = i6 j ∧ env 35 = .any)
    ⟨fun _ _ _ h => h, ⟨_, B8, .inl ⟨rfl, rfl⟩⟩, rfl, by simp [upd_at], by simp [upd_at], by simp [upd_at], by simp [upd_at], by simp [upd_at]⟩ ?_
  rintro j env H1 hj ⟨hK, ⟨fv1, hf1, hfv1⟩, hany, g8, g9, g26, g27, hN⟩
  by_cases hlt : (j : Int) < ((lg + 1 : Nat) : Int)
  · have hlt' : j < lg + 1 := by omega
    have hK9 := hK _ _ n89.symm B9
    simp only [go_sem, reduceIte, reduceCtorEq, Nat.reduceEqDiff, Nat.reduceBEq, Nat.reduceAdd, Nat.reduceMul, Nat.reduceLeDiff, g8, g9, g26, g27, hN, hlt, hK9, take_f', List.getElem?_cons_zero, List.nil_append, List.cons_append]
    refine ACalls.arg0 (y := .slice (eI [])) (fun w v hr => Rep.weaken_emp hr) ?_
    have hcall := orderGo_c h hv hour b8 b6 b3 b2 b9 n68 n38 n28 n89.symm j [] fv1 _ H1 (by simp; omega) hf1 hfv1 (hK _ _ n68 B6) (hK _ _ n38 B3) (hK _ _ n28 B2) hK9
    rw [← hok] at hcall
    refine hcall.mono ?_
    rintro r H4 ⟨rfl, ⟨fv', hf4, hfv4⟩, hK4⟩
    have hKall : ∀ x o, x ≠ b8 → HH x = some o → H4 x = some o := fun x o hx ho => hK4 x o hx (hK x o hx ho)
    have hsucc : orderAll h (j + 1) = orderAll h j ++ orders (nT h) j [] := by simp only [orderAll]; rw [List.range_succ, List.flatMap_append]; simp
    have htry : tryAll ok [] (orderAll h (j + 1)) = tryAll ok (tryAll ok [] (orderAll h j)) (orders (nT h) j []) := by rw [hsucc, tryAll_append, hany]; rfl
    cases hr : (orders (nT h) j []).any ok
    · simp only [go_sem, reduceIte, reduceCtorEq, Nat.reduceEqDiff, Nat.reduceBEq, Nat.reduceAdd, Nat.reduceMul, Nat.reduceLeDiff, g8, g9, g26, g27, hN, wsucc (show j < 4611686018427387904 by omega), hlt']
      exact ⟨hKall, ⟨fv', hf4, by rw [htry]; exact hfv4⟩, by rw [hsucc, List.any_append, hany, hr]; rfl⟩
    · simp only [go_sem, reduceIte, reduceCtorEq, Nat.reduceEqDiff, Nat.reduceBEq, Nat.reduceAdd, Nat.reduceMul, Nat.reduceLeDiff, g8, hN, hf4, take_f', List.getElem?_cons_zero]
      refine fin_ret2 4 5 (by simp [upd_at, hN]) ?_
      simp only [upd_at, if_true, Nat.reduceEqDiff, if_false]
      obtain ⟨r, hr2⟩ := range_split (fun k => orders (nT h) k []) hlt'
      have hany2 : (orderAll h (j + 1)).any ok = true := by rw [hsucc, List.any_append, hr, Bool.or_true]
      have hL : orderL h hour = orderAll h (j + 1) ++ r := by rw [orderL, hN']; exact hr2
      have hE0 : orderE h hour = 0 := by rw [orderE, if_pos c1, if_pos]; rw [← hok, hL, List.any_append, hany2]; rfl
      refine ⟨.tup [.slice (eI (orderOf h hour)), i6 0], H, settle_fv ?_ (hExt H4 hKall), by rw [listR, if_pos hE0], rfl⟩
      rw [orderOf, ← hok, hL, tryAll_append, hany2, if_pos rfl, htry]; exact hfv4
  · have : j = lg + 1 := by omega
    subst this
    have hL : orderL h hour = orderAll h (lg + 1) := by rw [orderL, hN']
    have hE0 : orderE h hour = 10 := by rw [orderE, if_pos c1, if_neg]; rw [← hok, hL, hany]; simp
    simp only [go_sem, reduceIte, reduceCtorEq, Nat.reduceEqDiff, Nat.reduceBEq, Nat.reduceAdd, Nat.reduceMul, Nat.reduceLeDiff, g8, g9, g26, g27, hN, hlt]
    refine fin_ret2 4 5 (by simp [upd_at, hN]) ⟨_, H, Settle.refl (hExt H1 hK), ?_, rfl⟩
    simp [upd_at, listR, hE0]
end Go.Lift

set_option linter.unusedSimpArgs false
set_option linter.unusedVariables false
namespace Go.Lift
open Go Go.Proofs
structure JC (h : House) (out : List Int) (ga gb : Code) (env0 : Env) (r l b2 b3 b4 b5 : Nat) (s : List Course) (F : Nat → Prop) (H : AHeap) : Prop where
  dom : ∀ x, F x → ∃ o, H x = some o
  fl : F l
  fr : F r
  f2 : F b2
  f3 : F b3
  f4 : F b4
  f5 : F b5
  hl : H l = some (.loop .ready none 19 env0 #[11] ga gb r)
  hr : H r = some .deferd
  h2 : H b2 = some (.box [.slice (h.table.women.map eW), .slice (h.table.pieces.map eP), i6 h.table.wrong, .slice (eI h.sick), i6 h.others, i6 h.last, .slice (h.touches.map eTo), .slice (h.boiled.map eB), .slice (h.signs.map eS)])
  h3 : H b3 = some (.box [.slice (eI out)])
  h4 : H b4 = some (.box [.bool false])
  h5 : H b5 = some (.box [.amap (bMap h.boiled)])
  no : s.any (isTrue h out) = false
structure EC (h : House) (out : List Int) (ga gb : Code) (env0 : Env) (r l b4 : Nat) (s : List Course) (F : Nat → Prop) (H : AHeap) : Prop where
  dom : ∀ x, F x → ∃ o, H x = some o
  fl : F l
  fr : F r
  f4 : F b4
  hl : H l = some (.loop .done (some .ret) 19 env0 #[11] ga gb r)
  hr : H r = some .deferd
  h4 : H b4 = some (.box [.bool true])
  yes : s.any (isTrue h out) = true
theorem pos_taker (h : House) (hv : HV h) (out : List Int) (ho : Sm out.length) (env0 : Env) (r l b2 b3 b4 b5 : Nat) (g2 : env0 2 = .ptr b2 0) (g3 : env0 3 = .ptr b3 0) (g4 : env0 4 = .ptr b4 0) (g5 : env0 5 = .ptr b5 0) :
    Taker Tryz.prog (.func (.yield l) [] []) eSc (allC h) (JC h out (rangeF Tryz.f83).1 (rangeF Tryz.f83).2 env0 r l b2 b3 b4 b5) (EC h out (rangeF Tryz.f83).1 (rangeF Tryz.f83).2 env0 r l b4) where
  dom := fun s F H J => J.dom
  edom := fun s F H J => J.dom
  stable := fun s F H H' J hh => ⟨fun x hx => by rw [hh x hx]; exact J.dom x hx, J.fl, J.fr, J.f2, J.f3, J.f4, J.f5, (hh _ J.fl).trans J.hl, (hh _ J.fr).trans J.hr, (hh _ J.f2).trans J.h2, (hh _ J.f3).trans J.h3, (hh _ J.f4).trans J.h4, (hh _ J.f5).trans J.h5, J.no⟩
  estable := fun s F H H' J hh => ⟨fun x hx => by rw [hh x hx]; exact J.dom x hx, J.fl, J.fr, J.f4, (hh _ J.fl).trans J.hl, (hh _ J.fr).trans J.hr, (hh _ J.f4).trans J.h4, J.yes⟩
  step := by
    intro s F H c hpre J
    have hm6 := hv.ok.touches
    have hp7 := hv.ok.pcs
    have hcok : courseOK h c = true := (mem_allC hv.tab c).1 (hpre.subset (by simp))
    obtain ⟨hol, hhl⟩ := courseOK_len hcok
    have ho7 := pad7_len c.owners (by omega)
    have hh6 := pad6_len c.hours (by omega)
    have hl13 : ((pad7 c.owners ++ pad6 c.hours).map i6).length = 13 := by simp [ho7, hh6]
    have hl13' : (pad7 c.owners ++ pad6 c.hours).length = 13 := by simp [ho7, hh6]
    have hl2 : l ≠ b2 := fun h => by have := J.hl; rw [h, J.h2] at this; cases this
    have hl3 : l ≠ b3 := fun h => by have := J.hl; rw [h, J.h3] at this; cases this
    have hl4 : l ≠ b4 := fun h => by have := J.hl; rw [h, J.h4] at this; cases this
    have hl5 : l ≠ b5 := fun h => by have := J.hl; rw [h, J.h5] at this; cases this
    have hlr : l ≠ r := fun h => by have := J.hl; rw [h, J.hr] at this; cases this
    have hr4 : r ≠ b4 := fun h => by have := J.hr; rw [h, J.h4] at this; cases this
    have hE0 := ext_outer F H
    refine yield_of hmix cert83 J.hl rfl (by decide) tga83 tgb83 ?_
    simp only [setPs]
    simp only [go_sem, reduceIte, reduceCtorEq, Nat.reduceEqDiff, Nat.reduceBEq, Nat.reduceAdd, Nat.reduceMul, Nat.reduceLeDiff, aga83]
    refine v_alloc fun b6 hb6 => ?_
    simp only [go_sem, reduceIte, reduceCtorEq, Nat.reduceEqDiff, Nat.reduceBEq, Nat.reduceAdd, Nat.reduceMul, Nat.reduceLeDiff]
    rw [v_store]
    refine ⟨rfl, hl13, map_i6_cell _, _, updH_same _ _ _, by simp, ?_⟩
    have n6 : ∀ {x o}, H x = some o → x ≠ b6 := fun hx h => by subst h; rw [hx] at hb6; cases hb6
    rw [show (eSc c).cells = (pad7 c.owners ++ pad6 c.hours).map i6 from rfl, placeAll _ _ (by rw [hl13]; rfl)]
    simp only [go_sem, reduceIte, reduceCtorEq, Nat.reduceEqDiff, Nat.reduceBEq, Nat.reduceAdd, Nat.reduceMul, Nat.reduceLeDiff]
    refine ⟨none, env0, _, _, _, r, by rw [updH_ne _ _ (n6 J.hl), updH_ne _ _ (n6 J.hl)]; exact J.hl, ?_⟩
    generalize hHH : updH (updH (updH H b6 _) b6 (.box ((pad7 c.owners ++ pad6 c.hours).map i6))) l (.loop .busy none 19 env0 #[11] (rangeF Tryz.f83).1 (rangeF Tryz.f83).2 r) = HH
    have q1 : ∀ x o, x ≠ l → H x = some o → HH x = some o := fun x o hx h => by subst hHH; rw [updH_ne _ _ hx, updH_ne _ _ (n6 h), updH_ne _ _ (n6 h)]; exact h
    have q2 : HH l = some (.loop .busy none 19 env0 #[11] (rangeF Tryz.f83).1 (rangeF Tryz.f83).2 r) := by subst hHH; exact updH_same _ _ _
    have q6 : HH b6 = some (.box ((pad7 c.owners ++ pad6 c.hours).map i6)) := by subst hHH; rw [updH_ne _ _ (n6 J.hl).symm]; exact updH_same _ _ _
    have hEH : Ext (outer F H) HH := by subst hHH; exact ((hE0.new hb6 _).upd (hE0.isNone hb6) _).upd (outer_in J.fl) _
    have hB2 := q1 _ _ hl2.symm J.h2
    have hB3 := q1 _ _ hl3.symm J.h3
    have hB4 := q1 _ _ hl4.symm J.h4
    have hB5 := q1 _ _ hl5.symm J.h5
    have hBr := q1 _ _ hlr.symm J.hr
    clear hHH q1
    simp only [go_sem, reduceIte, reduceCtorEq, Nat.reduceEqDiff, Nat.reduceBEq, Nat.reduceAdd, Nat.reduceMul, Nat.reduceLeDiff, agb83, g2, g3, g4, g5, hB2, hB3, hB4, hB5, q6, hl13, take_len hl13, take_f', List.getElem?_cons_zero, hl13']
    refine pgo_call (play_c h hv.ok (pad7 c.owners) (pad6 c.hours) h.boiled ho7 hh6) ?_
    have hlo : playOf h (pad7 c.owners) (pad6 c.hours) (h.boiled.map bKey) = lastOf h c [] := by rw [lastOf, List.append_nil]
    rw [hlo]
    simp only [go_sem, reduceIte, reduceCtorEq, Nat.reduceEqDiff, Nat.reduceBEq, Nat.reduceAdd, Nat.reduceMul, Nat.reduceLeDiff, g3, hB3, take_f', List.getElem?_cons_zero]
    refine pgo_call (right_c h (lastOf h c []) out (lastOf_len _ _ _) ho (by unfold Sm; have := hv.ok.signs; omega) hv.ok.sign) ?_
    rw [show rightOK h (lastOf h c []) out = isTrue h out c from rfl]
    cases hT : isTrue h out c
    · simp only [go_sem, reduceIte, reduceCtorEq, Nat.reduceEqDiff, Nat.reduceBEq, Nat.reduceAdd, Nat.reduceMul, Nat.reduceLeDiff]
      refine ⟨_, _, _, _, _, _, _, q2, ?_⟩
      have eE := hEH.upd (outer_in J.fl) (.loop .ready none 19 env0 #[11] (rangeF Tryz.f83).1 (rangeF Tryz.f83).2 r)
      refine ⟨fun x => (F x ∨ H x = none) ∧ ∃ o, updH HH l (.loop .ready none 19 env0 #[11] (rangeF Tryz.f83).1 (rangeF Tryz.f83).2 r) x = some o, fun x h => h.1, eE.kept, .inl ⟨rfl, ?_⟩⟩
      have mm : ∀ x o, x ≠ l → HH x = some o → updH HH l (.loop .ready none 19 env0 #[11] (rangeF Tryz.f83).1 (rangeF Tryz.f83).2 r) x = some o := fun x o hx ho => by rw [updH_ne _ _ hx]; exact ho
      have m1 : updH HH l (.loop .ready none 19 env0 #[11] (rangeF Tryz.f83).1 (rangeF Tryz.f83).2 r) l = _ := updH_same _ _ _
      have m2 := mm _ _ hlr.symm hBr
      have m3 := mm _ _ hl2.symm hB2
      have m4 := mm _ _ hl3.symm hB3
      have m5 := mm _ _ hl4.symm hB4
      have m6 := mm _ _ hl5.symm hB5
      refine ⟨fun x h => h.2, ⟨.inl J.fl, _, m1⟩, ⟨.inl J.fr, _, m2⟩, ⟨.inl J.f2, _, m3⟩, ⟨.inl J.f3, _, m4⟩, ⟨.inl J.f4, _, m5⟩, ⟨.inl J.f5, _, m6⟩, m1, m2, m3, m4, m5, m6, ?_⟩
      rw [List.any_append, J.no]; simp [hT]
    · simp only [go_sem, reduceIte, reduceCtorEq, Nat.reduceEqDiff, Nat.reduceBEq, Nat.reduceAdd, Nat.reduceMul, Nat.reduceLeDiff, g4]
      rw [v_store]
      refine ⟨rfl, rfl, by simp [AV.cells, AV.isCell], _, hB4, by simp, ?_⟩
      rw [c_bool, placeOne]
      simp only [go_sem, reduceIte, reduceCtorEq, Nat.reduceEqDiff, Nat.reduceBEq, Nat.reduceAdd, Nat.reduceMul, Nat.reduceLeDiff]
      have q2' := (updH_ne HH (.box [.bool true]) hl4).trans q2
      refine ⟨_, _, _, _, _, _, _, q2', ?_⟩
      have eE := (hEH.upd (outer_in J.f4) (.box [.bool true])).upd (outer_in J.fl) (.loop .done (some .ret) 19 env0 #[11] (rangeF Tryz.f83).1 (rangeF Tryz.f83).2 r)
      refine ⟨fun x => (F x ∨ H x = none) ∧ ∃ o, updH (updH HH b4 (.box [.bool true])) l (.loop .done (some .ret) 19 env0 #[11] (rangeF Tryz.f83).1 (rangeF Tryz.f83).2 r) x = some o, fun x h => h.1, eE.kept, .inr ⟨rfl, ?_⟩⟩
      have m1 : updH (updH HH b4 (.box [.bool true])) l (.loop .done (some .ret) 19 env0 #[11] (rangeF Tryz.f83).1 (rangeF Tryz.f83).2 r) l = _ := updH_same _ _ _
      have m2 : updH (updH HH b4 (.box [.bool true])) l (.loop .done (some .ret) 19 env0 #[11] (rangeF Tryz.f83).1 (rangeF Tryz.f83).2 r) r = some .deferd := by rw [updH_ne _ _ hlr.symm, updH_ne _ _ hr4]; exact hBr
      have m3 : updH (updH HH b4 (.box [.bool true])) l (.loop .done (some .ret) 19 env0 #[11] (rangeF Tryz.f83).1 (rangeF Tryz.f83).2 r) b4 = some (.box [.bool true]) := by rw [updH_ne _ _ hl4.symm]; exact updH_same _ _ _
      refine ⟨fun x h => h.2, ⟨.inl J.fl, _, m1⟩, ⟨.inl J.fr, _, m2⟩, ⟨.inl J.f4, _, m3⟩, m1, m2, m3, ?_⟩
      rw [List.any_append]; simp [hT]
def possibleP (h : House) (out : List Int) : Bool := (allC h).any (isTrue h out)
theorem agg4 : isAggB Tryz.prog 4 = some false := by kernel_rfl
theorem sz4 : szB Tryz.prog 4 = some 1 := by kernel_rfl
theorem fin_defc {P : Program} {N : Nat} {env : Env} {H : AHeap} (t n r b : Nat) (ty : TypeId) (x : AV) (cs : List AV) (h1 : isAggB P ty = some false) (h2 : szB P ty = some n) (hN : env N = .ptr r 0) (hr : H r = some .deferd) (ht : env t = .ptr b 0) (hb : H b = some (.box (x :: cs)))
    {Rr : AV → AHeap → Prop} (h : ∃ r' H2, Settle (delH H r) x H2 r' ∧ Rr r' H2) : fin P [.cell t ty] N Rr .ret env H := by
  obtain ⟨r', H2, h3, h4⟩ := h
  have hbr : b ≠ r := fun h => by subst h; rw [hb] at hr; cases hr
  refine ⟨delH H r, .inr ⟨r, hN, hr, rfl⟩, x, ?_, r', H2, h3, h4⟩
  have : resV P env (delH H r) (.cell t ty) = some x := by
    simp only [resV, h1, h2, ht, at_obj, delH_ne _ hbr, hb, obj_box, Nat.zero_le, if_true, List.drop_zero, Option.bind_some, take_f', List.getElem?_cons_zero]
  simp [aret, List.mapM_cons, List.mapM_nil, this, oneOf]
theorem possible_c (h : House) (hv : HV h) (out : List Int) (ho : Sm out.length) : Pure Tryz.prog 83 [eH h, .slice (eI out)] (.bool (possibleP h out)) := by
  intro H
  refine fn_of hmix fc83 (by simp) ?_
  rw [ienv2]
  simp only [go_sem, reduceIte, reduceCtorEq, Nat.reduceEqDiff, Nat.reduceBEq, Nat.reduceAdd, Nat.reduceMul, Nat.reduceLeDiff, ac83, eH]
  refine v_box _ rfl fun b2 hb2 => ?_
  simp only [go_sem, reduceIte, reduceCtorEq, Nat.reduceEqDiff, Nat.reduceBEq, Nat.reduceAdd, Nat.reduceMul, Nat.reduceLeDiff]
  refine v_box _ rfl fun b3 hb3 => ?_
  have n23 : b2 ≠ b3 := fun h => by subst h; simp at hb3
  simp only [go_sem, reduceIte, reduceCtorEq, Nat.reduceEqDiff, Nat.reduceBEq, Nat.reduceAdd, Nat.reduceMul, Nat.reduceLeDiff]
  refine v_alloc fun b4 hb4 => ?_
  have n24 : b2 ≠ b4 := fun h => by subst h; simp [updH, n23] at hb4
  have n34 : b3 ≠ b4 := fun h => by subst h; simp at hb4
  simp only [go_sem, reduceIte, reduceCtorEq, Nat.reduceEqDiff, Nat.reduceBEq, Nat.reduceAdd, Nat.reduceMul, Nat.reduceLeDiff, updH_ne _ _ n23, updH_ne _ _ n24]
  refine (Pure.emp1 (boilings_c h [] (by unfold Sm; have := hv.ok.boiled; omega) (by unfold Sm; simp))).go ?_
  rw [List.append_nil]
  simp only [go_sem, reduceIte, reduceCtorEq, Nat.reduceEqDiff, Nat.reduceBEq, Nat.reduceAdd, Nat.reduceMul, Nat.reduceLeDiff]
  refine v_alloc fun b5 hb5 => ?_
  have n25 : b2 ≠ b5 := fun h => by subst h; simp [updH, n23, n24] at hb5
  have n35 : b3 ≠ b5 := fun h => by subst h; simp [updH, n34] at hb5
  have n45 : b4 ≠ b5 := fun h => by subst h; simp at hb5
  simp only [go_sem, reduceIte, reduceCtorEq, Nat.reduceEqDiff, Nat.reduceBEq, Nat.reduceAdd, Nat.reduceMul, Nat.reduceLeDiff]
  rw [v_store]
  refine ⟨rfl, rfl, by simp [AV.cells, AV.isCell], _, updH_same _ _ _, by simp, ?_⟩
  rw [show (AV.amap (bMap h.boiled)).cells = [.amap (bMap h.boiled)] from rfl, placeOne]
  simp only [go_sem, reduceIte, reduceCtorEq, Nat.reduceEqDiff, Nat.reduceBEq, Nat.reduceAdd, Nat.reduceMul, Nat.reduceLeDiff, updH_ne _ _ n23, updH_ne _ _ n24, updH_ne _ _ n25]
  have e1 := (Ext.refl H).new hb2 (.box [.slice (h.table.women.map eW), .slice (h.table.pieces.map eP), i6 h.table.wrong, .slice (eI h.sick), i6 h.others, i6 h.last, .slice (h.touches.map eTo), .slice (h.boiled.map eB), .slice (h.signs.map eS)])
  have z3 : H b3 = none := e1.isNone hb3
  have e2 := e1.new hb3 (.box [.slice (eI out)])
  have z4 : H b4 = none := e2.isNone hb4
  have e3 := e2.new hb4 (.box [.bool false])
  have z5 : H b5 = none := e3.isNone hb5
  have e5 := (e3.new hb5 (.box [.any])).upd z5 (.box [.amap (bMap h.boiled)])
  refine (scenes_c h).go ?_
  simp only [go_sem, reduceIte, reduceCtorEq, Nat.reduceEqDiff, Nat.reduceBEq, Nat.reduceAdd, Nat.reduceMul, Nat.reduceLeDiff, x_range]
  generalize hHH : updH (updH (updH (updH (updH H b2 (.box [.slice (h.table.women.map eW), .slice (h.table.pieces.map eP), i6 h.table.wrong, .slice (eI h.sick), i6 h.others, i6 h.last, .slice (h.touches.map eTo), .slice (h.boiled.map eB), .slice (h.signs.map eS)])) b3 (.box [.slice (eI out)])) b4 (.box [.bool false])) b5 (.box [.any])) b5 (.box [.amap (bMap h.boiled)]) = HH at e5 ⊢
  have B2 : HH b2 = some (.box [.slice (h.table.women.map eW), .slice (h.table.pieces.map eP), i6 h.table.wrong, .slice (eI h.sick), i6 h.others, i6 h.last, .slice (h.touches.map eTo), .slice (h.boiled.map eB), .slice (h.signs.map eS)]) := by subst hHH; simp [updH, n23, n24, n25]
  have B3 : HH b3 = some (.box [.slice (eI out)]) := by subst hHH; simp [updH, n34, n35]
  have B4 : HH b4 = some (.box [.bool false]) := by subst hHH; simp [updH, n45]
  have B5 : HH b5 = some (.box [.amap (bMap h.boiled)]) := by subst hHH; simp [updH]
  clear hHH
  refine ⟨by simp [upd_at], 152, [], [.elem (hCells h)], by simp [upd_at, ev], fun r l hr hl hlr => ?_⟩
  have ner : ∀ {x o}, HH x = some o → x ≠ r := fun hx h => by subst h; rw [hx] at hr; cases hr
  have nel : ∀ {x o}, HH x = some o → x ≠ l := fun hx h => by subst h; rw [hx] at hl; cases hl
  have zr : H r = none := e5.isNone hr
  have zl : H l = none := e5.isNone hl
  generalize henv : upd (upd _ _ _) 10 _ = env0
  have g2 : env0 2 = .ptr b2 0 := by subst henv; simp [upd_at]
  have g3 : env0 3 = .ptr b3 0 := by subst henv; simp [upd_at]
  have g4 : env0 4 = .ptr b4 0 := by subst henv; simp [upd_at]
  have g5 : env0 5 = .ptr b5 0 := by subst henv; simp [upd_at]
  have J0 : JC h out (rangeF Tryz.f83).1 (rangeF Tryz.f83).2 env0 r l b2 b3 b4 b5 [] (fun x => x = l ∨ x = r ∨ x = b2 ∨ x = b3 ∨ x = b4 ∨ x = b5) (updH (updH HH r .deferd) l (.loop .ready none 19 env0 #[11] (rangeF Tryz.f83).1 (rangeF Tryz.f83).2 r)) := by
    have m1 := (updH_ne (updH HH r .deferd) (.loop .ready none 19 env0 #[11] (rangeF Tryz.f83).1 (rangeF Tryz.f83).2 r) hlr.symm).trans (updH_same HH r .deferd)
    have m2 : ∀ x o, HH x = some o → updH (updH HH r .deferd) l (.loop .ready none 19 env0 #[11] (rangeF Tryz.f83).1 (rangeF Tryz.f83).2 r) x = some o := fun x o hx => by rw [updH_ne _ _ (nel hx), updH_ne _ _ (ner hx)]; exact hx
    refine ⟨?_, .inl rfl, .inr (.inl rfl), .inr (.inr (.inl rfl)), .inr (.inr (.inr (.inl rfl))), .inr (.inr (.inr (.inr (.inl rfl)))), .inr (.inr (.inr (.inr (.inr rfl)))), updH_same _ _ _, m1, m2 _ _ B2, m2 _ _ B3, m2 _ _ B4, m2 _ _ B5, rfl⟩
    rintro x (rfl | rfl | rfl | rfl | rfl | rfl)
    · exact ⟨_, updH_same _ _ _⟩
    · exact ⟨_, m1⟩
    · exact ⟨_, m2 _ _ B2⟩
    · exact ⟨_, m2 _ _ B3⟩
    · exact ⟨_, m2 _ _ B4⟩
    · exact ⟨_, m2 _ _ B5⟩
  have hcall := scenesGo_c h hv (pos_taker h hv out ho env0 r l b2 b3 b4 b5 g2 g3 g4 g5) _ _ J0
  refine hcall.mono ?_
  rintro _ H2 ⟨rfl, F', hF, hkeep, hcase⟩
  have hExt : ∀ x o, H x = some o → H2 x = some o := fun x o hx => by
    have hne : ∀ y, H y = none → x ≠ y := fun y hy h => by rw [h, hy] at hx; cases hx
    rw [hkeep x (by rintro (h | h | h | h | h | h) <;> exact hne _ (by assumption) h) ⟨o, by rw [updH_ne _ _ (hne _ zl), updH_ne _ _ (hne _ zr)]; exact e5 x o hx⟩, updH_ne _ _ (hne _ zl), updH_ne _ _ (hne _ zr)]
    exact e5 x o hx
  have hExt2 : Ext H (delH H2 l) := fun x o hx => by
    rw [delH_ne _ (fun h => by rw [h, zl] at hx; cases hx)]
    exact hExt x o hx
  rcases hcase with J | ⟨l1, l2, hl12, E⟩
  · refine ⟨_, _, _, _, _, _, _, J.hl, by simp, .norm, rfl, ?_⟩
    have Kr : delH H2 l r = some .deferd := (delH_ne _ hlr.symm).trans J.hr
    have K4 : delH H2 l b4 = some (.box [.bool false]) := (delH_ne _ (nel B4)).trans J.h4
    simp only [go_sem, reduceIte, reduceCtorEq, Nat.reduceEqDiff, Nat.reduceBEq, Nat.reduceAdd, Nat.reduceMul, Nat.reduceLeDiff, g4]
    rw [v_store]
    refine ⟨rfl, rfl, by simp [AV.cells, AV.isCell], _, K4, by simp, ?_⟩
    rw [c_bool, placeOne]
    simp only [go_sem, reduceIte, reduceCtorEq, Nat.reduceEqDiff, Nat.reduceBEq, Nat.reduceAdd, Nat.reduceMul, Nat.reduceLeDiff]
    refine fin_defc 4 1 r b4 4 (.bool false) [] agg4 sz4 (by simp [upd_at]) (by rw [updH_ne _ _ (ner B4).symm]; exact Kr) (by simp [upd_at, g4]) (updH_same _ _ _) ⟨_, H, Settle.refl ((hExt2.upd z4 _).del zr), ?_, rfl⟩
    rw [possibleP, J.no]
  · refine ⟨_, _, _, _, _, _, _, E.hl, by simp, .ret, rfl, ?_⟩
    have Kr : delH H2 l r = some .deferd := (delH_ne _ hlr.symm).trans E.hr
    have K4 : delH H2 l b4 = some (.box [.bool true]) := (delH_ne _ (nel B4)).trans E.h4
    simp only [go_sem, reduceIte, reduceCtorEq, Nat.reduceEqDiff, Nat.reduceBEq, Nat.reduceAdd, Nat.reduceMul, Nat.reduceLeDiff]
    refine fin_defc 4 1 r b4 4 (.bool true) [] agg4 sz4 (by simp [upd_at]) Kr (by simp [upd_at, g4]) K4 ⟨_, H, Settle.refl (hExt2.del zr), ?_, rfl⟩
    rw [possibleP, hl12, List.any_append, E.yes]; rfl
end Go.Lift

set_option linter.unusedSimpArgs false
set_option linter.unusedVariables false
namespace Go.Lift
open Go Go.Proofs
theorem leaveGo_c (h : House) (hv : HV h) (bf bh ba : Nat) (nh : bh ≠ bf) (na : ba ≠ bf) :
    ∀ (many : Nat) (out : List Int) (from_ : Nat) (fv : AV) (old : List Int) (H : AHeap), out.length + many ≤ 10 → from_ ≤ 10 → H bf = some (.box [fv]) → FV fv old →
      H bh = some (.box [.slice (h.table.women.map eW), .slice (h.table.pieces.map eP), i6 h.table.wrong, .slice (eI h.sick), i6 h.others, i6 h.last, .slice (h.touches.map eTo), .slice (h.boiled.map eB), .slice (h.signs.map eS)]) → H ba = some (.box [.func (.func 84) [] [.ptr bf 0, .ptr bh 0, .ptr ba 0]]) →
      ACalls Tryz.prog 84 [.slice (eI out), i6 from_, i6 many, .ptr bf 0, .ptr bh 0, .ptr ba 0] H fun r H' => r = .bool ((combos h.signs.length many out from_).any (possibleP h)) ∧
        (∃ fv', H' bf = some (.box [fv']) ∧ FV fv' (tryAll (possibleP h) old (combos h.signs.length many out from_))) ∧ ∀ x o, x ≠ bf → H x = some o → H' x = some o := by
  have hsg := hv.ok.signs
  intro many
  induction many with
  | zero =>
    intro out from_ fv old H hout hfrom hf hfv hh ha
    refine fn_of hmix fc84 (by simp) ?_
    rw [ienv6]
    simp only [go_sem, reduceIte, reduceCtorEq, Nat.reduceEqDiff, Nat.reduceBEq, Nat.reduceAdd, Nat.reduceMul, Nat.reduceLeDiff, ac84, show ((0 : Nat) : Int) = 0 from rfl]
    rw [v_store]
    refine ⟨rfl, rfl, by simp [AV.cells, AV.isCell], _, hf, by simp, ?_⟩
    rw [show (AV.slice (eI out)).cells = [.slice (eI out)] from rfl, placeOne]
    simp only [go_sem, reduceIte, reduceCtorEq, Nat.reduceEqDiff, Nat.reduceBEq, Nat.reduceAdd, Nat.reduceMul, Nat.reduceLeDiff, updH_ne _ _ nh, hh]
    refine (possible_c h hv out (by unfold Sm; omega)).go ?_
    simp only [go_sem, reduceIte, reduceCtorEq, Nat.reduceEqDiff, Nat.reduceBEq, Nat.reduceAdd, Nat.reduceMul, Nat.reduceLeDiff]
    refine fin_ret' 9 (by simp [upd_at]) ?_
    simp only [upd_at, if_true]
    refine ⟨by simp [combos], ⟨_, updH_same _ _ _, ?_⟩, fun x o hx ho => by rw [updH_ne _ _ hx]; exact ho⟩
    have : tryAll (possibleP h) old (combos h.signs.length 0 out from_) = out := by simp [combos, tryAll]
    rw [this]; exact .inr rfl
  | succ k ih =>
    intro out from_ fv old H hout hfrom hf hfv hh ha
    refine fn_of hmix fc84 (by simp) ?_
    rw [ienv6]
    have hmne : ¬ (((k + 1 : Nat) : Int) = 0) := by omega
    obtain ⟨cnt, hcnt⟩ : ∃ cnt, cnt = h.signs.length - k - from_ := ⟨_, rfl⟩
    obtain ⟨f, hf'⟩ : ∃ f : Nat → List (List Int), f = fun j => combos h.signs.length k (out ++ [((from_ + j : Nat) : Int)]) (from_ + j + 1) := ⟨_, rfl⟩
    have hcomb : combos h.signs.length (k + 1) out from_ = (List.range cnt).flatMap f := by rw [hcnt, hf']; rfl
    rw [hcomb]
    obtain ⟨ok, hok⟩ : ∃ ok, ok = possibleP h := ⟨_, rfl⟩
    rw [← hok]
    have hsub := w64 (x := (h.signs.length : Int) - ((k + 1 : Nat) : Int)) (by omega) (by omega)
    have hdec : IntKind.i64.wrap (((k + 1 : Nat) : Int) - 1) = (k : Int) := by rw [w64 (by omega) (by omega)]; omega
    simp only [go_sem, reduceIte, reduceCtorEq, Nat.reduceEqDiff, Nat.reduceBEq, Nat.reduceAdd, Nat.reduceMul, Nat.reduceLeDiff, ac84, hmne]
    refine x_for cnt (fun j env H1 => (∀ x o, x ≠ bf → H x = some o → H1 x = some o) ∧ (∃ fv', H1 bf = some (.box [fv']) ∧ FV fv' (tryAll ok old ((List.range j).flatMap f))) ∧ (((List.range j).flatMap f).any ok = false) ∧
        env 0 = .slice (eI out) ∧ env 2 = i6 ((k + 1 : Nat) : Int) ∧ env 4 = .ptr bh 0 ∧ env 5 = .ptr ba 0 ∧ env 10 = i6 ((from_ + j : Nat) : Int) ∧ env 38 = .any)
      ⟨fun _ _ _ h => h, ⟨fv, hf, hfv⟩, rfl, by simp [upd_at], by simp [upd_at], by simp [upd_at], by simp [upd_at], by simp [upd_at], by simp [upd_at]⟩ ?_
    rintro j env H1 hj ⟨hK, ⟨fv1, hf1, hfv1⟩, hany, g0, g2, g4, g5, g10, hN⟩
    have hh1 := hK _ _ nh hh
    have ha1 := hK _ _ na ha
    by_cases hlt : ((from_ + j : Nat) : Int) ≤ (h.signs.length : Int) - ((k + 1 : Nat) : Int)
    · have hltc : j < cnt := by omega
      simp only [go_sem, reduceIte, reduceCtorEq, Nat.reduceEqDiff, Nat.reduceBEq, Nat.reduceAdd, Nat.reduceMul, Nat.reduceLeDiff, g0, g2, g4, g5, g10, hN, hh1, hsub, hlt, hdec, ha1, take_f', List.getElem?_cons_zero, wsucc (show from_ + j < 4611686018427387904 by omega)]
      refine ACalls.mono (clone_c out (by omega) H1) ?_
      rintro r H2 ⟨hE2, hG2⟩
      simp only [go_sem, reduceIte, reduceCtorEq, Nat.reduceEqDiff, Nat.reduceBEq, Nat.reduceAdd, Nat.reduceMul, Nat.reduceLeDiff, g5, hE2 _ _ ha1, take_f', List.getElem?_cons_zero]
      refine v_append hG2 hE2 rfl (eI_good _) (one_good _) (one_cell _) (by simp; omega) (by simp; omega) ?_
      intro v' H3 hg' he' hk'
      simp only [go_sem, reduceIte, reduceCtorEq, Nat.reduceEqDiff, Nat.reduceBEq, Nat.reduceAdd, Nat.reduceMul, Nat.reduceLeDiff, g5, he' _ _ ha1, take_f', List.getElem?_cons_zero, List.nil_append, List.cons_append]
      refine ACalls.arg0 (y := .slice (eI (out ++ [((from_ + j : Nat) : Int)]))) (fun w v hr => by rw [eI_app]; exact hg'.weakRep hr) ?_
      have hcall := ih (out ++ [((from_ + j : Nat) : Int)]) (from_ + j + 1) fv1 _ H3 (by simp; omega) (by omega) (he' _ _ hf1) hfv1 (he' _ _ hh1) (he' _ _ ha1)
      rw [← hok] at hcall
      refine hcall.mono ?_
      rintro r H4 ⟨rfl, ⟨fv', hf4, hfv4⟩, hK4⟩
      have hKall : ∀ x o, x ≠ bf → H x = some o → H4 x = some o := fun x o hx ho => hK4 x o hx (he' _ _ (hK x o hx ho))
      have hfj : f j = combos h.signs.length k (out ++ [((from_ + j : Nat) : Int)]) (from_ + j + 1) := by rw [hf']
      rw [← hfj] at hfv4 ⊢
      have hsucc : (List.range (j + 1)).flatMap f = (List.range j).flatMap f ++ f j := by rw [List.range_succ, List.flatMap_append]; simp
      have htry : tryAll ok old ((List.range (j + 1)).flatMap f) = tryAll ok (tryAll ok old ((List.range j).flatMap f)) (f j) := by rw [hsucc, tryAll_append, hany]; rfl
      cases hr : (f j).any ok
      · simp only [go_sem, reduceIte, reduceCtorEq, Nat.reduceEqDiff, Nat.reduceBEq, Nat.reduceAdd, Nat.reduceMul, Nat.reduceLeDiff, g0, g2, g4, g5, g10, hN, wsucc (show from_ + j < 4611686018427387904 by omega), hltc]
        refine ⟨hKall, ⟨fv', hf4, by (try rw [← List.range_succ]); rw [htry]; exact hfv4⟩, by (try rw [← List.range_succ]); rw [hsucc, List.any_append, hany, hr]; rfl, by rw [Nat.add_assoc]⟩
      · simp only [go_sem, reduceIte, reduceCtorEq, Nat.reduceEqDiff, Nat.reduceBEq, Nat.reduceAdd, Nat.reduceMul, Nat.reduceLeDiff, hN]
        refine fin_ret' 9 (by simp [upd_at, hN]) ?_
        simp only [upd_at, if_true]
        obtain ⟨r, hfull⟩ := range_split f hltc
        have hany2 : ((List.range (j + 1)).flatMap f).any ok = true := by rw [hsucc, List.any_append, hr, Bool.or_true]
        refine ⟨?_, ⟨fv', hf4, ?_⟩, hKall⟩
        · rw [hfull, List.any_append, hany2]; rfl
        · rw [hfull, tryAll_append, hany2, if_pos rfl, htry]; exact hfv4
    · simp only [go_sem, reduceIte, reduceCtorEq, Nat.reduceEqDiff, Nat.reduceBEq, Nat.reduceAdd, Nat.reduceMul, Nat.reduceLeDiff, g0, g2, g4, g5, g10, hN, hh1, hsub, hlt, take_f', List.getElem?_cons_zero]
      have : j = cnt := by omega
      subst this
      refine fin_ret' 9 (by simp [upd_at, hN]) ?_
      simp only [upd_at, if_true]
      exact ⟨by rw [hany], ⟨fv1, hf1, hfv1⟩, hK⟩
def leaveAll (h : House) (m : Nat) : List (List Int) := (List.range m).flatMap fun k => combos h.signs.length k [] 0
def leaveOf (h : House) : List Int := tryAll (possibleP h) [] (leaveAll h (h.signs.length + 1))
theorem leave_c (h : House) (hs : TSm h.table) (hsk : Sm h.sick.length) : Pure Tryz.prog 30 [eH h] (listR (checkHouse h) (leaveOf h)) := by
  intro H
  refine fn_of hmix fc30 (by simp) ?_
  rw [ienv1]
  simp only [go_sem, reduceIte, reduceCtorEq, Nat.reduceEqDiff, Nat.reduceBEq, Nat.reduceAdd, Nat.reduceMul, Nat.reduceLeDiff, ac30, eH]
  refine v_box _ rfl fun b1 hb1 => ?_
  simp only [go_sem, reduceIte, reduceCtorEq, Nat.reduceEqDiff, Nat.reduceBEq, Nat.reduceAdd, Nat.reduceMul, Nat.reduceLeDiff]
  refine (checkHouse_c h hs hsk).go ?_
  have e1 := (Ext.refl H).new hb1 (.box [.slice (h.table.women.map eW), .slice (h.table.pieces.map eP), i6 h.table.wrong, .slice (eI h.sick), i6 h.others, i6 h.last, .slice (h.touches.map eTo), .slice (h.boiled.map eB), .slice (h.signs.map eS)])
  by_cases c1 : checkHouse h = 0
  rotate_left
  · simp only [go_sem, reduceIte, reduceCtorEq, Nat.reduceEqDiff, Nat.reduceBEq, Nat.reduceAdd, Nat.reduceMul, Nat.reduceLeDiff, c1]
    refine fin_ret2 2 3 (by simp [upd_at]) ⟨_, H, Settle.refl e1, ?_, rfl⟩
    simp [upd_at, listR, c1]
  have hv := hv_of hs hsk c1
  have hsg := hv.ok.signs
  simp only [go_sem, reduceIte, reduceCtorEq, Nat.reduceEqDiff, Nat.reduceBEq, Nat.reduceAdd, Nat.reduceMul, Nat.reduceLeDiff, c1]
  refine v_alloc fun b5 hb5 => ?_
  have n15 : b1 ≠ b5 := fun h => by subst h; simp at hb5
  have z5 : H b5 = none := e1.isNone hb5
  have e2 := e1.new hb5 (.box [.emp])
  simp only [go_sem, reduceIte, reduceCtorEq, Nat.reduceEqDiff, Nat.reduceBEq, Nat.reduceAdd, Nat.reduceMul, Nat.reduceLeDiff]
  refine v_alloc fun b6 hb6 => ?_
  have n16 : b1 ≠ b6 := fun h => by subst h; simp [updH, n15] at hb6
  have n56 : b5 ≠ b6 := fun h => by subst h; simp at hb6
  have z6 : H b6 = none := e2.isNone hb6
  simp only [go_sem, reduceIte, reduceCtorEq, Nat.reduceEqDiff, Nat.reduceBEq, Nat.reduceAdd, Nat.reduceMul, Nat.reduceLeDiff]
  rw [v_store]
  refine ⟨rfl, rfl, by simp [AV.cells, AV.isCell], _, updH_same _ _ _, by simp, ?_⟩
  have e5 := (e2.new hb6 (.box [.nilf])).upd z6 (.box [.func (.func 84) [] [.ptr b5 0, .ptr b1 0, .ptr b6 0]])
  simp only [c_func, placeOne]
  generalize hHH : updH (updH (updH (updH H b1 (.box [.slice (h.table.women.map eW), .slice (h.table.pieces.map eP), i6 h.table.wrong, .slice (eI h.sick), i6 h.others, i6 h.last, .slice (h.touches.map eTo), .slice (h.boiled.map eB), .slice (h.signs.map eS)])) b5 (.box [.emp])) b6 (.box [.nilf])) b6 (.box [.func (.func 84) [] [.ptr b5 0, .ptr b1 0, .ptr b6 0]]) = HH at e5 ⊢
  have B1 : HH b1 = some (.box [.slice (h.table.women.map eW), .slice (h.table.pieces.map eP), i6 h.table.wrong, .slice (eI h.sick), i6 h.others, i6 h.last, .slice (h.touches.map eTo), .slice (h.boiled.map eB), .slice (h.signs.map eS)]) := by subst hHH; simp [updH, n15, n16]
  have B5 : HH b5 = some (.box [.emp]) := by subst hHH; simp [updH, n56]
  have B6 : HH b6 = some (.box [.func (.func 84) [] [.ptr b5 0, .ptr b1 0, .ptr b6 0]]) := by subst hHH; simp [updH]
  clear hHH
  obtain ⟨ok, hok⟩ : ∃ ok, ok = possibleP h := ⟨_, rfl⟩
  simp only [go_sem, reduceIte, reduceCtorEq, Nat.reduceEqDiff, Nat.reduceBEq, Nat.reduceAdd, Nat.reduceMul, Nat.reduceLeDiff, B1, take_f', List.getElem?_cons_zero, wsucc (show h.signs.length < 4611686018427387904 by omega)]
  have hExt : ∀ (H1 : AHeap), (∀ x o, x ≠ b5 → HH x = some o → H1 x = some o) → Ext H H1 := fun H1 hK x o hx => hK x o (fun h => by rw [h, z5] at hx; cases hx) (e5 x o hx)
  refine x_for (h.signs.length + 1) (fun j env H1 => (∀ x o, x ≠ b5 → HH x = some o → H1 x = some o) ∧ (∃ fv', H1 b5 = some (.box [fv']) ∧ FV fv' (tryAll ok [] (leaveAll h j))) ∧ ((leaveAll h j).any ok = false) ∧
      env 5 = .ptr b5 0 ∧ env 6 = .ptr b6 0 ∧ env 17 = i6 ((h.signs.length + 1 : Nat) : Int) ∧ env 18 = i6 j ∧ env 26 = .any)
    ⟨fun _ _ _ h => h, ⟨_, B5, .inl ⟨rfl, rfl⟩⟩, rfl, by simp [upd_at], by simp [upd_at], by simp [upd_at], by simp [upd_at], by simp [upd_at]⟩ ?_
  rintro j env H1 hj ⟨hK, ⟨fv1, hf1, hfv1⟩, hany, g5, g6, g17, g18, hN⟩
  have fin0 : ∀ (H1 : AHeap) (fv : AV), Ext H H1 → FV fv (leaveOf h) → ∃ r' H2, Settle H1 (.tup [fv, i6 0]) H2 r' ∧ (r' = listR 0 (leaveOf h) ∧ H2 = H) := fun H1 fv hE hg =>
    ⟨.tup [.slice (eI (leaveOf h)), i6 0], H, settle_fv hg hE, rfl, rfl⟩
  by_cases hlt : (j : Int) < ((h.signs.length + 1 : Nat) : Int)
  · have hlt' : j < h.signs.length + 1 := by omega
    have hK6 := hK _ _ n56.symm B6
    simp only [go_sem, reduceIte, reduceCtorEq, Nat.reduceEqDiff, Nat.reduceBEq, Nat.reduceAdd, Nat.reduceMul, Nat.reduceLeDiff, g5, g6, g17, g18, hN, hlt, hK6, take_f', List.getElem?_cons_zero, List.nil_append, List.cons_append]
    refine ACalls.arg0 (y := .slice (eI [])) (fun w v hr => Rep.weaken_emp hr) ?_
    have hcall := leaveGo_c h hv b5 b1 b6 n15 n56.symm j [] 0 fv1 _ H1 (by simp; omega) (by omega) hf1 hfv1 (hK _ _ n15 B1) hK6
    rw [← hok] at hcall
    refine hcall.mono ?_
    rintro r H4 ⟨rfl, ⟨fv', hf4, hfv4⟩, hK4⟩
    have hKall : ∀ x o, x ≠ b5 → HH x = some o → H4 x = some o := fun x o hx ho => hK4 x o hx (hK x o hx ho)
    have hsucc : leaveAll h (j + 1) = leaveAll h j ++ combos h.signs.length j [] 0 := by simp only [leaveAll]; rw [List.range_succ, List.flatMap_append]; simp
    have htry : tryAll ok [] (leaveAll h (j + 1)) = tryAll ok (tryAll ok [] (leaveAll h j)) (combos h.signs.length j [] 0) := by rw [hsucc, tryAll_append, hany]; rfl
    cases hr : (combos h.signs.length j [] 0).any ok
    · simp only [go_sem, reduceIte, reduceCtorEq, Nat.reduceEqDiff, Nat.reduceBEq, Nat.reduceAdd, Nat.reduceMul, Nat.reduceLeDiff, g5, g6, g17, g18, hN, wsucc (show j < 4611686018427387904 by omega), hlt']
      exact ⟨hKall, ⟨fv', hf4, by rw [htry]; exact hfv4⟩, by rw [hsucc, List.any_append, hany, hr]; rfl⟩
    · simp only [go_sem, reduceIte, reduceCtorEq, Nat.reduceEqDiff, Nat.reduceBEq, Nat.reduceAdd, Nat.reduceMul, Nat.reduceLeDiff, g5, hN, hf4, take_f', List.getElem?_cons_zero]
      refine fin_ret2 2 3 (by simp [upd_at, hN]) ?_
      simp only [upd_at, if_true, Nat.reduceEqDiff, if_false]
      refine fin0 H4 fv' (hExt H4 hKall) ?_
      obtain ⟨r, hr2⟩ := range_split (fun k => combos h.signs.length k [] 0) hlt'
      have hany2 : (leaveAll h (j + 1)).any ok = true := by rw [hsucc, List.any_append, hr, Bool.or_true]
      have : leaveAll h (h.signs.length + 1) = leaveAll h (j + 1) ++ r := hr2
      rw [leaveOf, ← hok, this, tryAll_append, hany2, if_pos rfl, htry]; exact hfv4
  · have : j = h.signs.length + 1 := by omega
    subst this
    simp only [go_sem, reduceIte, reduceCtorEq, Nat.reduceEqDiff, Nat.reduceBEq, Nat.reduceAdd, Nat.reduceMul, Nat.reduceLeDiff, g5, g6, g17, g18, hN, hlt, hf1, take_f', List.getElem?_cons_zero]
    refine fin_ret2 2 3 (by simp [upd_at, hN]) ?_
    simp only [upd_at, if_true, Nat.reduceEqDiff, if_false]
    exact fin0 H1 fv1 (hExt H1 hK) (by rw [leaveOf, ← hok]; exact hfv1)
def cut (h : House) (k : Nat) : House := { h with signs := h.signs.take k }
theorem timesUpto_cut (h : House) (k : Nat) (m : Int) : ∀ j, timesUpto (cut h k) m j = timesUpto h m j
  | 0 => rfl
  | j + 1 => by simp only [timesUpto, timesUpto_cut h k m j]; rfl
theorem hv_cut {h : House} (hv : HV h) (k : Nat) : HV (cut h k) := by
  refine ⟨⟨hv.ok.sm, hv.ok.pcs, hv.ok.sk, hv.ok.others, hv.ok.last, hv.ok.touches, hv.ok.touch, hv.ok.boiled, ?_, ?_⟩, hv.tab, hv.ask, hv.tim, ?_⟩
  · have := hv.ok.signs; simp [cut]; omega
  · intro s hs; exact hv.ok.sign s (List.mem_of_mem_take hs)
  · have := hv.many
    rw [manyH] at this ⊢
    rw [timesUpto_cut]; exact this
def badAt (h : House) (i : Nat) : Bool := !possibleP (cut h (i + 1)) []
def firstR (h : House) : AV := if checkHouse h = 0 then (match (List.range h.signs.length).find? (badAt h) with | some i => .tup [i6 i, i6 0] | none => .tup [i6 0, i6 7]) else .tup [i6 0, i6 (checkHouse h)]
theorem first_c (h : House) (hs : TSm h.table) (hsk : Sm h.sick.length) : Pure Tryz.prog 29 [eH h] (firstR h) := by
  intro H
  refine fn_of hmix fc29 (by simp) ?_
  rw [ienv1]
  simp only [go_sem, reduceIte, reduceCtorEq, Nat.reduceEqDiff, Nat.reduceBEq, Nat.reduceAdd, Nat.reduceMul, Nat.reduceLeDiff, ac29, eH]
  refine v_box _ rfl fun b1 hb1 => ?_
  simp only [go_sem, reduceIte, reduceCtorEq, Nat.reduceEqDiff, Nat.reduceBEq, Nat.reduceAdd, Nat.reduceMul, Nat.reduceLeDiff]
  refine (checkHouse_c h hs hsk).go ?_
  have e1 := (Ext.refl H).new hb1 (.box [.slice (h.table.women.map eW), .slice (h.table.pieces.map eP), i6 h.table.wrong, .slice (eI h.sick), i6 h.others, i6 h.last, .slice (h.touches.map eTo), .slice (h.boiled.map eB), .slice (h.signs.map eS)])
  by_cases c1 : checkHouse h = 0
  rotate_left
  · simp only [go_sem, reduceIte, reduceCtorEq, Nat.reduceEqDiff, Nat.reduceBEq, Nat.reduceAdd, Nat.reduceMul, Nat.reduceLeDiff, c1]
    refine fin_ret2 2 3 (by simp [upd_at]) ⟨_, H, Settle.refl e1, ?_, rfl⟩
    simp [upd_at, firstR, c1]
  have hv := hv_of hs hsk c1
  have hsg := hv.ok.signs
  simp only [go_sem, reduceIte, reduceCtorEq, Nat.reduceEqDiff, Nat.reduceBEq, Nat.reduceAdd, Nat.reduceMul, Nat.reduceLeDiff, c1]
  refine v_alloc fun b5 hb5 => ?_
  have n15 : b1 ≠ b5 := fun h => by subst h; simp at hb5
  have z5 : H b5 = none := e1.isNone hb5
  simp only [go_sem, reduceIte, reduceCtorEq, Nat.reduceEqDiff, Nat.reduceBEq, Nat.reduceAdd, Nat.reduceMul, Nat.reduceLeDiff]
  rw [v_store]
  refine ⟨rfl, rfl, by simp [AV.cells, AV.isCell], _, updH_same _ _ _, by simp, ?_⟩
  rw [c_agg, show placeAt [.emp, .emp, .int .i64 0, .emp, .int .i64 0, .int .i64 0, .emp, .emp, .emp] 0 [.slice (h.table.women.map eW), .slice (h.table.pieces.map eP), i6 h.table.wrong, .slice (eI h.sick), i6 h.others, i6 h.last, .slice (h.touches.map eTo), .slice (h.boiled.map eB), .slice (h.signs.map eS)] = [.slice (h.table.women.map eW), .slice (h.table.pieces.map eP), i6 h.table.wrong, .slice (eI h.sick), i6 h.others, i6 h.last, .slice (h.touches.map eTo), .slice (h.boiled.map eB), .slice (h.signs.map eS)] from rfl]
  have e2 : ∀ o1 o2, Ext H (updH (updH (updH H b1 (.box [.slice (h.table.women.map eW), .slice (h.table.pieces.map eP), i6 h.table.wrong, .slice (eI h.sick), i6 h.others, i6 h.last, .slice (h.touches.map eTo), .slice (h.boiled.map eB), .slice (h.signs.map eS)])) b5 o1) b5 o2) := fun o1 o2 => (e1.new hb5 o1).upd z5 o2
  simp only [go_sem, reduceIte, reduceCtorEq, Nat.reduceEqDiff, Nat.reduceBEq, Nat.reduceAdd, Nat.reduceMul, Nat.reduceLeDiff, updH_ne _ _ n15, take_f', List.getElem?_cons_zero]
  refine x_for h.signs.length (fun j env H1 => Ext H H1 ∧ H1 b1 = some (.box [.slice (h.table.women.map eW), .slice (h.table.pieces.map eP), i6 h.table.wrong, .slice (eI h.sick), i6 h.others, i6 h.last, .slice (h.touches.map eTo), .slice (h.boiled.map eB), .slice (h.signs.map eS)]) ∧ (∃ sv, H1 b5 = some (.box [.slice (h.table.women.map eW), .slice (h.table.pieces.map eP), i6 h.table.wrong, .slice (eI h.sick), i6 h.others, i6 h.last, .slice (h.touches.map eTo), .slice (h.boiled.map eB), sv])) ∧
      env 1 = .ptr b1 0 ∧ env 5 = .ptr b5 0 ∧ env 15 = i6 h.signs.length ∧ env 16 = i6 j ∧ env 30 = .any ∧ (List.range j).find? (badAt h) = none)
    ⟨e2 _ _, by rw [updH_ne _ _ n15, updH_ne _ _ n15]; exact updH_same _ _ _, ⟨_, updH_same _ _ _⟩, by simp [upd_at], by simp [upd_at], by simp [upd_at], by simp [upd_at], by simp [upd_at], rfl⟩ ?_
  rintro j env H1 hj ⟨hE, hB1, ⟨sv, hB5⟩, g1, g5, g15, g16, hN, hq⟩
  by_cases hlt : (j : Int) < (h.signs.length : Int)
  · have hlt' : j < h.signs.length := by omega
    simp only [go_sem, reduceIte, reduceCtorEq, Nat.reduceEqDiff, Nat.reduceBEq, Nat.reduceAdd, Nat.reduceMul, Nat.reduceLeDiff, g1, g5, g15, g16, hN, hlt, hB1, take_f', List.getElem?_cons_zero, wsucc (show j < 4611686018427387904 by omega), show ((j + 1 : Nat) : Int) ≤ (h.signs.length : Int) by omega, show (0 : Int) ≤ ((j + 1 : Nat) : Int) by omega]
    rw [v_store]
    refine ⟨rfl, rfl, by simp [AV.cells, AV.isCell], _, hB5, by simp, ?_⟩
    have hsl : (h.signs.map eS).take (j + 1) = (h.signs.take (j + 1)).map eS := by rw [List.map_take]
    rw [hsl, c_slice, show placeAt [.slice (h.table.women.map eW), .slice (h.table.pieces.map eP), i6 h.table.wrong, .slice (eI h.sick), i6 h.others, i6 h.last, .slice (h.touches.map eTo), .slice (h.boiled.map eB), sv] (0 + 8) [.slice ((h.signs.take (j + 1)).map eS)] = [.slice (h.table.women.map eW), .slice (h.table.pieces.map eP), i6 h.table.wrong, .slice (eI h.sick), i6 h.others, i6 h.last, .slice (h.touches.map eTo), .slice (h.boiled.map eB), .slice ((h.signs.take (j + 1)).map eS)] from rfl]
    simp only [go_sem, reduceIte, reduceCtorEq, Nat.reduceEqDiff, Nat.reduceBEq, Nat.reduceAdd, Nat.reduceMul, Nat.reduceLeDiff, g1, g5, g15, g16, hN]
    refine (Pure.emp1 (possible_c (cut h (j + 1)) (hv_cut hv (j + 1)) [] (by unfold Sm; simp))).go ?_
    have hfr : (List.range (j + 1)).find? (badAt h) = if badAt h j = true then some j else none := by
      rw [List.range_succ, List.find?_append, hq]
      cases hb : badAt h j <;> simp [List.find?_cons, hb]
    cases hp : possibleP (cut h (j + 1)) []
    · have hb : badAt h j = true := by rw [badAt, hp]; rfl
      simp only [go_sem, reduceIte, reduceCtorEq, Nat.reduceEqDiff, Nat.reduceBEq, Nat.reduceAdd, Nat.reduceMul, Nat.reduceLeDiff, g1, g5, g15, g16, hN]
      refine fin_ret2 2 3 (by simp [upd_at, hN]) ⟨_, H, Settle.refl (hE.upd z5 _), ?_, rfl⟩
      have hfull : (List.range h.signs.length).find? (badAt h) = some j := by
        have : h.signs.length = (j + 1) + (h.signs.length - (j + 1)) := by omega
        rw [this, List.range_add, List.find?_append, hfr, if_pos hb]; rfl
      simp [upd_at, firstR, c1, hfull, g16]
    · have hb : badAt h j = false := by rw [badAt, hp]; rfl
      simp only [go_sem, reduceIte, reduceCtorEq, Nat.reduceEqDiff, Nat.reduceBEq, Nat.reduceAdd, Nat.reduceMul, Nat.reduceLeDiff, g1, g5, g15, g16, hN, hlt', updH_ne _ _ n15, hB1, wsucc (show j < 4611686018427387904 by omega)]
      exact ⟨hE.upd z5 _, ⟨_, rfl⟩, by (try rw [← List.range_succ]); rw [hfr, hb]; rfl⟩
  · have : j = h.signs.length := by omega
    subst this
    simp only [go_sem, reduceIte, reduceCtorEq, Nat.reduceEqDiff, Nat.reduceBEq, Nat.reduceAdd, Nat.reduceMul, Nat.reduceLeDiff, g1, g5, g15, g16, hN, hlt]
    refine fin_ret2 2 3 (by simp [upd_at, hN]) ⟨_, H, Settle.refl hE, ?_, rfl⟩
    simp [upd_at, firstR, c1, hq]
end Go.Lift

set_option linter.unusedSimpArgs false
set_option linter.unusedVariables false
namespace Go.Lift
open Go Go.Proofs
/-- The places that are true, of the first so many. -/
def truesUpto (bs : List Bool) (j : Nat) : List Int := ((List.range j).filter fun i => bs.getD i false).map Int.ofNat
theorem truesUpto_succ (bs : List Bool) (j : Nat) : truesUpto bs (j + 1) = truesUpto bs j ++ (if bs.getD j false = true then [(j : Int)] else []) := by
  simp only [truesUpto, List.range_succ, List.filter_append, List.map_append]
  congr 1
  cases h : bs.getD j false <;> simp only [List.filter_cons, h, List.filter_nil] <;> simp
theorem truesUpto_len (bs : List Bool) (j : Nat) : (truesUpto bs j).length ≤ j := by
  simp only [truesUpto, List.length_map]
  exact Nat.le_trans (List.length_filter_le _ _) (by simp)
theorem sceneOf_ok {h : House} {c : Course} (hc : courseOK h c = true) : sceneOf h c = pad7 c.owners ++ pad6 c.hours := by rw [sceneOf, if_pos hc]
theorem sceneOf_len (h : House) (hk : HOK h) (c : Course) : (sceneOf h c).length = 13 := by
  by_cases hc : courseOK h c = true
  · have := courseOK_len hc
    have h1 := hk.pcs
    have h2 := hk.touches
    rw [sceneOf_ok hc, List.length_append, pad7_len _ (by omega), pad6_len _ (by omega)]
  · rw [sceneOf, if_neg hc]; rfl
def playE (h : House) (c : Course) : Int := if checkHouse h = 0 then (if courseOK h c = true then 0 else 2) else checkHouse h
theorem playS_c (h : House) (hs : TSm h.table) (hsk : Sm h.sick.length) (c : Course) (hc1 : Sm c.owners.length) (hc2 : Sm c.hours.length) : Pure Tryz.prog 37 [eH h, eC c] (listR (playE h c) (truesUpto (lastOf h c []) 10)) := by
  intro H
  refine fn_of hmix fc37 (by simp) ?_
  rw [ienv2]
  simp only [go_sem, reduceIte, reduceCtorEq, Nat.reduceEqDiff, Nat.reduceBEq, Nat.reduceAdd, Nat.reduceMul, Nat.reduceLeDiff, ac37, eH, eC]
  refine v_box _ rfl fun b2 hb2 => ?_
  simp only [go_sem, reduceIte, reduceCtorEq, Nat.reduceEqDiff, Nat.reduceBEq, Nat.reduceAdd, Nat.reduceMul, Nat.reduceLeDiff]
  refine v_box _ rfl fun b3 hb3 => ?_
  have n23 : b2 ≠ b3 := fun h => by subst h; simp at hb3
  simp only [go_sem, reduceIte, reduceCtorEq, Nat.reduceEqDiff, Nat.reduceBEq, Nat.reduceAdd, Nat.reduceMul, Nat.reduceLeDiff, updH_ne _ _ n23]
  refine (checkHouse_c h hs hsk).go ?_
  have e1 := (Ext.refl H).new hb2 (.box [.slice (h.table.women.map eW), .slice (h.table.pieces.map eP), i6 h.table.wrong, .slice (eI h.sick), i6 h.others, i6 h.last, .slice (h.touches.map eTo), .slice (h.boiled.map eB), .slice (h.signs.map eS)])
  have z3 : H b3 = none := e1.isNone hb3
  have e2 := e1.new hb3 (.box [.slice (eI c.owners), .slice (eI c.hours)])
  by_cases c1 : checkHouse h = 0
  rotate_left
  · simp only [go_sem, reduceIte, reduceCtorEq, Nat.reduceEqDiff, Nat.reduceBEq, Nat.reduceAdd, Nat.reduceMul, Nat.reduceLeDiff, c1]
    refine fin_ret2 4 5 (by simp [upd_at]) ⟨_, H, Settle.refl e2, ?_, rfl⟩
    simp [upd_at, listR, playE, c1]
  have hv := hv_of hs hsk c1
  have hsl := sceneOf_len h hv.ok c
  have hsl' : ((sceneOf h c).map i6).length = 13 := by simp [hsl]
  simp only [go_sem, reduceIte, reduceCtorEq, Nat.reduceEqDiff, Nat.reduceBEq, Nat.reduceAdd, Nat.reduceMul, Nat.reduceLeDiff, c1, updH_ne _ _ n23]
  refine (scene_c h hv.ok c hc1 hc2).go ?_
  simp only [go_sem, reduceIte, reduceCtorEq, Nat.reduceEqDiff, Nat.reduceBEq, Nat.reduceAdd, Nat.reduceMul, Nat.reduceLeDiff, List.getElem?_cons_zero, List.getElem?_cons_succ]
  refine v_alloc fun b7 hb7 => ?_
  have n27 : b2 ≠ b7 := fun h => by subst h; simp [updH, n23] at hb7
  simp only [go_sem, reduceIte, reduceCtorEq, Nat.reduceEqDiff, Nat.reduceBEq, Nat.reduceAdd, Nat.reduceMul, Nat.reduceLeDiff, List.getElem?_cons_zero, List.getElem?_cons_succ]
  rw [v_store]
  refine ⟨rfl, hsl', map_i6_cell _, _, updH_same _ _ _, by simp, ?_⟩
  rw [c_agg, placeAll _ _ (by rw [hsl']; rfl)]
  have e3 : ∀ o1 o2, Ext H (updH (updH (updH (updH H b2 (.box [.slice (h.table.women.map eW), .slice (h.table.pieces.map eP), i6 h.table.wrong, .slice (eI h.sick), i6 h.others, i6 h.last, .slice (h.touches.map eTo), .slice (h.boiled.map eB), .slice (h.signs.map eS)])) b3 (.box [.slice (eI c.owners), .slice (eI c.hours)])) b7 o1) b7 o2) := fun o1 o2 => (e2.new hb7 o1).upd (e2.isNone hb7) o2
  cases c2 : courseOK h c
  · simp only [go_sem, reduceIte, reduceCtorEq, Nat.reduceEqDiff, Nat.reduceBEq, Nat.reduceAdd, Nat.reduceMul, Nat.reduceLeDiff, List.getElem?_cons_zero, List.getElem?_cons_succ]
    refine fin_ret2 4 5 (by simp [upd_at]) ⟨_, H, Settle.refl (e3 _ _), ?_, rfl⟩
    simp [upd_at, listR, playE, c1, c2]
  have hol := courseOK_len c2
  have hp7 := hv.ok.pcs
  have hm6 := hv.ok.touches
  simp only [go_sem, reduceIte, reduceCtorEq, Nat.reduceEqDiff, Nat.reduceBEq, Nat.reduceAdd, Nat.reduceMul, Nat.reduceLeDiff, updH_ne _ _ n23, updH_ne _ _ n27, List.getElem?_cons_zero, List.getElem?_cons_succ, hsl', take_len hsl', hsl]
  refine pgo_call (Pure.emp1 (boilings_c h [] (by unfold Sm; have := hv.ok.boiled; omega) (by unfold Sm; simp))) ?_
  simp only [go_sem, reduceIte, reduceCtorEq, Nat.reduceEqDiff, Nat.reduceBEq, Nat.reduceAdd, Nat.reduceMul, Nat.reduceLeDiff]
  rw [sceneOf_ok c2]
  refine pgo_call (play_c h hv.ok (pad7 c.owners) (pad6 c.hours) (h.boiled ++ []) (pad7_len _ (by omega)) (pad6_len _ (by omega))) ?_
  have hlo : playOf h (pad7 c.owners) (pad6 c.hours) (List.map bKey (h.boiled ++ ([] : List Boiling))) = lastOf h c [] := rfl
  rw [hlo]
  have hll := lastOf_len h c []
  simp only [go_sem, reduceIte, reduceCtorEq, Nat.reduceEqDiff, Nat.reduceBEq, Nat.reduceAdd, Nat.reduceMul, Nat.reduceLeDiff]
  refine x_for 10 (fun j env H1 => Ext H H1 ∧ Grown 1 H H1 (env 9) (eI (truesUpto (lastOf h c []) j)) ∧ env 29 = .agg ((lastOf h c []).map .bool) ∧ env 30 = i6 j ∧ env 41 = .any)
    ⟨e3 _ _, .inl ⟨by simp [upd_at], rfl⟩, by simp [upd_at], by simp [upd_at], by simp [upd_at]⟩ ?_
  rintro j env H1 hj ⟨hE, hG, g29, g30, hN⟩
  by_cases hlt : (j : Int) < 10
  · have hlt' : j < 10 := by omega
    have hgb := bget (c := lastOf h c []) (show j < (lastOf h c []).length by omega)
    have htl := truesUpto_len (lastOf h c []) j
    cases hb : (lastOf h c []).getD j false <;> rw [hb] at hgb
    · simp only [go_sem, reduceIte, reduceCtorEq, Nat.reduceEqDiff, Nat.reduceBEq, Nat.reduceAdd, Nat.reduceMul, Nat.reduceLeDiff, g29, g30, hN, hlt, show (j : Int) < ((10 : Nat) : Int) by omega, Nat.mul_one, hgb, wsucc (show j < 4611686018427387904 by omega), hlt']
      refine ⟨hE, ?_⟩
      rw [truesUpto_succ, hb]; simpa using hG
    · simp only [go_sem, reduceIte, reduceCtorEq, Nat.reduceEqDiff, Nat.reduceBEq, Nat.reduceAdd, Nat.reduceMul, Nat.reduceLeDiff, g29, g30, hN, hlt, show (j : Int) < ((10 : Nat) : Int) by omega, Nat.mul_one, hgb]
      refine v_append hG hE rfl (eI_good _) (one_good _) (one_cell _) (by simp; omega) (by simp; omega) ?_
      intro v' H2 hg' he' hk'
      simp only [go_sem, reduceIte, reduceCtorEq, Nat.reduceEqDiff, Nat.reduceBEq, Nat.reduceAdd, Nat.reduceMul, Nat.reduceLeDiff, g29, g30, hN, wsucc (show j < 4611686018427387904 by omega), hlt']
      refine ⟨he', ?_⟩
      rw [truesUpto_succ, hb, if_pos rfl, eI_app]; exact hg'
  · have : j = 10 := by omega
    subst this
    simp only [go_sem, reduceIte, reduceCtorEq, Nat.reduceEqDiff, Nat.reduceBEq, Nat.reduceAdd, Nat.reduceMul, Nat.reduceLeDiff, g29, g30, hN, hlt]
    have hE0 : playE h c = 0 := by rw [playE, if_pos c1, if_pos c2]
    refine fin_ret2 4 5 (by simp [upd_at, hN]) ⟨.tup [.slice (eI (truesUpto (lastOf h c []) 10)), i6 0], H, ?_, by rw [listR, if_pos hE0], rfl⟩
    simp only [upd_at, if_true, Nat.reduceEqDiff, if_false]
    exact settle_list hG hE
def truthS (h : House) (c : Course) : Bool := decide (checkHouse h = 0) && (courseOK h c && isTrue h [] c)
theorem proveS_c (h : House) (hs : TSm h.table) (hsk : Sm h.sick.length) (c : Course) (hc1 : Sm c.owners.length) (hc2 : Sm c.hours.length) : Pure Tryz.prog 65 [eH h, eC c] (.bool (truthS h c)) := by
  intro H
  refine fn_of hmix fc65 (by simp) ?_
  rw [ienv2]
  simp only [go_sem, reduceIte, reduceCtorEq, Nat.reduceEqDiff, Nat.reduceBEq, Nat.reduceAdd, Nat.reduceMul, Nat.reduceLeDiff, ac65, eH, eC]
  refine v_box _ rfl fun b2 hb2 => ?_
  simp only [go_sem, reduceIte, reduceCtorEq, Nat.reduceEqDiff, Nat.reduceBEq, Nat.reduceAdd, Nat.reduceMul, Nat.reduceLeDiff]
  refine v_box _ rfl fun b3 hb3 => ?_
  have n23 : b2 ≠ b3 := fun h => by subst h; simp at hb3
  simp only [go_sem, reduceIte, reduceCtorEq, Nat.reduceEqDiff, Nat.reduceBEq, Nat.reduceAdd, Nat.reduceMul, Nat.reduceLeDiff, updH_ne _ _ n23]
  refine (checkHouse_c h hs hsk).go ?_
  have e1 := (Ext.refl H).new hb2 (.box [.slice (h.table.women.map eW), .slice (h.table.pieces.map eP), i6 h.table.wrong, .slice (eI h.sick), i6 h.others, i6 h.last, .slice (h.touches.map eTo), .slice (h.boiled.map eB), .slice (h.signs.map eS)])
  have z3 : H b3 = none := e1.isNone hb3
  have e2 := e1.new hb3 (.box [.slice (eI c.owners), .slice (eI c.hours)])
  by_cases c1 : checkHouse h = 0
  rotate_left
  · simp only [go_sem, reduceIte, reduceCtorEq, Nat.reduceEqDiff, Nat.reduceBEq, Nat.reduceAdd, Nat.reduceMul, Nat.reduceLeDiff, c1]
    refine fin_ret 4 (by simp [upd_at]) ⟨_, H, Settle.refl e2, ?_, rfl⟩
    simp [upd_at, truthS, c1]
  have hv := hv_of hs hsk c1
  have hsl := sceneOf_len h hv.ok c
  have hsl' : ((sceneOf h c).map i6).length = 13 := by simp [hsl]
  simp only [go_sem, reduceIte, reduceCtorEq, Nat.reduceEqDiff, Nat.reduceBEq, Nat.reduceAdd, Nat.reduceMul, Nat.reduceLeDiff, c1, updH_ne _ _ n23]
  refine (scene_c h hv.ok c hc1 hc2).go ?_
  simp only [go_sem, reduceIte, reduceCtorEq, Nat.reduceEqDiff, Nat.reduceBEq, Nat.reduceAdd, Nat.reduceMul, Nat.reduceLeDiff, List.getElem?_cons_zero, List.getElem?_cons_succ]
  refine v_alloc fun b7 hb7 => ?_
  have n27 : b2 ≠ b7 := fun h => by subst h; simp [updH, n23] at hb7
  simp only [go_sem, reduceIte, reduceCtorEq, Nat.reduceEqDiff, Nat.reduceBEq, Nat.reduceAdd, Nat.reduceMul, Nat.reduceLeDiff, List.getElem?_cons_zero, List.getElem?_cons_succ]
  rw [v_store]
  refine ⟨rfl, hsl', map_i6_cell _, _, updH_same _ _ _, by simp, ?_⟩
  rw [c_agg, placeAll _ _ (by rw [hsl']; rfl)]
  have e3 : ∀ o1 o2, Ext H (updH (updH (updH (updH H b2 (.box [.slice (h.table.women.map eW), .slice (h.table.pieces.map eP), i6 h.table.wrong, .slice (eI h.sick), i6 h.others, i6 h.last, .slice (h.touches.map eTo), .slice (h.boiled.map eB), .slice (h.signs.map eS)])) b3 (.box [.slice (eI c.owners), .slice (eI c.hours)])) b7 o1) b7 o2) := fun o1 o2 => (e2.new hb7 o1).upd (e2.isNone hb7) o2
  cases c2 : courseOK h c
  · simp only [go_sem, reduceIte, reduceCtorEq, Nat.reduceEqDiff, Nat.reduceBEq, Nat.reduceAdd, Nat.reduceMul, Nat.reduceLeDiff, List.getElem?_cons_zero, List.getElem?_cons_succ]
    refine fin_ret 4 (by simp [upd_at]) ⟨_, H, Settle.refl (e3 _ _), ?_, rfl⟩
    simp [upd_at, truthS, c2]
  have hol := courseOK_len c2
  have hp7 := hv.ok.pcs
  have hm6 := hv.ok.touches
  simp only [go_sem, reduceIte, reduceCtorEq, Nat.reduceEqDiff, Nat.reduceBEq, Nat.reduceAdd, Nat.reduceMul, Nat.reduceLeDiff, updH_ne _ _ n23, updH_ne _ _ n27, List.getElem?_cons_zero, List.getElem?_cons_succ, hsl', take_len hsl', hsl]
  refine pgo_call (Pure.emp1 (boilings_c h [] (by unfold Sm; have := hv.ok.boiled; omega) (by unfold Sm; simp))) ?_
  simp only [go_sem, reduceIte, reduceCtorEq, Nat.reduceEqDiff, Nat.reduceBEq, Nat.reduceAdd, Nat.reduceMul, Nat.reduceLeDiff]
  rw [sceneOf_ok c2]
  refine pgo_call (play_c h hv.ok (pad7 c.owners) (pad6 c.hours) (h.boiled ++ []) (pad7_len _ (by omega)) (pad6_len _ (by omega))) ?_
  have hlo : playOf h (pad7 c.owners) (pad6 c.hours) (List.map bKey (h.boiled ++ ([] : List Boiling))) = lastOf h c [] := rfl
  rw [hlo]
  simp only [go_sem, reduceIte, reduceCtorEq, Nat.reduceEqDiff, Nat.reduceBEq, Nat.reduceAdd, Nat.reduceMul, Nat.reduceLeDiff]
  refine pgo_call (Pure.emp2 (right_c h (lastOf h c []) [] (lastOf_len _ _ _) (by unfold Sm; simp) (by unfold Sm; have := hv.ok.signs; omega) hv.ok.sign)) ?_
  rw [show rightOK h (lastOf h c []) [] = isTrue h [] c from rfl]
  simp only [go_sem, reduceIte, reduceCtorEq, Nat.reduceEqDiff, Nat.reduceBEq, Nat.reduceAdd, Nat.reduceMul, Nat.reduceLeDiff]
  refine fin_ret 4 (by simp [upd_at]) ⟨_, H, Settle.refl (e3 _ _), ?_, rfl⟩
  simp [upd_at, truthS, c1, c2]
def proveBoilP (h : House) (hour : Int) (l : List Int) (many : Int) : Bool := decide (askErrH h (hourOK h hour && risingOK l (thingsW h)) = 0) && (decide ((l.length : Int) ≤ many) && safeP h (atOf l hour))
theorem proveBoil_c (h : House) (hs : TSm h.table) (hsk : Sm h.sick.length) (hour : Int) (l : List Int) (hl : Sm l.length) (many : Int) : Pure Tryz.prog 52 [eH h, i6 hour, .slice (eI l), i6 many] (.bool (proveBoilP h hour l many)) := by
  intro H
  refine fn_of hmix fc52 (by simp) ?_
  rw [ienv4]
  simp only [go_sem, reduceIte, reduceCtorEq, Nat.reduceEqDiff, Nat.reduceBEq, Nat.reduceAdd, Nat.reduceMul, Nat.reduceLeDiff, ac52, eH]
  refine v_box _ rfl fun b2 hb2 => ?_
  have e1 := (Ext.refl H).new hb2 (.box [.slice (h.table.women.map eW), .slice (h.table.pieces.map eP), i6 h.table.wrong, .slice (eI h.sick), i6 h.others, i6 h.last, .slice (h.touches.map eTo), .slice (h.boiled.map eB), .slice (h.signs.map eS)])
  simp only [go_sem, reduceIte, reduceCtorEq, Nat.reduceEqDiff, Nat.reduceBEq, Nat.reduceAdd, Nat.reduceMul, Nat.reduceLeDiff]
  refine pgo_call (hour_c h hour) ?_
  have main : ∀ fine, fine = (hourOK h hour && risingOK l (thingsW h)) → askErrH h fine = 0 → HV h := fun fine _ he => hv_ask hs hsk he
  cases d1 : hourOK h hour
  · simp only [go_sem, reduceIte, reduceCtorEq, Nat.reduceEqDiff, Nat.reduceBEq, Nat.reduceAdd, Nat.reduceMul, Nat.reduceLeDiff]
    refine pgo_call (askedH_c h hs hsk false) ?_
    have hne : ¬ askErrH h false = 0 := fun he => by have := ask_fine he; cases this
    simp only [go_sem, reduceIte, reduceCtorEq, Nat.reduceEqDiff, Nat.reduceBEq, Nat.reduceAdd, Nat.reduceMul, Nat.reduceLeDiff, askedR, hne, List.getElem?_cons_zero, List.getElem?_cons_succ]
    refine fin_ret 8 (by simp [upd_at]) ⟨_, H, Settle.refl e1, ?_, rfl⟩
    simp [upd_at, proveBoilP, d1, hne]
  simp only [go_sem, reduceIte, reduceCtorEq, Nat.reduceEqDiff, Nat.reduceBEq, Nat.reduceAdd, Nat.reduceMul, Nat.reduceLeDiff]
  refine pgo_call (things_c h) ?_
  simp only [go_sem, reduceIte, reduceCtorEq, Nat.reduceEqDiff, Nat.reduceBEq, Nat.reduceAdd, Nat.reduceMul, Nat.reduceLeDiff]
  refine pgo_call (rising_c l (thingsW h) hl) ?_
  simp only [go_sem, reduceIte, reduceCtorEq, Nat.reduceEqDiff, Nat.reduceBEq, Nat.reduceAdd, Nat.reduceMul, Nat.reduceLeDiff]
  refine pgo_call (askedH_c h hs hsk (risingOK l (thingsW h))) ?_
  by_cases c1 : askErrH h (risingOK l (thingsW h)) = 0
  rotate_left
  · simp only [go_sem, reduceIte, reduceCtorEq, Nat.reduceEqDiff, Nat.reduceBEq, Nat.reduceAdd, Nat.reduceMul, Nat.reduceLeDiff, askedR, c1, List.getElem?_cons_zero, List.getElem?_cons_succ]
    refine fin_ret 8 (by simp [upd_at]) ⟨_, H, Settle.refl e1, ?_, rfl⟩
    simp [upd_at, proveBoilP, d1, c1]
  have hv := hv_ask hs hsk c1
  by_cases c2 : (l.length : Int) ≤ many
  rotate_left
  · simp only [go_sem, reduceIte, reduceCtorEq, Nat.reduceEqDiff, Nat.reduceBEq, Nat.reduceAdd, Nat.reduceMul, Nat.reduceLeDiff, askedR, c1, c2, List.getElem?_cons_zero, List.getElem?_cons_succ]
    refine fin_ret 8 (by simp [upd_at]) ⟨_, H, Settle.refl e1, ?_, rfl⟩
    simp [upd_at, proveBoilP, c2]
  simp only [go_sem, reduceIte, reduceCtorEq, Nat.reduceEqDiff, Nat.reduceBEq, Nat.reduceAdd, Nat.reduceMul, Nat.reduceLeDiff, askedR, c1, c2, List.getElem?_cons_zero, List.getElem?_cons_succ]
  refine (at_c l hour hl).go ?_
  simp only [go_sem, reduceIte, reduceCtorEq, Nat.reduceEqDiff, Nat.reduceBEq, Nat.reduceAdd, Nat.reduceMul, Nat.reduceLeDiff]
  refine (safe_c h hv (atOf l hour) (by unfold Sm at *; simpa [atOf] using hl)).go ?_
  simp only [go_sem, reduceIte, reduceCtorEq, Nat.reduceEqDiff, Nat.reduceBEq, Nat.reduceAdd, Nat.reduceMul, Nat.reduceLeDiff]
  refine fin_ret 8 (by simp [upd_at]) ⟨_, H, Settle.refl e1, ?_, rfl⟩
  simp [upd_at, proveBoilP, d1, c1, c2]
def proveOrderP (h : House) (hour : Int) (l : List Int) (many : Int) : Bool := decide (askErrH h (hourOK h hour && l.all (thingOK h)) = 0) && (decide ((l.length : Int) ≤ many) && (decide ((l.length : Int) ≤ longestOf h hour) && safeP h (rowOf l hour)))
theorem proveOrder_c (h : House) (hs : TSm h.table) (hsk : Sm h.sick.length) (hour : Int) (l : List Int) (hl : Sm l.length) (many : Int) : Pure Tryz.prog 59 [eH h, i6 hour, .slice (eI l), i6 many] (.bool (proveOrderP h hour l many)) := by
  intro H
  refine fn_of hmix fc59 (by simp) ?_
  rw [ienv4]
  simp only [go_sem, reduceIte, reduceCtorEq, Nat.reduceEqDiff, Nat.reduceBEq, Nat.reduceAdd, Nat.reduceMul, Nat.reduceLeDiff, ac59, eH]
  refine v_box _ rfl fun b2 hb2 => ?_
  have e1 := (Ext.refl H).new hb2 (.box [.slice (h.table.women.map eW), .slice (h.table.pieces.map eP), i6 h.table.wrong, .slice (eI h.sick), i6 h.others, i6 h.last, .slice (h.touches.map eTo), .slice (h.boiled.map eB), .slice (h.signs.map eS)])
  simp only [go_sem, reduceIte, reduceCtorEq, Nat.reduceEqDiff, Nat.reduceBEq, Nat.reduceAdd, Nat.reduceMul, Nat.reduceLeDiff]
  refine pgo_call (hour_c h hour) ?_
  cases d1 : hourOK h hour
  · simp only [go_sem, reduceIte, reduceCtorEq, Nat.reduceEqDiff, Nat.reduceBEq, Nat.reduceAdd, Nat.reduceMul, Nat.reduceLeDiff]
    refine pgo_call (askedH_c h hs hsk false) ?_
    have hne : ¬ askErrH h false = 0 := fun he => by have := ask_fine he; cases this
    simp only [go_sem, reduceIte, reduceCtorEq, Nat.reduceEqDiff, Nat.reduceBEq, Nat.reduceAdd, Nat.reduceMul, Nat.reduceLeDiff, askedR, hne, List.getElem?_cons_zero, List.getElem?_cons_succ]
    refine fin_ret 8 (by simp [upd_at]) ⟨_, H, Settle.refl e1, ?_, rfl⟩
    simp [upd_at, proveOrderP, d1, hne]
  simp only [go_sem, reduceIte, reduceCtorEq, Nat.reduceEqDiff, Nat.reduceBEq, Nat.reduceAdd, Nat.reduceMul, Nat.reduceLeDiff]
  refine pgo_here (fr' := ()) (r := .bool (l.all (thingOK h))) ?_ ?_
  · exact all_int l (thingOK h) 111 [eH h] [] hl _ (fun x _ H1 _ => thing_c h x H1)
  simp only [go_sem, reduceIte, reduceCtorEq, Nat.reduceEqDiff, Nat.reduceBEq, Nat.reduceAdd, Nat.reduceMul, Nat.reduceLeDiff]
  refine pgo_call (askedH_c h hs hsk (l.all (thingOK h))) ?_
  by_cases c1 : askErrH h (l.all (thingOK h)) = 0
  rotate_left
  · simp only [go_sem, reduceIte, reduceCtorEq, Nat.reduceEqDiff, Nat.reduceBEq, Nat.reduceAdd, Nat.reduceMul, Nat.reduceLeDiff, askedR, c1, List.getElem?_cons_zero, List.getElem?_cons_succ]
    refine fin_ret 8 (by simp [upd_at]) ⟨_, H, Settle.refl e1, ?_, rfl⟩
    simp [upd_at, proveOrderP, d1, c1]
  have hv := hv_ask hs hsk c1
  by_cases c2 : (l.length : Int) ≤ many
  rotate_left
  · simp only [go_sem, reduceIte, reduceCtorEq, Nat.reduceEqDiff, Nat.reduceBEq, Nat.reduceAdd, Nat.reduceMul, Nat.reduceLeDiff, askedR, c1, c2, List.getElem?_cons_zero, List.getElem?_cons_succ]
    refine fin_ret 8 (by simp [upd_at]) ⟨_, H, Settle.refl e1, ?_, rfl⟩
    simp [upd_at, proveOrderP, c2]
  simp only [go_sem, reduceIte, reduceCtorEq, Nat.reduceEqDiff, Nat.reduceBEq, Nat.reduceAdd, Nat.reduceMul, Nat.reduceLeDiff, askedR, c1, c2, List.getElem?_cons_zero, List.getElem?_cons_succ]
  refine (longest_c h hour).go ?_
  by_cases c3 : (l.length : Int) ≤ longestOf h hour
  rotate_left
  · simp only [go_sem, reduceIte, reduceCtorEq, Nat.reduceEqDiff, Nat.reduceBEq, Nat.reduceAdd, Nat.reduceMul, Nat.reduceLeDiff, c3, List.getElem?_cons_zero, List.getElem?_cons_succ]
    refine fin_ret 8 (by simp [upd_at]) ⟨_, H, Settle.refl e1, ?_, rfl⟩
    simp [upd_at, proveOrderP, c3]
  simp only [go_sem, reduceIte, reduceCtorEq, Nat.reduceEqDiff, Nat.reduceBEq, Nat.reduceAdd, Nat.reduceMul, Nat.reduceLeDiff, c3, List.getElem?_cons_zero, List.getElem?_cons_succ]
  refine (row_c l hour hl).go ?_
  simp only [go_sem, reduceIte, reduceCtorEq, Nat.reduceEqDiff, Nat.reduceBEq, Nat.reduceAdd, Nat.reduceMul, Nat.reduceLeDiff]
  refine (safe_c h hv (rowOf l hour) (by unfold Sm at *; simpa [rowOf] using hl)).go ?_
  simp only [go_sem, reduceIte, reduceCtorEq, Nat.reduceEqDiff, Nat.reduceBEq, Nat.reduceAdd, Nat.reduceMul, Nat.reduceLeDiff]
  refine fin_ret 8 (by simp [upd_at]) ⟨_, H, Settle.refl e1, ?_, rfl⟩
  simp [upd_at, proveOrderP, d1, c1, c2, c3]
end Go.Lift

set_option linter.unusedSimpArgs false
set_option linter.unusedVariables false
namespace Go.Lift
open Go Go.Proofs
/-- The number with these bits. -/
def natOf : List Bool → Nat
  | [] => 0
  | b :: c => 2 * natOf c + (if b = true then 1 else 0)
theorem natOf_bit : ∀ (c : List Bool) (i : Nat), (natOf c).testBit i = c.getD i false
  | [], i => by simp [natOf]
  | b :: c, 0 => by
    cases b <;> simp [natOf, Nat.testBit_zero] <;> omega
  | b :: c, i + 1 => by
    have h : (natOf (b :: c)) / 2 = natOf c := by cases b <;> simp [natOf] <;> omega
    rw [Nat.testBit_succ, h, natOf_bit c i]; rfl
theorem natOf_lt : ∀ (c : List Bool), natOf c < 2 ^ c.length
  | [] => by simp [natOf]
  | b :: c => by
    have := natOf_lt c
    rw [List.length_cons, Nat.pow_succ, natOf]
    cases b <;> simp <;> omega
/-- The bits of one number that another one has not. -/
def andN (a b : Nat) : Nat := a ^^^ (a &&& b)
theorem andN_bit (a b i : Nat) : (andN a b).testBit i = (a.testBit i && !b.testBit i) := by
  simp only [andN, Nat.testBit_xor, Nat.testBit_and]
  cases a.testBit i <;> cases b.testBit i <;> rfl
theorem bv_nat (a : Nat) : BitVec.ofInt IntKind.i64.bits (a : Int) = BitVec.ofNat 64 a := BitVec.ofInt_natCast 64 a
theorem w_or {a b : Nat} (ha : a < 2 ^ 62) (hb : b < 2 ^ 62) : IntKind.i64.wrap (((BitVec.ofInt IntKind.i64.bits (a : Int) ||| BitVec.ofInt IntKind.i64.bits (b : Int)).toNat : Nat) : Int) = ((a ||| b : Nat) : Int) := by
  have h1 : (BitVec.ofInt IntKind.i64.bits (a : Int) ||| BitVec.ofInt IntKind.i64.bits (b : Int)).toNat = a ||| b := by
    rw [bv_nat, bv_nat]
    show (BitVec.ofNat 64 a ||| BitVec.ofNat 64 b).toNat = _
    rw [BitVec.toNat_or, BitVec.toNat_ofNat, BitVec.toNat_ofNat, Nat.mod_eq_of_lt (by omega), Nat.mod_eq_of_lt (by omega)]
  have h2 := Nat.or_lt_two_pow ha hb
  rw [h1, w64 (by omega) (by omega)]
theorem w_andN {a b : Nat} (ha : a < 2 ^ 62) (hb : b < 2 ^ 62) : IntKind.i64.wrap (((BitVec.ofInt IntKind.i64.bits (a : Int) &&& ~~~ BitVec.ofInt IntKind.i64.bits (b : Int)).toNat : Nat) : Int) = ((andN a b : Nat) : Int) := by
  have h1 : (BitVec.ofInt IntKind.i64.bits (a : Int) &&& ~~~ BitVec.ofInt IntKind.i64.bits (b : Int)).toNat = andN a b := by
    rw [bv_nat, bv_nat]
    show (BitVec.ofNat 64 a &&& ~~~ BitVec.ofNat 64 b).toNat = _
    apply Nat.eq_of_testBit_eq
    intro i
    rw [andN_bit, BitVec.testBit_toNat, BitVec.getLsbD_and, BitVec.getLsbD_not, BitVec.getLsbD_ofNat, BitVec.getLsbD_ofNat]
    by_cases hi : i < 64
    · simp [hi]
    · have : a.testBit i = false := Nat.testBit_lt_two_pow (Nat.lt_of_lt_of_le ha (Nat.pow_le_pow_right (by omega) (by omega)))
      simp [hi, this]
  have h2 : andN a b < 2 ^ 62 := by
    apply Nat.lt_pow_two_of_testBit
    intro i hi
    rw [andN_bit, Nat.testBit_lt_two_pow (Nat.lt_of_lt_of_le ha (Nat.pow_le_pow_right (by omega) hi))]; rfl
  rw [h1, w64 (by omega) (by omega)]
theorem u64w {i : Nat} (h : i < 2 ^ 62) : IntKind.u64.wrap (i : Int) = (i : Int) := by
  simp only [IntKind.wrap, IntKind.signed, IntKind.bits]
  simp
  omega
theorem w_shl {a i : Nat} (hi : i ≤ 62) (h : a * 2 ^ i < 2 ^ 62) : IntKind.i64.wrap ((a : Int) * 2 ^ Nat.min i IntKind.i64.bits) = ((a * 2 ^ i : Nat) : Int) := by
  have h1 : Nat.min i IntKind.i64.bits = i := Nat.min_eq_left (by simp only [IntKind.bits]; omega)
  rw [h1]
  have h2 : ((a : Int) * 2 ^ i) = ((a * 2 ^ i : Nat) : Int) := by simp
  rw [h2, w64 (by omega) (by omega)]
theorem shr_nat {a i : Nat} (hi : i ≤ 64) : (a : Int).fdiv (2 ^ Nat.min i IntKind.i64.bits) = ((a / 2 ^ i : Nat) : Int) := by
  have h1 : Nat.min i IntKind.i64.bits = i := Nat.min_eq_left (by simp only [IntKind.bits]; omega)
  rw [h1]
  have h2 : (2 : Int) ^ i = ((2 ^ i : Nat) : Int) := by simp
  rw [h2, Int.fdiv_eq_ediv_of_nonneg _ (Int.natCast_nonneg _)]; rfl
/-- The numbers of a number's bits. -/
def bitsUpto (n p : Nat) : List Int := ((List.range p).filter n.testBit).map Int.ofNat
theorem bitsUpto_succ (n p : Nat) : bitsUpto n (p + 1) = bitsUpto n p ++ (if n.testBit p = true then [(p : Int)] else []) := by
  simp only [bitsUpto, List.range_succ, List.filter_append, List.map_append]
  congr 1
  cases h : n.testBit p <;> simp only [List.filter_cons, h, List.filter_nil] <;> simp
theorem bitsUpto_len (n p : Nat) : (bitsUpto n p).length ≤ p := by
  simp only [bitsUpto, List.length_map]
  exact Nat.le_trans (List.length_filter_le _ _) (by simp)
theorem bitsUpto_more (n : Nat) : ∀ (p k : Nat), n < 2 ^ p → bitsUpto n (p + k) = bitsUpto n p
  | p, 0, _ => rfl
  | p, k + 1, h => by
    rw [← Nat.add_assoc, bitsUpto_succ, bitsUpto_more n p k h, Nat.testBit_lt_two_pow (Nat.lt_of_lt_of_le h (Nat.pow_le_pow_right (by omega) (by omega)))]
    simp
def bitsL (n : Nat) : List Int := bitsUpto n 62
theorem bitsL_of {n p : Nat} (hp : p ≤ 62) (h : n < 2 ^ p) : bitsL n = bitsUpto n p := by
  have := bitsUpto_more n p (62 - p) h
  rw [show p + (62 - p) = 62 by omega] at this
  exact this
end Go.Lift

set_option linter.unusedSimpArgs false
set_option linter.unusedVariables false
namespace Go.Lift
open Go Go.Proofs
theorem bits_c (n : Nat) (hn : n < 2 ^ 62) : Pure Tryz.prog 51 [i6 n] (.slice (eI (bitsL n))) := by
  intro H
  refine fn_of hmix fc51 (by simp) ?_
  rw [ienv1]
  simp only [go_sem, reduceIte, reduceCtorEq, Nat.reduceEqDiff, Nat.reduceBEq, Nat.reduceAdd, Nat.reduceMul, Nat.reduceLeDiff, ac51]
  refine x_for 62 (fun p env H1 => Ext H H1 ∧ Grown 1 H H1 (env 3) (eI (bitsUpto n p)) ∧ env 0 = i6 n ∧ env 4 = i6 p ∧ env 23 = .any)
    ⟨Ext.refl H, .inl ⟨by simp [upd_at], rfl⟩, by simp [upd_at], by simp [upd_at], by simp [upd_at]⟩ ?_
  rintro p env H1 hp ⟨hE, hG, g0, g4, hN⟩
  have hu := u64w (show p < 2 ^ 62 by omega)
  have hs := shr_nat (a := n) (show p ≤ 64 by omega)
  have hbl := bitsUpto_len n p
  by_cases hlt : (0 : Int) < ((n / 2 ^ p : Nat) : Int)
  · have hp' : p < 62 := by
      rcases Nat.lt_or_ge p 62 with h | h
      · exact h
      · have : p = 62 := by omega
        subst this
        rw [Nat.div_eq_of_lt hn] at hlt; omega
    have hmod : (((n / 2 ^ p : Nat) : Int)).tmod 2 = ((n / 2 ^ p % 2 : Nat) : Int) := (Int.ofNat_tmod (n / 2 ^ p) 2).symm
    have hbit : n.testBit p = decide (n / 2 ^ p % 2 = 1) := Nat.testBit_eq_decide_div_mod_eq
    by_cases hb : n / 2 ^ p % 2 = 1
    · have hb' : ((n / 2 ^ p % 2 : Nat) : Int) = 1 := by omega
      simp only [↓aops_nil, ↓aops_go, ↓aops_go0, ↓aops_if, ↓k_cont, ↓k_cont0, g_tt, g_ff, g_tf, g_ft, g_u, ↓apre_nil, ↓apre_if, ↓apre_go, pgo_det, Tag.isCall, popt_some, gp_tt, gp_ff, gp_tf, gp_ft, gp_u, ↓k_draw, opt_some, List.map_cons, List.map_nil, ev, upd_at, ↓x_skip, ↓x_label, ↓x_ret, ↓x_exit, ↓x_seq, ↓x_block, ↓x_ops, ↓x_cond, x_sel_t, x_sel_f, ↓x_draw, ↓q_kseq_n, ↓q_kseq_r, ↓q_kseq_e, ↓q_block_n, ↓q_block_r, ↓q_block_e, ↓q_loop_n, ↓q_loop_r, ↓q_loop_e, ↓l_done, d_mov, d_pick, d_not, d_nilchk, d_nilchk', d_conv, d_add, d_sub, d_mul, d_quo, d_rem, d_shl, d_shr, d_and, d_or, d_andnot, d_eql, d_neq, d_lss, d_leq, d_gtr, d_geq, d_eqb, d_neqb, d_mkfunc, d_load, d_fieldaddr, d_fieldaddr', d_field_t, d_field_f, d_idxaddr, d_idxaddr_g, elemO_some, d_idxaddr_m, d_arraddr, d_arraddr', d_idx_f, d_sub_s, d_sub_g, d_arrsub, d_arrall, d_extract, d_len, d_len_g, d_len_e, d_len_m, d_min, d_build, d_bslice0, d_bs1, d_bs2, d_bsa, d_eqagg, v_mov, v_pick, v_not, v_nilchk, v_conv, v_bin, v_binb, v_eqagg, v_mkfunc, v_load, v_fieldaddr, v_field, v_idxaddr, v_arraddr, v_idx, v_sub, v_arrsub, v_arrall, v_extract, v_len, v_min, v_build, v_bslice, v_lookup, v_call, v_callv, Nat.reduceEqDiff, Nat.reduceBEq, reduceIte, ite_true, ite_false, Bool.false_eq_true, Bool.true_eq_false, if_true, if_false, decide_eq_true_eq, decide_eq_false_iff_not, decide_true, decide_false, Nat.zero_add, Nat.add_zero, Nat.reduceAdd, reduceCtorEq, eq_self, not_true_eq_false, not_false_eq_true, Bool.not_true, Bool.not_false, Nat.reduceMul, List.length_cons, List.length_nil, at_elem, take_f, take_tt, Int.toNat_natCast, Option.some.injEq, Option.bind_some, Int.natCast_nonneg, true_and, and_true, and_self, ↓q_for_n, ↓q_for_r, ↓q_for_e, eI_len, List.length_map, at_obj, obj_box, updH_same, Nat.reduceLeDiff, Nat.zero_le, Nat.le_refl, List.drop_zero, List.drop_succ_cons, List.take_succ_cons, List.take_zero, c_agg, c_int, c_bool, c_slice, c_emp, c_grow, g0, g4, hN, hu, hs, hlt, hmod, hb', show ¬ ((p : Int) < 0) by omega, show ¬ ((2 : Int) = 0) by omega]
      refine v_append hG hE rfl (eI_good _) (one_good _) (one_cell _) (by simp; omega) (by simp; omega) ?_
      intro v' H2 hg' he' hk'
      simp only [go_sem, reduceIte, reduceCtorEq, Nat.reduceEqDiff, Nat.reduceBEq, Nat.reduceAdd, Nat.reduceMul, Nat.reduceLeDiff, g0, g4, hN, wsucc (show p < 4611686018427387904 by omega), hp']
      refine ⟨he', ?_⟩
      rw [bitsUpto_succ, hbit, if_pos (by simp [hb]), eI_app]; exact hg'
    · have hb' : ¬ ((n / 2 ^ p % 2 : Nat) : Int) = 1 := by omega
      simp only [↓aops_nil, ↓aops_go, ↓aops_go0, ↓aops_if, ↓k_cont, ↓k_cont0, g_tt, g_ff, g_tf, g_ft, g_u, ↓apre_nil, ↓apre_if, ↓apre_go, pgo_det, Tag.isCall, popt_some, gp_tt, gp_ff, gp_tf, gp_ft, gp_u, ↓k_draw, opt_some, List.map_cons, List.map_nil, ev, upd_at, ↓x_skip, ↓x_label, ↓x_ret, ↓x_exit, ↓x_seq, ↓x_block, ↓x_ops, ↓x_cond, x_sel_t, x_sel_f, ↓x_draw, ↓q_kseq_n, ↓q_kseq_r, ↓q_kseq_e, ↓q_block_n, ↓q_block_r, ↓q_block_e, ↓q_loop_n, ↓q_loop_r, ↓q_loop_e, ↓l_done, d_mov, d_pick, d_not, d_nilchk, d_nilchk', d_conv, d_add, d_sub, d_mul, d_quo, d_rem, d_shl, d_shr, d_and, d_or, d_andnot, d_eql, d_neq, d_lss, d_leq, d_gtr, d_geq, d_eqb, d_neqb, d_mkfunc, d_load, d_fieldaddr, d_fieldaddr', d_field_t, d_field_f, d_idxaddr, d_idxaddr_g, elemO_some, d_idxaddr_m, d_arraddr, d_arraddr', d_idx_f, d_sub_s, d_sub_g, d_arrsub, d_arrall, d_extract, d_len, d_len_g, d_len_e, d_len_m, d_min, d_build, d_bslice0, d_bs1, d_bs2, d_bsa, d_eqagg, v_mov, v_pick, v_not, v_nilchk, v_conv, v_bin, v_binb, v_eqagg, v_mkfunc, v_load, v_fieldaddr, v_field, v_idxaddr, v_arraddr, v_idx, v_sub, v_arrsub, v_arrall, v_extract, v_len, v_min, v_build, v_bslice, v_lookup, v_call, v_callv, Nat.reduceEqDiff, Nat.reduceBEq, reduceIte, ite_true, ite_false, Bool.false_eq_true, Bool.true_eq_false, if_true, if_false, decide_eq_true_eq, decide_eq_false_iff_not, decide_true, decide_false, Nat.zero_add, Nat.add_zero, Nat.reduceAdd, reduceCtorEq, eq_self, not_true_eq_false, not_false_eq_true, Bool.not_true, Bool.not_false, Nat.reduceMul, List.length_cons, List.length_nil, at_elem, take_f, take_tt, Int.toNat_natCast, Option.some.injEq, Option.bind_some, Int.natCast_nonneg, true_and, and_true, and_self, ↓q_for_n, ↓q_for_r, ↓q_for_e, eI_len, List.length_map, at_obj, obj_box, updH_same, Nat.reduceLeDiff, Nat.zero_le, Nat.le_refl, List.drop_zero, List.drop_succ_cons, List.take_succ_cons, List.take_zero, c_agg, c_int, c_bool, c_slice, c_emp, c_grow, g0, g4, hN, hu, hs, hlt, hmod, hb', show ¬ ((p : Int) < 0) by omega, show ¬ ((2 : Int) = 0) by omega, wsucc (show p < 4611686018427387904 by omega), hp']
      refine ⟨hE, ?_⟩
      rw [bitsUpto_succ, hbit, if_neg (by simp [hb]), List.append_nil]; exact hG
  · simp only [↓aops_nil, ↓aops_go, ↓aops_go0, ↓aops_if, ↓k_cont, ↓k_cont0, g_tt, g_ff, g_tf, g_ft, g_u, ↓apre_nil, ↓apre_if, ↓apre_go, pgo_det, Tag.isCall, popt_some, gp_tt, gp_ff, gp_tf, gp_ft, gp_u, ↓k_draw, opt_some, List.map_cons, List.map_nil, ev, upd_at, ↓x_skip, ↓x_label, ↓x_ret, ↓x_exit, ↓x_seq, ↓x_block, ↓x_ops, ↓x_cond, x_sel_t, x_sel_f, ↓x_draw, ↓q_kseq_n, ↓q_kseq_r, ↓q_kseq_e, ↓q_block_n, ↓q_block_r, ↓q_block_e, ↓q_loop_n, ↓q_loop_r, ↓q_loop_e, ↓l_done, d_mov, d_pick, d_not, d_nilchk, d_nilchk', d_conv, d_add, d_sub, d_mul, d_quo, d_rem, d_shl, d_shr, d_and, d_or, d_andnot, d_eql, d_neq, d_lss, d_leq, d_gtr, d_geq, d_eqb, d_neqb, d_mkfunc, d_load, d_fieldaddr, d_fieldaddr', d_field_t, d_field_f, d_idxaddr, d_idxaddr_g, elemO_some, d_idxaddr_m, d_arraddr, d_arraddr', d_idx_f, d_sub_s, d_sub_g, d_arrsub, d_arrall, d_extract, d_len, d_len_g, d_len_e, d_len_m, d_min, d_build, d_bslice0, d_bs1, d_bs2, d_bsa, d_eqagg, v_mov, v_pick, v_not, v_nilchk, v_conv, v_bin, v_binb, v_eqagg, v_mkfunc, v_load, v_fieldaddr, v_field, v_idxaddr, v_arraddr, v_idx, v_sub, v_arrsub, v_arrall, v_extract, v_len, v_min, v_build, v_bslice, v_lookup, v_call, v_callv, Nat.reduceEqDiff, Nat.reduceBEq, reduceIte, ite_true, ite_false, Bool.false_eq_true, Bool.true_eq_false, if_true, if_false, decide_eq_true_eq, decide_eq_false_iff_not, decide_true, decide_false, Nat.zero_add, Nat.add_zero, Nat.reduceAdd, reduceCtorEq, eq_self, not_true_eq_false, not_false_eq_true, Bool.not_true, Bool.not_false, Nat.reduceMul, List.length_cons, List.length_nil, at_elem, take_f, take_tt, Int.toNat_natCast, Option.some.injEq, Option.bind_some, Int.natCast_nonneg, true_and, and_true, and_self, ↓q_for_n, ↓q_for_r, ↓q_for_e, eI_len, List.length_map, at_obj, obj_box, updH_same, Nat.reduceLeDiff, Nat.zero_le, Nat.le_refl, List.drop_zero, List.drop_succ_cons, List.take_succ_cons, List.take_zero, c_agg, c_int, c_bool, c_slice, c_emp, c_grow, g0, g4, hN, hu, hs, hlt, show ¬ ((p : Int) < 0) by omega]
    refine fin_ret 2 (by simp [upd_at, hN]) ⟨_, H, ?_, rfl, rfl⟩
    simp only [upd_at, if_true]
    have hz : n / 2 ^ p = 0 := by generalize n / 2 ^ p = q at hlt; omega
    have hlt2 : n < 2 ^ p := by
      rcases Nat.div_eq_zero_iff.1 hz with h | h
      · exact absurd h (by have := Nat.two_pow_pos p; omega)
      · exact h
    rw [bitsL_of hp hlt2]
    exact hG.weaken hE
end Go.Lift

set_option linter.unusedSimpArgs false
set_option linter.unusedVariables false
namespace Go.Lift
open Go Go.Proofs
def ofAt (t : Table) (i : Nat) : List Int := womenOf t.women (t.pieces.getD i default).marks
theorem womenR_c (t : Table) (hs : TSm t) (i : Nat) (hi : i < t.pieces.length) : Pure Tryz.prog 132 [eT t, i6 i] (.slice (eI (ofAt t i))) := by
  intro H
  have h1 := hs.women
  unfold Sm at h1
  have hget : t.pieces.getD i default = t.pieces[i] := by simp [hi]
  rw [ofAt, hget]
  refine fn_of hmix fc132 (by simp) ?_
  rw [ienv2]
  simp only [go_sem, reduceIte, reduceCtorEq, Nat.reduceEqDiff, Nat.reduceBEq, Nat.reduceAdd, Nat.reduceMul, Nat.reduceLeDiff, ac132, eT]
  refine v_box _ rfl fun b1 hb1 => ?_
  simp only [go_sem, reduceIte, reduceCtorEq, Nat.reduceEqDiff, Nat.reduceBEq, Nat.reduceAdd, Nat.reduceMul, Nat.reduceLeDiff]
  refine x_for t.women.length (fun j env H1 => Ext H H1 ∧ H1 b1 = some (.box [.slice (t.women.map eW), .slice (t.pieces.map eP), i6 t.wrong]) ∧ Grown 1 H H1 (env 5) (eI (womenUpto t.women t.pieces[i].marks j)) ∧ env 1 = i6 i ∧ env 2 = .ptr b1 0 ∧ env 6 = i6 j ∧ env 32 = .any)
    ⟨(Ext.refl H).new hb1 _, updH_same _ _ _, .inl ⟨by simp [upd_at], rfl⟩, by simp [upd_at], by simp [upd_at], by simp [upd_at], by simp [upd_at]⟩ ?_
  rintro j env H1 hj ⟨hE, hB, hG, g1, g2, g6, hN⟩
  have hwl := womenUpto_len t.women t.pieces[i].marks j
  by_cases hlt : (j : Int) < (t.women.length : Int)
  · have hlt' : j < t.women.length := by omega
    have hgw : t.women.getD j default = t.women[j] := by simp [hlt']
    simp only [go_sem, reduceIte, reduceCtorEq, Nat.reduceEqDiff, Nat.reduceBEq, Nat.reduceAdd, Nat.reduceMul, Nat.reduceLeDiff, g1, g2, g6, hN, hB, hlt, map_get (f := eW) hlt', map_get (f := eP) hi, eW, eP, take_f', List.getElem?_cons_zero]
    refine pgo_call (has_c t.pieces[i].marks t.women[j].mark (hs.marks _ (List.getElem_mem _))) ?_
    by_cases hin : t.women[j].mark ∈ t.pieces[i].marks
    · simp only [go_sem, reduceIte, reduceCtorEq, Nat.reduceEqDiff, Nat.reduceBEq, Nat.reduceAdd, Nat.reduceMul, Nat.reduceLeDiff, hin, g1, g2, g6, hN]
      refine v_append hG hE rfl (eI_good _) (one_good _) (one_cell _) (by simp; omega) (by simp; omega) ?_
      intro v' H2 hg' he' hk'
      simp only [go_sem, reduceIte, reduceCtorEq, Nat.reduceEqDiff, Nat.reduceBEq, Nat.reduceAdd, Nat.reduceMul, Nat.reduceLeDiff, g1, g2, g6, hN, wsucc (show j < 4611686018427387904 by omega), hlt']
      refine ⟨he', hk'.box hG hB, ?_⟩
      rw [womenUpto_succ, hgw, if_pos hin, eI_app]; exact hg'
    · simp only [go_sem, reduceIte, reduceCtorEq, Nat.reduceEqDiff, Nat.reduceBEq, Nat.reduceAdd, Nat.reduceMul, Nat.reduceLeDiff, hin, g1, g2, g6, hN, wsucc (show j < 4611686018427387904 by omega), hlt']
      refine ⟨hE, hB, ?_⟩
      rw [womenUpto_succ, hgw, if_neg hin, List.append_nil]; exact hG
  · simp only [go_sem, reduceIte, reduceCtorEq, Nat.reduceEqDiff, Nat.reduceBEq, Nat.reduceAdd, Nat.reduceMul, Nat.reduceLeDiff, g1, g2, g6, hN, hB, hlt, take_f', List.getElem?_cons_zero]
    have : j = t.women.length := by omega
    subst this
    refine fin_ret 4 (by simp [upd_at, hN]) ⟨_, H, ?_, rfl, rfl⟩
    simp only [upd_at, if_true]
    exact hG.weaken hE
theorem capmin (cap a b : Nat) : (if ((min cap a : Nat) : Int) * (b : Int) < (cap : Int) then ((min cap a : Nat) : Int) * (b : Int) else (cap : Int)) = ((min cap (a * b) : Nat) : Int) := by
  have h0 : ((min cap a : Nat) : Int) * (b : Int) = ((min cap a * b : Nat) : Int) := by simp
  rw [h0]
  have h1 : min cap a * b ≤ a * b := Nat.mul_le_mul_right b (Nat.min_le_right cap a)
  rcases Nat.lt_or_ge cap a with h | h
  · rw [Nat.min_eq_left (by omega)] at *
    rcases Nat.eq_zero_or_pos b with rfl | hb
    · simp
    · have h2 : cap ≤ cap * b := Nat.le_mul_of_pos_right cap hb
      have h3 : cap ≤ a * b := by omega
      rw [Nat.min_eq_left h3]
      split <;> omega
  · rw [Nat.min_eq_right h] at *
    split <;> omega
def manyR (t : Table) (j : Nat) : Nat := min 3000 (prodL (womN t) 0 j)
theorem manyR_c (t : Table) (hs : TSm t) : Pure Tryz.prog 98 [eT t] (i6 (manyR t t.pieces.length)) := by
  intro H
  have h1 := hs.women
  have h2 := hs.pieces
  unfold Sm at h1 h2
  refine fn_of hmix fc98 (by simp) ?_
  rw [ienv1]
  simp only [go_sem, reduceIte, reduceCtorEq, Nat.reduceEqDiff, Nat.reduceBEq, Nat.reduceAdd, Nat.reduceMul, Nat.reduceLeDiff, ac98, eT]
  refine v_box _ rfl fun b1 hb1 => ?_
  simp only [go_sem, reduceIte, reduceCtorEq, Nat.reduceEqDiff, Nat.reduceBEq, Nat.reduceAdd, Nat.reduceMul, Nat.reduceLeDiff]
  refine x_for t.pieces.length (fun j env H1 => Ext H H1 ∧ H1 b1 = some (.box [.slice (t.women.map eW), .slice (t.pieces.map eP), i6 t.wrong]) ∧ env 1 = .ptr b1 0 ∧ env 3 = i6 (manyR t j) ∧ env 4 = i6 j ∧ env 20 = .any)
    ⟨(Ext.refl H).new hb1 _, updH_same _ _ _, by simp [upd_at], by simp [upd_at, manyR, prodL], by simp [upd_at], by simp [upd_at]⟩ ?_
  rintro j env H1 hj ⟨hE, hB, g1, g3, g4, hN⟩
  by_cases hlt : (j : Int) < (t.pieces.length : Int)
  · have hlt' : j < t.pieces.length := by omega
    simp only [go_sem, reduceIte, reduceCtorEq, Nat.reduceEqDiff, Nat.reduceBEq, Nat.reduceAdd, Nat.reduceMul, Nat.reduceLeDiff, g1, g3, g4, hN, hB, hlt, take_f', List.getElem?_cons_zero]
    refine (womenR_c t hs j hlt').go ?_
    have hwl := womenUpto_len t.women (t.pieces.getD j default).marks t.women.length
    have hmr : manyR t j ≤ 3000 := Nat.min_le_left _ _
    have hlen : (ofAt t j).length = womN t j := rfl
    have hwn : womN t j ≤ t.women.length := hwl
    have hmul : manyR t j * womN t j ≤ 3000 * 2147483648 := Nat.mul_le_mul hmr (by omega)
    have hcast : ((manyR t j : Nat) : Int) * ((womN t j : Nat) : Int) = ((manyR t j * womN t j : Nat) : Int) := by simp
    have hw : IntKind.i64.wrap (((manyR t j : Nat) : Int) * ((womN t j : Nat) : Int)) = ((manyR t j : Nat) : Int) * ((womN t j : Nat) : Int) := by
      rw [hcast]; exact w64 (by omega) (by omega)
    have hcap : (if ((manyR t j : Nat) : Int) * ((womN t j : Nat) : Int) < 3000 then ((manyR t j : Nat) : Int) * ((womN t j : Nat) : Int) else 3000) = ((manyR t (j + 1) : Nat) : Int) := by
      rw [show manyR t (j + 1) = min 3000 (prodL (womN t) 0 j * womN t j) by rw [manyR, prodL_snoc, Nat.zero_add]]
      exact capmin 3000 (prodL (womN t) 0 j) (womN t j)
    simp only [go_sem, reduceIte, reduceCtorEq, Nat.reduceEqDiff, Nat.reduceBEq, Nat.reduceAdd, Nat.reduceMul, Nat.reduceLeDiff, g1, g3, g4, hN, hlen, hw, hcap, wsucc (show j < 4611686018427387904 by omega), hlt', hB]
    exact hE
  · simp only [go_sem, reduceIte, reduceCtorEq, Nat.reduceEqDiff, Nat.reduceBEq, Nat.reduceAdd, Nat.reduceMul, Nat.reduceLeDiff, g1, g3, g4, hN, hB, hlt, take_f', List.getElem?_cons_zero]
    have : j = t.pieces.length := by omega
    subst this
    refine fin_ret 2 (by simp [upd_at, hN]) ⟨_, H, Settle.refl hE, ?_, rfl⟩
    simp [upd_at]
theorem capless (a b : Nat) : (if (2001 : Int) < ((min 2001 a : Nat) : Int) * (b : Int) then 2001 else ((min 2001 a : Nat) : Int) * (b : Int)) = ((min 2001 (a * b) : Nat) : Int) := by
  have := capmin 2001 a b
  rw [← this]
  have e : ((2001 : Nat) : Int) = 2001 := rfl
  rw [e]
  split <;> split <;> omega
theorem manyUpto_min (t : Table) : ∀ j, manyUpto t j = ((min 2001 (prodL (womN t) 0 j) : Nat) : Int)
  | 0 => by simp [manyUpto, prodL]
  | j + 1 => by
    rw [manyUpto, manyUpto_min t j, prodL_snoc, Nat.zero_add]
    exact capless _ _
def isTruthR (t : Table) (l : List Int) : Bool := ownersOK t l && decide (((wrongOf t (pad7 l)).length : Int) ≤ t.wrong)
theorem ownersR_c (t : Table) (hs : TSm t) (l : List Int) (hl : Sm l.length) : Pure Tryz.prog 148 [eT t, .slice (eI l)] (.bool (ownersOK t l)) := by
  intro H
  have h2 := hs.pieces
  unfold Sm at h2 hl
  refine fn_of hmix fc148 (by simp) ?_
  rw [ienv2]
  simp only [go_sem, reduceIte, reduceCtorEq, Nat.reduceEqDiff, Nat.reduceBEq, Nat.reduceAdd, Nat.reduceMul, Nat.reduceLeDiff, ac148, eT]
  refine v_box _ rfl fun b1 hb1 => ?_
  simp only [go_sem, reduceIte, reduceCtorEq, Nat.reduceEqDiff, Nat.reduceBEq, Nat.reduceAdd, Nat.reduceMul, Nat.reduceLeDiff]
  have e1 := (Ext.refl H).new hb1 (.box [.slice (t.women.map eW), .slice (t.pieces.map eP), i6 t.wrong])
  by_cases c1 : (l.length : Int) = (t.pieces.length : Int)
  rotate_left
  · simp only [go_sem, reduceIte, reduceCtorEq, Nat.reduceEqDiff, Nat.reduceBEq, Nat.reduceAdd, Nat.reduceMul, Nat.reduceLeDiff, c1]
    refine fin_ret 4 (by simp [upd_at]) ⟨_, H, Settle.refl e1, ?_, rfl⟩
    simp [upd_at, ownersOK, show ¬ l.length = t.pieces.length by omega]
  have c1' : l.length = t.pieces.length := by omega
  have d1 : decide ((l.length : Int) = (t.pieces.length : Int)) = true := decide_eq_true c1
  simp only [go_sem, reduceIte, reduceCtorEq, Nat.reduceEqDiff, Nat.reduceBEq, Nat.reduceAdd, Nat.reduceMul, Nat.reduceLeDiff, d1]
  refine x_for l.length (fun j env H1 => Ext H H1 ∧ H1 b1 = some (.box [.slice (t.women.map eW), .slice (t.pieces.map eP), i6 t.wrong]) ∧ env 1 = .slice (eI l) ∧ env 2 = .ptr b1 0 ∧ env 5 = i6 j ∧ env 27 = .any ∧ ∀ i, i < j → l.getD i 0 ∈ ofAt t i)
    ⟨e1, updH_same _ _ _, by simp [upd_at], by simp [upd_at], by simp [upd_at], by simp [upd_at], by simp⟩ ?_
  rintro j env H1 hj ⟨hE, hB, g1, g2, g5, hN, hq⟩
  by_cases hlt : (j : Int) < (l.length : Int)
  · have hlt' : j < l.length := by omega
    have hgl : l.getD j 0 = l[j] := by simp [hlt']
    have hwl := womenUpto_len t.women (t.pieces.getD j default).marks t.women.length
    have h1 := hs.women
    unfold Sm at h1
    simp only [go_sem, reduceIte, reduceCtorEq, Nat.reduceEqDiff, Nat.reduceBEq, Nat.reduceAdd, Nat.reduceMul, Nat.reduceLeDiff, g1, g2, g5, hN, hlt, hB]
    refine pgo_call (womenR_c t hs j (by omega)) ?_
    simp only [go_sem, reduceIte, reduceCtorEq, Nat.reduceEqDiff, Nat.reduceBEq, Nat.reduceAdd, Nat.reduceMul, Nat.reduceLeDiff, g1, g2, g5, hN, eI_get hlt', take_f', List.getElem?_cons_zero]
    refine pgo_call (has_c (ofAt t j) l[j] (by unfold Sm; rw [show (ofAt t j).length = (womenUpto t.women (t.pieces.getD j default).marks t.women.length).length from rfl]; omega)) ?_
    by_cases hin : l[j] ∈ ofAt t j
    · simp only [go_sem, reduceIte, reduceCtorEq, Nat.reduceEqDiff, Nat.reduceBEq, Nat.reduceAdd, Nat.reduceMul, Nat.reduceLeDiff, hin, g1, g2, g5, hN, wsucc (show j < 4611686018427387904 by omega), hlt']
      refine ⟨hE, hB, fun i hi => ?_⟩
      rcases Nat.lt_or_ge i j with h | h
      · exact hq i h
      · have : i = j := by omega
        subst this; rw [hgl]; exact hin
    · simp only [go_sem, reduceIte, reduceCtorEq, Nat.reduceEqDiff, Nat.reduceBEq, Nat.reduceAdd, Nat.reduceMul, Nat.reduceLeDiff, hin, hN]
      refine fin_ret 4 (by simp [upd_at, hN]) ⟨_, H, Settle.refl hE, ?_, rfl⟩
      have : ownersOK t l = false := by
        simp only [ownersOK, Bool.and_eq_false_iff, List.all_eq_false]
        exact .inr ⟨j, by simp [hlt'], by rw [hgl, show womenOf t.women (t.pieces.getD j default).marks = ofAt t j from rfl, decide_eq_false hin]; simp⟩
      simp [upd_at, this]
  · simp only [go_sem, reduceIte, reduceCtorEq, Nat.reduceEqDiff, Nat.reduceBEq, Nat.reduceAdd, Nat.reduceMul, Nat.reduceLeDiff, g1, g2, g5, hN, hlt]
    have : j = l.length := by omega
    subst this
    refine fin_ret 4 (by simp [upd_at, hN]) ⟨_, H, Settle.refl hE, ?_, rfl⟩
    have : ownersOK t l = true := by
      simp only [ownersOK, Bool.and_eq_true, decide_eq_true_eq, List.all_eq_true, List.mem_range]
      exact ⟨c1', hq⟩
    simp [upd_at, this]
theorem ownR_c (l : List Int) (w : Int) (hl : Sm l.length) : Pure Tryz.prog 175 [.slice (eI l), i6 w] (i6 (l.count w : Nat)) := by
  intro H
  unfold Sm at hl
  refine fn_of hmix fc175 (by simp) ?_
  rw [ienv2]
  simp only [go_sem, reduceIte, reduceCtorEq, Nat.reduceEqDiff, Nat.reduceBEq, Nat.reduceAdd, Nat.reduceMul, Nat.reduceLeDiff, ac175]
  refine x_for l.length (fun j env H1 => H1 = H ∧ env 0 = .slice (eI l) ∧ env 1 = i6 w ∧ env 5 = i6 ((l.take j).count w : Nat) ∧ env 6 = i6 j ∧ env 22 = .any) (by simp [upd_at]) ?_
  rintro j env H1 hj ⟨rfl, g0, g1, g5, g6, hN⟩
  by_cases hlt : (j : Int) < (l.length : Int)
  · have hlt' : j < l.length := by omega
    have hcl : (l.take j).count w ≤ j := Nat.le_trans List.count_le_length (by simp; omega)
    by_cases he : l[j] = w
    · simp only [go_sem, reduceIte, reduceCtorEq, Nat.reduceEqDiff, Nat.reduceBEq, Nat.reduceAdd, Nat.reduceMul, Nat.reduceLeDiff, g0, g1, g5, g6, hN, hlt, eI_get hlt', he, wsucc (show j < 4611686018427387904 by omega), wsucc (show (l.take j).count w < 4611686018427387904 by omega), hlt']
      rw [take_snoc hlt', List.count_append, he]; simp
    · simp only [go_sem, reduceIte, reduceCtorEq, Nat.reduceEqDiff, Nat.reduceBEq, Nat.reduceAdd, Nat.reduceMul, Nat.reduceLeDiff, g0, g1, g5, g6, hN, hlt, eI_get hlt', he, wsucc (show j < 4611686018427387904 by omega), hlt']
      rw [take_snoc hlt', List.count_append, List.count_singleton]; simp [he]
  · simp only [go_sem, reduceIte, reduceCtorEq, Nat.reduceEqDiff, Nat.reduceBEq, Nat.reduceAdd, Nat.reduceMul, Nat.reduceLeDiff, g0, g1, g5, g6, hN, hlt]
    have : j = l.length := by omega
    subst this
    refine fin_ret' 4 (by simp [upd_at, hN]) ?_
    simp only [upd_at, if_true, and_true]
    rw [List.take_length] at g5
    simp [g5]
end Go.Lift

set_option linter.unusedSimpArgs false
set_option linter.unusedVariables false
namespace Go.Lift
open Go Go.Proofs
theorem faultT_c (t : Table) (hs : TSm t) : Pure Tryz.prog 95 [eT t] (i6 (checkTable t)) := by
  intro H
  have h1 := hs.women
  have h2 := hs.pieces
  unfold Sm at h1 h2
  refine fn_of hmix fc95 (by simp) ?_
  rw [ienv1]
  simp only [go_sem, reduceIte, reduceCtorEq, Nat.reduceEqDiff, Nat.reduceBEq, Nat.reduceAdd, Nat.reduceMul, Nat.reduceLeDiff, ac95, eT]
  refine v_box _ rfl fun b1 hb1 => ?_
  have e1 := (Ext.refl H).new hb1 (.box [.slice (t.women.map eW), .slice (t.pieces.map eP), i6 t.wrong])
  by_cases c1 : 5 < (t.women.length : Int)
  · simp only [go_sem, reduceIte, reduceCtorEq, Nat.reduceEqDiff, Nat.reduceBEq, Nat.reduceAdd, Nat.reduceMul, Nat.reduceLeDiff, c1]
    refine fin_ret 2 (by simp [upd_at]) ⟨_, H, Settle.refl e1, ?_, rfl⟩
    simp [upd_at, checkTable, c1]
  by_cases c2 : 7 < (t.pieces.length : Int)
  · simp only [go_sem, reduceIte, reduceCtorEq, Nat.reduceEqDiff, Nat.reduceBEq, Nat.reduceAdd, Nat.reduceMul, Nat.reduceLeDiff, c1, c2]
    refine fin_ret 2 (by simp [upd_at]) ⟨_, H, Settle.refl e1, ?_, rfl⟩
    simp [upd_at, checkTable, c2]
  simp only [go_sem, reduceIte, reduceCtorEq, Nat.reduceEqDiff, Nat.reduceBEq, Nat.reduceAdd, Nat.reduceMul, Nat.reduceLeDiff, c1, c2, take_f', List.getElem?_cons_zero, List.drop_succ_cons]
  refine (in_c t.wrong 0 5).go ?_
  by_cases c3 : 0 ≤ t.wrong ∧ t.wrong ≤ 5
  rotate_left
  · simp only [go_sem, reduceIte, reduceCtorEq, Nat.reduceEqDiff, Nat.reduceBEq, Nat.reduceAdd, Nat.reduceMul, Nat.reduceLeDiff, c3]
    refine fin_ret 2 (by simp [upd_at]) ⟨_, H, Settle.refl e1, ?_, rfl⟩
    simp [upd_at, checkTable, c1, c2, c3]
  simp only [go_sem, reduceIte, reduceCtorEq, Nat.reduceEqDiff, Nat.reduceBEq, Nat.reduceAdd, Nat.reduceMul, Nat.reduceLeDiff, c3]
  refine x_for t.women.length (fun j env H1 => Ext H H1 ∧ H1 b1 = some (.box [.slice (t.women.map eW), .slice (t.pieces.map eP), i6 t.wrong]) ∧ env 1 = .ptr b1 0 ∧ env 3 = i6 j ∧ env 121 = .any ∧ ∀ i, i < j → womanOK (t.women.getD i default) = true)
    ⟨e1, updH_same _ _ _, by simp [upd_at], by simp [upd_at], by simp [upd_at], by simp⟩ ?_
  rintro j env H1 hj ⟨hE, hB, g1, g3, hN, hq⟩
  by_cases hlt : (j : Int) < (t.women.length : Int)
  · have hlt' : j < t.women.length := by omega
    have hget : t.women.getD j default = t.women[j] := by simp [hlt']
    have hbad : womanOK t.women[j] = false → checkTable t = 1 := fun hw => by
      have : t.women.all womanOK = false := List.all_eq_false.2 ⟨_, List.getElem_mem hlt', by simp [hw]⟩
      simp [checkTable, c1, c2, this]
    simp only [go_sem, reduceIte, reduceCtorEq, Nat.reduceEqDiff, Nat.reduceBEq, Nat.reduceAdd, Nat.reduceMul, Nat.reduceLeDiff, g1, g3, hN, hlt, hB, take_f', List.getElem?_cons_zero, map_get (f := eW) hlt', eW]
    refine v_alloc fun b4 hb4 => ?_
    have n14 : b1 ≠ b4 := fun h => by subst h; rw [hB] at hb4; cases hb4
    simp only [go_sem, reduceIte, reduceCtorEq, Nat.reduceEqDiff, Nat.reduceBEq, Nat.reduceAdd, Nat.reduceMul, Nat.reduceLeDiff, g1, g3, hN]
    rw [v_store]
    refine ⟨rfl, rfl, by simp [AV.cells, AV.isCell], _, updH_same _ _ _, by simp, ?_⟩
    have hE4 : ∀ o1 o2, Ext H (updH (updH H1 b4 o1) b4 o2) := fun o1 o2 => (hE.new hb4 _).upd (hE.isNone hb4) _
    simp only [go_sem, reduceIte, reduceCtorEq, Nat.reduceEqDiff, Nat.reduceBEq, Nat.reduceAdd, Nat.reduceMul, Nat.reduceLeDiff, g1, g3, hN, placeAt, List.append_nil, List.nil_append, List.drop_nil, take_f', List.getElem?_cons_zero]
    refine (in_c _ 0 9).go ?_
    by_cases d1 : 0 ≤ t.women[j].mark ∧ t.women[j].mark ≤ 9
    rotate_left
    · simp only [go_sem, reduceIte, reduceCtorEq, Nat.reduceEqDiff, Nat.reduceBEq, Nat.reduceAdd, Nat.reduceMul, Nat.reduceLeDiff, d1, hN]
      refine fin_ret 2 (by simp [upd_at, hN]) ⟨_, H, Settle.refl (hE4 _ _), ?_, rfl⟩
      rw [hbad (by simp only [womanOK, decide_eq_false_iff_not]; intro h; exact d1 ⟨h.1, h.2.1⟩)]; simp [upd_at]
    by_cases d2 : t.women[j].lo < 0
    · simp only [go_sem, reduceIte, reduceCtorEq, Nat.reduceEqDiff, Nat.reduceBEq, Nat.reduceAdd, Nat.reduceMul, Nat.reduceLeDiff, d1, d2, hN, take_f', List.getElem?_cons_zero]
      refine fin_ret 2 (by simp [upd_at, hN]) ⟨_, H, Settle.refl (hE4 _ _), ?_, rfl⟩
      rw [hbad (by simp only [womanOK, decide_eq_false_iff_not]; omega)]; simp [upd_at]
    by_cases d3 : t.women[j].hi < t.women[j].lo
    · simp only [go_sem, reduceIte, reduceCtorEq, Nat.reduceEqDiff, Nat.reduceBEq, Nat.reduceAdd, Nat.reduceMul, Nat.reduceLeDiff, d1, d2, d3, hN, take_f', List.getElem?_cons_zero]
      refine fin_ret 2 (by simp [upd_at, hN]) ⟨_, H, Settle.refl (hE4 _ _), ?_, rfl⟩
      rw [hbad (by simp only [womanOK, decide_eq_false_iff_not]; omega)]; simp [upd_at]
    by_cases d4 : 7 < t.women[j].hi
    · simp only [go_sem, reduceIte, reduceCtorEq, Nat.reduceEqDiff, Nat.reduceBEq, Nat.reduceAdd, Nat.reduceMul, Nat.reduceLeDiff, d1, d2, d3, d4, hN, take_f', List.getElem?_cons_zero]
      refine fin_ret 2 (by simp [upd_at, hN]) ⟨_, H, Settle.refl (hE4 _ _), ?_, rfl⟩
      rw [hbad (by simp only [womanOK, decide_eq_false_iff_not]; omega)]; simp [upd_at]
    simp only [go_sem, reduceIte, reduceCtorEq, Nat.reduceEqDiff, Nat.reduceBEq, Nat.reduceAdd, Nat.reduceMul, Nat.reduceLeDiff, d1, d2, d3, d4, g1, g3, hN, take_f', List.getElem?_cons_zero, updH_ne _ _ n14, hB, wsucc (show j < 4611686018427387904 by omega), hlt']
    refine ⟨hE4 _ _, fun i hi => ?_⟩
    rcases Nat.lt_or_ge i j with h | h
    · exact hq i h
    · have : i = j := by omega
      subst this; rw [hget]; simp only [womanOK, decide_eq_true_eq]; omega
  have hj' : j = t.women.length := by omega
  subst hj'
  have hwall : t.women.all womanOK = true := List.all_eq_true.2 fun w hw => by
    obtain ⟨i, hi, rfl⟩ := List.getElem_of_mem hw
    have := hq i hi
    rwa [show t.women.getD i default = t.women[i] by simp [hi]] at this
  simp only [go_sem, reduceIte, reduceCtorEq, Nat.reduceEqDiff, Nat.reduceBEq, Nat.reduceAdd, Nat.reduceMul, Nat.reduceLeDiff, g1, g3, hN, hlt, hB, take_f', List.getElem?_cons_zero]
  refine x_for t.pieces.length (fun j env H1 => Ext H H1 ∧ H1 b1 = some (.box [.slice (t.women.map eW), .slice (t.pieces.map eP), i6 t.wrong]) ∧ env 1 = .ptr b1 0 ∧ env 5 = i6 j ∧ env 121 = .any ∧ ∀ i, i < j → pieceOK t (t.pieces.getD i default) = true)
    ⟨hE, hB, by simp [upd_at, g1], by simp [upd_at], by simp [upd_at, hN], by simp⟩ ?_
  clear hE hB g1 g3 hN hq hlt hj env H1
  rintro j env H1 hj ⟨hE, hB, g1, g5, hN, hq⟩
  by_cases hlt : (j : Int) < (t.pieces.length : Int)
  rotate_left
  · have hj' : j = t.pieces.length := by omega
    subst hj'
    have hpall : t.pieces.all (pieceOK t) = true := List.all_eq_true.2 fun w hw => by
      obtain ⟨i, hi, rfl⟩ := List.getElem_of_mem hw
      have := hq i hi
      rwa [show t.pieces.getD i default = t.pieces[i] by simp [hi]] at this
    simp only [go_sem, reduceIte, reduceCtorEq, Nat.reduceEqDiff, Nat.reduceBEq, Nat.reduceAdd, Nat.reduceMul, Nat.reduceLeDiff, g1, g5, hN, hlt, hB, take_f', List.getElem?_cons_zero]
    refine (manyR_c t hs).go ?_
    have hm : (2000 : Int) < ((manyR t t.pieces.length : Nat) : Int) ↔ 2000 < manyUpto t t.pieces.length := by
      rw [manyUpto_min]; unfold manyR; omega
    by_cases c6 : (2000 : Int) < ((manyR t t.pieces.length : Nat) : Int)
    · simp only [go_sem, reduceIte, reduceCtorEq, Nat.reduceEqDiff, Nat.reduceBEq, Nat.reduceAdd, Nat.reduceMul, Nat.reduceLeDiff, c6, hN]
      refine fin_ret 2 (by simp [upd_at, hN]) ⟨_, H, Settle.refl hE, ?_, rfl⟩
      simp [upd_at, checkTable, c1, c2, c3, hwall, hpall, hm.1 c6]
    · simp only [go_sem, reduceIte, reduceCtorEq, Nat.reduceEqDiff, Nat.reduceBEq, Nat.reduceAdd, Nat.reduceMul, Nat.reduceLeDiff, c6, hN]
      refine fin_ret 2 (by simp [upd_at, hN]) ⟨_, H, Settle.refl hE, ?_, rfl⟩
      have c6' : ¬ 2000 < manyUpto t t.pieces.length := fun h => c6 (hm.2 h)
      simp [upd_at, checkTable, c1, c2, c3, hwall, hpall, c6']
  have hlt' : j < t.pieces.length := by omega
  have hget : t.pieces.getD j default = t.pieces[j] := by simp [hlt']
  obtain ⟨p, hp⟩ : ∃ p, p = t.pieces[j] := ⟨_, rfl⟩
  have hpm : Sm p.marks.length := by rw [hp]; exact hs.marks _ (List.getElem_mem _)
  have hpm' := hpm
  unfold Sm at hpm'
  have hbad : pieceOK t p = false → checkTable t = 1 := fun hw => by
    have : t.pieces.all (pieceOK t) = false := List.all_eq_false.2 ⟨_, List.getElem_mem hlt', by rw [← hp, hw]; simp⟩
    simp [checkTable, c1, c2, this]
  simp only [go_sem, reduceIte, reduceCtorEq, Nat.reduceEqDiff, Nat.reduceBEq, Nat.reduceAdd, Nat.reduceMul, Nat.reduceLeDiff, g1, g5, hN, hlt, hB, take_f', List.getElem?_cons_zero, map_get (f := eP) hlt', ← hp, eP]
  refine v_alloc fun b6 hb6 => ?_
  have n16 : b1 ≠ b6 := fun h => by subst h; rw [hB] at hb6; cases hb6
  have z6 : H b6 = none := hE.isNone hb6
  simp only [go_sem, reduceIte, reduceCtorEq, Nat.reduceEqDiff, Nat.reduceBEq, Nat.reduceAdd, Nat.reduceMul, Nat.reduceLeDiff, g1, g5, hN]
  rw [v_store]
  refine ⟨rfl, rfl, by simp [AV.cells, AV.isCell], _, updH_same _ _ _, by simp, ?_⟩
  have hE6 : ∀ o1 o2, Ext H (updH (updH H1 b6 o1) b6 o2) := fun o1 o2 => (hE.new hb6 _).upd z6 _
  simp only [go_sem, reduceIte, reduceCtorEq, Nat.reduceEqDiff, Nat.reduceBEq, Nat.reduceAdd, Nat.reduceMul, Nat.reduceLeDiff, g1, g5, hN, placeAt, List.append_nil, List.nil_append, List.drop_nil]
  refine x_for p.marks.length (fun k env H2 => Ext H H2 ∧ H2 b1 = some (.box [.slice (t.women.map eW), .slice (t.pieces.map eP), i6 t.wrong]) ∧ H2 b6 = some (.box [.slice (eI p.marks), i6 p.bundle]) ∧ env 1 = .ptr b1 0 ∧ env 5 = i6 j ∧ env 6 = .ptr b6 0 ∧ env 7 = i6 k ∧ env 121 = .any ∧ ∀ i, i < k → markAt p.marks i = true)
    ⟨hE6 _ _, by rw [updH_ne _ _ n16, updH_ne _ _ n16]; exact hB, updH_same _ _ _, by simp [upd_at, g1], by simp [upd_at, g5], by simp [upd_at], by simp [upd_at], by simp [upd_at, hN], by simp⟩ ?_
  clear hE hB g1 g5 hN hlt hb6 hE6 env H1
  rintro k env H1 hk ⟨hE, hB, hB6, g1, g5, g6, g7, hN, hm⟩
  by_cases hlt : (k : Int) < (p.marks.length : Int)
  · have hltk : k < p.marks.length := by omega
    have hgk : p.marks.getD k 0 = p.marks[k] := by simp [hltk]
    have hbadm : markAt p.marks k = false → pieceOK t p = false := fun h => by
      have : marksOK p.marks = false := by rw [marksOK, List.all_eq_false]; exact ⟨k, by simp [hltk], by simp [h]⟩
      rw [pieceOK, this]; rfl
    simp only [go_sem, reduceIte, reduceCtorEq, Nat.reduceEqDiff, Nat.reduceBEq, Nat.reduceAdd, Nat.reduceMul, Nat.reduceLeDiff, g1, g5, g6, g7, hN, hlt, hB6, eI_get hltk, take_f', List.getElem?_cons_zero]
    refine pgo_call (in_c p.marks[k] 0 9) ?_
    by_cases d1 : 0 ≤ p.marks[k] ∧ p.marks[k] ≤ 9
    rotate_left
    · simp only [go_sem, reduceIte, reduceCtorEq, Nat.reduceEqDiff, Nat.reduceBEq, Nat.reduceAdd, Nat.reduceMul, Nat.reduceLeDiff, d1, hN]
      refine fin_ret 2 (by simp [upd_at, hN]) ⟨_, H, Settle.refl hE, ?_, rfl⟩
      rw [hbad (hbadm (by rw [markAt, hgk, decide_eq_false d1]; rfl))]; simp [upd_at]
    by_cases d2 : (0 : Int) < (k : Int)
    rotate_left
    · have hk0 : k = 0 := by omega
      simp only [go_sem, reduceIte, reduceCtorEq, Nat.reduceEqDiff, Nat.reduceBEq, Nat.reduceAdd, Nat.reduceMul, Nat.reduceLeDiff, d1, d2, g1, g5, g6, g7, hN, wsucc (show k < 4611686018427387904 by omega), hltk]
      refine ⟨hE, hB, hB6, fun i hi => ?_⟩
      rcases Nat.lt_or_ge i k with h | h
      · exact hm i h
      · have : i = k := by omega
        subst this; rw [markAt, hgk, decide_eq_true d1]; simp [hk0]
    have hgk1 : p.marks.getD (k - 1) 0 = p.marks[k - 1] := by simp [show k - 1 < p.marks.length by omega]
    have hk0 : ¬ k = 0 := by omega
    by_cases d3 : p.marks[k] ≤ p.marks[k - 1]
    · simp only [go_sem, reduceIte, reduceCtorEq, Nat.reduceEqDiff, Nat.reduceBEq, Nat.reduceAdd, Nat.reduceMul, Nat.reduceLeDiff, d1, d2, d3, g1, g5, g6, g7, hN, hB6, take_f', List.getElem?_cons_zero, wpred (show k < 4611686018427387904 by omega) (show 0 < k by omega), eI_get hltk, eI_get (show k - 1 < p.marks.length by omega)]
      refine fin_ret 2 (by simp [upd_at, hN]) ⟨_, H, Settle.refl hE, ?_, rfl⟩
      rw [hbad (hbadm (by rw [markAt, hgk, hgk1, decide_eq_true d3, decide_eq_false hk0]; simp))]; simp [upd_at]
    · simp only [go_sem, reduceIte, reduceCtorEq, Nat.reduceEqDiff, Nat.reduceBEq, Nat.reduceAdd, Nat.reduceMul, Nat.reduceLeDiff, d1, d2, d3, g1, g5, g6, g7, hN, hB6, take_f', List.getElem?_cons_zero, wpred (show k < 4611686018427387904 by omega) (show 0 < k by omega), eI_get hltk, eI_get (show k - 1 < p.marks.length by omega), wsucc (show k < 4611686018427387904 by omega), hltk]
      refine ⟨hE, hB, fun i hi => ?_⟩
      rcases Nat.lt_or_ge i k with h | h
      · exact hm i h
      · have : i = k := by omega
        subst this; rw [markAt, hgk, hgk1, decide_eq_true d1, decide_eq_false d3]; simp
  have hk' : k = p.marks.length := by omega
  subst hk'
  have hmall : marksOK p.marks = true := by
    rw [marksOK, List.all_eq_true]; intro i hi; exact hm i (by simpa using hi)
  have hw1 := w64 (x := (t.women.length : Int) - 1) (by omega) (by omega)
  simp only [go_sem, reduceIte, reduceCtorEq, Nat.reduceEqDiff, Nat.reduceBEq, Nat.reduceAdd, Nat.reduceMul, Nat.reduceLeDiff, g1, g5, g6, g7, hN, hlt, hB, hB6, take_f', List.getElem?_cons_zero, List.drop_succ_cons, hw1]
  refine (in_c p.bundle 0 _).go ?_
  by_cases d1 : 0 ≤ p.bundle ∧ p.bundle ≤ (t.women.length : Int) - 1
  rotate_left
  · simp only [go_sem, reduceIte, reduceCtorEq, Nat.reduceEqDiff, Nat.reduceBEq, Nat.reduceAdd, Nat.reduceMul, Nat.reduceLeDiff, d1, hN]
    refine fin_ret 2 (by simp [upd_at, hN]) ⟨_, H, Settle.refl hE, ?_, rfl⟩
    rw [hbad (by rw [pieceOK, decide_eq_false d1]; simp)]; simp [upd_at]
  simp only [go_sem, reduceIte, reduceCtorEq, Nat.reduceEqDiff, Nat.reduceBEq, Nat.reduceAdd, Nat.reduceMul, Nat.reduceLeDiff, d1, hN, g1, g5, hB]
  refine (womenR_c t hs j hlt').go ?_
  have hof : ofAt t j = womenOf t.women p.marks := by rw [ofAt, hget, ← hp]
  rw [hof]
  by_cases d2 : ((womenOf t.women p.marks).length : Int) = 0
  · simp only [go_sem, reduceIte, reduceCtorEq, Nat.reduceEqDiff, Nat.reduceBEq, Nat.reduceAdd, Nat.reduceMul, Nat.reduceLeDiff, d1, d2, hN]
    refine fin_ret 2 (by simp [upd_at, hN]) ⟨_, H, Settle.refl hE, ?_, rfl⟩
    rw [hbad (by rw [pieceOK, show decide (0 < (womenOf t.women p.marks).length) = false by rw [decide_eq_false_iff_not]; omega]; simp)]; simp [upd_at]
  · simp only [go_sem, reduceIte, reduceCtorEq, Nat.reduceEqDiff, Nat.reduceBEq, Nat.reduceAdd, Nat.reduceMul, Nat.reduceLeDiff, d1, d2, g1, g5, g6, g7, hN, hB, wsucc (show j < 4611686018427387904 by omega), hlt']
    refine ⟨hE, fun i hi => ?_⟩
    rcases Nat.lt_or_ge i j with h | h
    · exact hq i h
    · have : i = j := by omega
      subst this
      rw [hget, ← hp, pieceOK, hmall, decide_eq_true d1, show decide (0 < (womenOf t.women p.marks).length) = true by rw [decide_eq_true_eq]; omega]; rfl
end Go.Lift

set_option linter.unusedSimpArgs false
set_option linter.unusedVariables false
namespace Go.Lift
open Go Go.Proofs
theorem natOf_snoc (c : List Bool) (b : Bool) : natOf (c ++ [b]) = if b = true then natOf c ||| 2 ^ c.length else natOf c := by
  apply Nat.eq_of_testBit_eq
  intro i
  rw [natOf_bit, List.getD_eq_getElem?_getD]
  have hl := natOf_lt c
  rcases Nat.lt_trichotomy i c.length with h | h | h
  · rw [List.getElem?_append_left h, ← List.getD_eq_getElem?_getD, ← natOf_bit]
    cases b
    · simp
    · simp [Nat.testBit_or, Nat.testBit_two_pow, show ¬ c.length = i by omega]
  · subst h
    rw [List.getElem?_append_right (Nat.le_refl _)]
    have := Nat.testBit_lt_two_pow hl
    cases b <;> simp [Nat.testBit_or, Nat.testBit_two_pow, this]
  · rw [List.getElem?_append_right (by omega), List.getElem?_eq_none (by simp; omega)]
    have h1 : (natOf c).testBit i = false := Nat.testBit_lt_two_pow (Nat.lt_of_lt_of_le hl (Nat.pow_le_pow_right (by omega) (by omega)))
    cases b <;> simp [Nat.testBit_or, Nat.testBit_two_pow, h1]
    omega
theorem w_shl1 {i : Nat} (hi : i < 62) : IntKind.i64.wrap (1 * 2 ^ Nat.min i IntKind.i64.bits) = ((2 ^ i : Nat) : Int) := by
  have h := w_shl (a := 1) (i := i) (by omega) (by rw [Nat.one_mul]; exact Nat.pow_lt_pow_right (by omega) hi)
  rw [Nat.one_mul] at h
  exact h
theorem two_lt {i : Nat} (hi : i < 62) : 2 ^ i < 2 ^ 62 := Nat.pow_lt_pow_right (by omega) hi
theorem natOf_lt62 {c : List Bool} (hc : c.length ≤ 62) : natOf c < 2 ^ 62 := Nat.lt_of_lt_of_le (natOf_lt c) (Nat.pow_le_pow_right (by omega) hc)
def rightAt (t : Table) (l : List Int) (w : Nat) : Bool := decide ((t.women.getD w default).lo ≤ (l.count (w : Int) : Nat) ∧ ((l.count (w : Int) : Nat) : Int) ≤ (t.women.getD w default).hi)
def rightL (t : Table) (l : List Int) : List Bool := (List.range t.women.length).map (rightAt t l)
theorem rightR_c (t : Table) (l : List Int) (hw : t.women.length ≤ 5) (hl : Sm l.length) : Pure Tryz.prog 150 [eT t, .slice (eI l)] (i6 (natOf (rightL t l) : Nat)) := by
  intro H
  refine fn_of hmix fc150 (by simp) ?_
  rw [ienv2]
  simp only [go_sem, reduceIte, reduceCtorEq, Nat.reduceEqDiff, Nat.reduceBEq, Nat.reduceAdd, Nat.reduceMul, Nat.reduceLeDiff, ac150, eT]
  refine v_box _ rfl fun b1 hb1 => ?_
  simp only [go_sem, reduceIte, reduceCtorEq, Nat.reduceEqDiff, Nat.reduceBEq, Nat.reduceAdd, Nat.reduceMul, Nat.reduceLeDiff]
  refine x_for t.women.length (fun j env H1 => Ext H H1 ∧ H1 b1 = some (.box [.slice (t.women.map eW), .slice (t.pieces.map eP), i6 t.wrong]) ∧ env 1 = .slice (eI l) ∧ env 2 = .ptr b1 0 ∧ env 5 = i6 (natOf ((List.range j).map (rightAt t l)) : Nat) ∧ env 6 = i6 j ∧ env 38 = .any)
    ⟨(Ext.refl H).new hb1 _, updH_same _ _ _, by simp [upd_at], by simp [upd_at], by simp [upd_at, natOf], by simp [upd_at], by simp [upd_at]⟩ ?_
  rintro j env H1 hj ⟨hE, hB, g1, g2, g5, g6, hN⟩
  by_cases hlt : (j : Int) < (t.women.length : Int)
  · have hlt' : j < t.women.length := by omega
    have hget : t.women.getD j default = t.women[j] := by simp [hlt']
    have hsn : natOf ((List.range (j + 1)).map (rightAt t l)) = if rightAt t l j = true then natOf ((List.range j).map (rightAt t l)) ||| 2 ^ j else natOf ((List.range j).map (rightAt t l)) := by
      rw [List.range_succ, List.map_append, List.map_cons, List.map_nil, natOf_snoc]; simp
    simp only [go_sem, reduceIte, reduceCtorEq, Nat.reduceEqDiff, Nat.reduceBEq, Nat.reduceAdd, Nat.reduceMul, Nat.reduceLeDiff, g1, g2, g5, g6, hN, hB, hlt, take_f', List.getElem?_cons_zero]
    refine pgo_call (ownR_c l (j : Int) hl) ?_
    simp only [go_sem, reduceIte, reduceCtorEq, Nat.reduceEqDiff, Nat.reduceBEq, Nat.reduceAdd, Nat.reduceMul, Nat.reduceLeDiff, g1, g2, g5, g6, hN, hB, take_f', List.getElem?_cons_zero, map_get (f := eW) hlt', eW]
    refine pgo_call (in_c _ _ _) ?_
    by_cases hm : t.women[j].lo ≤ ((l.count (j : Int) : Nat) : Int) ∧ ((l.count (j : Int) : Nat) : Int) ≤ t.women[j].hi
    · have hr : rightAt t l j = true := by rw [rightAt, hget]; exact decide_eq_true hm
      have hor := w_or (natOf_lt62 (c := (List.range j).map (rightAt t l)) (by simp; omega)) (two_lt (show j < 62 by omega))
      simp only [↓aops_nil, ↓aops_go, ↓aops_go0, ↓aops_if, ↓k_cont, ↓k_cont0, g_tt, g_ff, g_tf, g_ft, g_u, ↓apre_nil, ↓apre_if, ↓apre_go, pgo_det, Tag.isCall, popt_some, gp_tt, gp_ff, gp_tf, gp_ft, gp_u, ↓k_draw, opt_some, List.map_cons, List.map_nil, ev, upd_at, ↓x_skip, ↓x_label, ↓x_ret, ↓x_exit, ↓x_seq, ↓x_block, ↓x_ops, ↓x_cond, x_sel_t, x_sel_f, ↓x_draw, ↓q_kseq_n, ↓q_kseq_r, ↓q_kseq_e, ↓q_block_n, ↓q_block_r, ↓q_block_e, ↓q_loop_n, ↓q_loop_r, ↓q_loop_e, ↓l_done, d_mov, d_pick, d_not, d_nilchk, d_nilchk', d_conv, d_add, d_sub, d_mul, d_quo, d_rem, d_shl, d_shr, d_and, d_or, d_andnot, d_eql, d_neq, d_lss, d_leq, d_gtr, d_geq, d_eqb, d_neqb, d_mkfunc, d_load, d_fieldaddr, d_fieldaddr', d_field_t, d_field_f, d_idxaddr, d_idxaddr_g, elemO_some, d_idxaddr_m, d_arraddr, d_arraddr', d_idx_f, d_sub_s, d_sub_g, d_arrsub, d_arrall, d_extract, d_len, d_len_g, d_len_e, d_len_m, d_min, d_build, d_bslice0, d_bs1, d_bs2, d_bsa, d_eqagg, v_mov, v_pick, v_not, v_nilchk, v_conv, v_bin, v_binb, v_eqagg, v_mkfunc, v_load, v_fieldaddr, v_field, v_idxaddr, v_arraddr, v_idx, v_sub, v_arrsub, v_arrall, v_extract, v_len, v_min, v_build, v_bslice, v_lookup, v_call, v_callv, Nat.reduceEqDiff, Nat.reduceBEq, reduceIte, ite_true, ite_false, Bool.false_eq_true, Bool.true_eq_false, if_true, if_false, decide_eq_true_eq, decide_eq_false_iff_not, decide_true, decide_false, Nat.zero_add, Nat.add_zero, Nat.reduceAdd, reduceCtorEq, eq_self, not_true_eq_false, not_false_eq_true, Bool.not_true, Bool.not_false, Nat.reduceMul, List.length_cons, List.length_nil, at_elem, take_f, take_tt, Int.toNat_natCast, Option.some.injEq, Option.bind_some, Int.natCast_nonneg, true_and, and_true, and_self, ↓q_for_n, ↓q_for_r, ↓q_for_e, eI_len, List.length_map, at_obj, obj_box, updH_same, Nat.reduceLeDiff, Nat.zero_le, Nat.le_refl, List.drop_zero, List.drop_succ_cons, List.take_succ_cons, List.take_zero, c_agg, c_int, c_bool, c_slice, c_emp, c_grow, ↓l_one0, ↓l_one1, ↓k_l0, ↓k_l1, stab_nil, stab_cons, stab_if, st_tt, st_ff, st_tf, st_ft, st_u, hm, g1, g2, g5, g6, hN, u64w (show j < 2 ^ 62 by omega), w_shl1 (show j < 62 by omega), show ¬ ((j : Int) < 0) by omega, hor, wsucc (show j < 4611686018427387904 by omega), hlt', hB]
      refine ⟨hE, ?_⟩
      rw [hsn, if_pos hr]
    · have hr : rightAt t l j = false := by rw [rightAt, hget]; exact decide_eq_false hm
      simp only [↓aops_nil, ↓aops_go, ↓aops_go0, ↓aops_if, ↓k_cont, ↓k_cont0, g_tt, g_ff, g_tf, g_ft, g_u, ↓apre_nil, ↓apre_if, ↓apre_go, pgo_det, Tag.isCall, popt_some, gp_tt, gp_ff, gp_tf, gp_ft, gp_u, ↓k_draw, opt_some, List.map_cons, List.map_nil, ev, upd_at, ↓x_skip, ↓x_label, ↓x_ret, ↓x_exit, ↓x_seq, ↓x_block, ↓x_ops, ↓x_cond, x_sel_t, x_sel_f, ↓x_draw, ↓q_kseq_n, ↓q_kseq_r, ↓q_kseq_e, ↓q_block_n, ↓q_block_r, ↓q_block_e, ↓q_loop_n, ↓q_loop_r, ↓q_loop_e, ↓l_done, d_mov, d_pick, d_not, d_nilchk, d_nilchk', d_conv, d_add, d_sub, d_mul, d_quo, d_rem, d_shl, d_shr, d_and, d_or, d_andnot, d_eql, d_neq, d_lss, d_leq, d_gtr, d_geq, d_eqb, d_neqb, d_mkfunc, d_load, d_fieldaddr, d_fieldaddr', d_field_t, d_field_f, d_idxaddr, d_idxaddr_g, elemO_some, d_idxaddr_m, d_arraddr, d_arraddr', d_idx_f, d_sub_s, d_sub_g, d_arrsub, d_arrall, d_extract, d_len, d_len_g, d_len_e, d_len_m, d_min, d_build, d_bslice0, d_bs1, d_bs2, d_bsa, d_eqagg, v_mov, v_pick, v_not, v_nilchk, v_conv, v_bin, v_binb, v_eqagg, v_mkfunc, v_load, v_fieldaddr, v_field, v_idxaddr, v_arraddr, v_idx, v_sub, v_arrsub, v_arrall, v_extract, v_len, v_min, v_build, v_bslice, v_lookup, v_call, v_callv, Nat.reduceEqDiff, Nat.reduceBEq, reduceIte, ite_true, ite_false, Bool.false_eq_true, Bool.true_eq_false, if_true, if_false, decide_eq_true_eq, decide_eq_false_iff_not, decide_true, decide_false, Nat.zero_add, Nat.add_zero, Nat.reduceAdd, reduceCtorEq, eq_self, not_true_eq_false, not_false_eq_true, Bool.not_true, Bool.not_false, Nat.reduceMul, List.length_cons, List.length_nil, at_elem, take_f, take_tt, Int.toNat_natCast, Option.some.injEq, Option.bind_some, Int.natCast_nonneg, true_and, and_true, and_self, ↓q_for_n, ↓q_for_r, ↓q_for_e, eI_len, List.length_map, at_obj, obj_box, updH_same, Nat.reduceLeDiff, Nat.zero_le, Nat.le_refl, List.drop_zero, List.drop_succ_cons, List.take_succ_cons, List.take_zero, c_agg, c_int, c_bool, c_slice, c_emp, c_grow, ↓l_one0, ↓l_one1, ↓k_l0, ↓k_l1, stab_nil, stab_cons, stab_if, st_tt, st_ff, st_tf, st_ft, st_u, hm, g1, g2, g5, g6, hN, wsucc (show j < 4611686018427387904 by omega), hlt', hB]
      refine ⟨hE, ?_⟩
      rw [hsn, hr]; rfl
  · simp only [go_sem, reduceIte, reduceCtorEq, Nat.reduceEqDiff, Nat.reduceBEq, Nat.reduceAdd, Nat.reduceMul, Nat.reduceLeDiff, g1, g2, g5, g6, hN, hB, hlt, take_f', List.getElem?_cons_zero]
    have : j = t.women.length := by omega
    subst this
    refine fin_ret 4 (by simp [upd_at, hN]) ⟨_, H, Settle.refl hE, ?_, rfl⟩
    simp [upd_at, rightL]
theorem fullR_c (t : Table) (hw : t.women.length ≤ 5) : Pure Tryz.prog 149 [eT t] (i6 ((2 ^ t.women.length - 1 : Nat) : Int)) := by
  intro H
  refine fn_of hmix fc149 (by simp) ?_
  rw [ienv1]
  simp only [go_sem, reduceIte, reduceCtorEq, Nat.reduceEqDiff, Nat.reduceBEq, Nat.reduceAdd, Nat.reduceMul, Nat.reduceLeDiff, ac149, eT]
  refine v_box _ rfl fun b1 hb1 => ?_
  have hp : 1 ≤ 2 ^ t.women.length := Nat.one_le_two_pow
  have hp2 := two_lt (show t.women.length < 62 by omega)
  have hs : IntKind.i64.wrap (((2 ^ t.women.length : Nat) : Int) - 1) = ((2 ^ t.women.length - 1 : Nat) : Int) := by
    generalize 2 ^ t.women.length = q at hp hp2
    rw [w64 (by omega) (by omega)]; omega
  simp only [↓aops_nil, ↓aops_go, ↓aops_go0, ↓aops_if, ↓k_cont, ↓k_cont0, g_tt, g_ff, g_tf, g_ft, g_u, ↓apre_nil, ↓apre_if, ↓apre_go, pgo_det, Tag.isCall, popt_some, gp_tt, gp_ff, gp_tf, gp_ft, gp_u, ↓k_draw, opt_some, List.map_cons, List.map_nil, ev, upd_at, ↓x_skip, ↓x_label, ↓x_ret, ↓x_exit, ↓x_seq, ↓x_block, ↓x_ops, ↓x_cond, x_sel_t, x_sel_f, ↓x_draw, ↓q_kseq_n, ↓q_kseq_r, ↓q_kseq_e, ↓q_block_n, ↓q_block_r, ↓q_block_e, ↓q_loop_n, ↓q_loop_r, ↓q_loop_e, ↓l_done, d_mov, d_pick, d_not, d_nilchk, d_nilchk', d_conv, d_add, d_sub, d_mul, d_quo, d_rem, d_shl, d_shr, d_and, d_or, d_andnot, d_eql, d_neq, d_lss, d_leq, d_gtr, d_geq, d_eqb, d_neqb, d_mkfunc, d_load, d_fieldaddr, d_fieldaddr', d_field_t, d_field_f, d_idxaddr, d_idxaddr_g, elemO_some, d_idxaddr_m, d_arraddr, d_arraddr', d_idx_f, d_sub_s, d_sub_g, d_arrsub, d_arrall, d_extract, d_len, d_len_g, d_len_e, d_len_m, d_min, d_build, d_bslice0, d_bs1, d_bs2, d_bsa, d_eqagg, v_mov, v_pick, v_not, v_nilchk, v_conv, v_bin, v_binb, v_eqagg, v_mkfunc, v_load, v_fieldaddr, v_field, v_idxaddr, v_arraddr, v_idx, v_sub, v_arrsub, v_arrall, v_extract, v_len, v_min, v_build, v_bslice, v_lookup, v_call, v_callv, Nat.reduceEqDiff, Nat.reduceBEq, reduceIte, ite_true, ite_false, Bool.false_eq_true, Bool.true_eq_false, if_true, if_false, decide_eq_true_eq, decide_eq_false_iff_not, decide_true, decide_false, Nat.zero_add, Nat.add_zero, Nat.reduceAdd, reduceCtorEq, eq_self, not_true_eq_false, not_false_eq_true, Bool.not_true, Bool.not_false, Nat.reduceMul, List.length_cons, List.length_nil, at_elem, take_f, take_tt, Int.toNat_natCast, Option.some.injEq, Option.bind_some, Int.natCast_nonneg, true_and, and_true, and_self, ↓q_for_n, ↓q_for_r, ↓q_for_e, eI_len, List.length_map, at_obj, obj_box, updH_same, Nat.reduceLeDiff, Nat.zero_le, Nat.le_refl, List.drop_zero, List.drop_succ_cons, List.take_succ_cons, List.take_zero, c_agg, c_int, c_bool, c_slice, c_emp, c_grow, take_f', List.getElem?_cons_zero, u64w (show t.women.length < 2 ^ 62 by omega), w_shl1 (show t.women.length < 62 by omega), show ¬ ((t.women.length : Int) < 0) by omega, hs]
  refine fin_ret 2 (by simp [upd_at]) ⟨_, H, Settle.refl ((Ext.refl H).new hb1 _), ?_, rfl⟩
  simp [upd_at]
theorem wrong_bits (t : Table) (l : List Int) (hw : t.women.length ≤ 5) (hp : t.pieces.length ≤ 7) (hl : l.length = t.pieces.length) : bitsL (andN (2 ^ t.women.length - 1) (natOf (rightL t l))) = wrongOf t (pad7 l) := by
  have hlt : andN (2 ^ t.women.length - 1) (natOf (rightL t l)) < 2 ^ t.women.length := by
    apply Nat.lt_pow_two_of_testBit
    intro i hi
    rw [andN_bit, Nat.testBit_two_pow_sub_one]
    simp; omega
  rw [bitsL_of (by omega) hlt, bitsUpto, wrongOf, wrongUpto]
  congr 1
  apply List.filter_congr
  intro w hww
  have hww' : w < t.women.length := by simpa using hww
  rw [andN_bit, Nat.testBit_two_pow_sub_one, natOf_bit]
  have h1 : (rightL t l).getD w false = rightAt t l w := by simp [rightL, hww']
  have h2 : (pad7 l).take t.pieces.length = l := by
    rw [pad7, padTo, List.take_length, ← hl, List.take_left']; rfl
  rw [h1, rightAt, h2]
  simp [hww']
theorem isTruthR_c (t : Table) (hs : TSm t) (hw : t.women.length ≤ 5) (hp : t.pieces.length ≤ 7) (l : List Int) (hl : Sm l.length) : Pure Tryz.prog 122 [eT t, .slice (eI l)] (.bool (isTruthR t l)) := by
  intro H
  refine fn_of hmix fc122 (by simp) ?_
  rw [ienv2]
  simp only [go_sem, reduceIte, reduceCtorEq, Nat.reduceEqDiff, Nat.reduceBEq, Nat.reduceAdd, Nat.reduceMul, Nat.reduceLeDiff, ac122, eT]
  refine v_box _ rfl fun b1 hb1 => ?_
  have e1 := (Ext.refl H).new hb1 (.box [.slice (t.women.map eW), .slice (t.pieces.map eP), i6 t.wrong])
  simp only [go_sem, reduceIte, reduceCtorEq, Nat.reduceEqDiff, Nat.reduceBEq, Nat.reduceAdd, Nat.reduceMul, Nat.reduceLeDiff]
  refine pgo_call (ownersR_c t hs l hl) ?_
  cases c1 : ownersOK t l
  · simp only [go_sem, reduceIte, reduceCtorEq, Nat.reduceEqDiff, Nat.reduceBEq, Nat.reduceAdd, Nat.reduceMul, Nat.reduceLeDiff]
    refine fin_ret 4 (by simp [upd_at]) ⟨_, H, Settle.refl e1, ?_, rfl⟩
    simp [upd_at, isTruthR, c1]
  have hll := (agg_ok_owners t l c1).1
  have hpw := two_lt (show t.women.length < 62 by omega)
  have hrl : (rightL t l).length ≤ 62 := by simp [rightL]; omega
  simp only [go_sem, reduceIte, reduceCtorEq, Nat.reduceEqDiff, Nat.reduceBEq, Nat.reduceAdd, Nat.reduceMul, Nat.reduceLeDiff]
  refine pgo_call (fullR_c t hw) ?_
  simp only [go_sem, reduceIte, reduceCtorEq, Nat.reduceEqDiff, Nat.reduceBEq, Nat.reduceAdd, Nat.reduceMul, Nat.reduceLeDiff]
  refine pgo_call (rightR_c t l hw hl) ?_
  have handn := w_andN (a := 2 ^ t.women.length - 1) (b := natOf (rightL t l)) (by omega) (natOf_lt62 hrl)
  have hlt : andN (2 ^ t.women.length - 1) (natOf (rightL t l)) < 2 ^ 62 := by
    apply Nat.lt_pow_two_of_testBit
    intro i hi
    rw [andN_bit, Nat.testBit_two_pow_sub_one]
    simp; omega
  simp only [↓aops_nil, ↓aops_go, ↓aops_go0, ↓aops_if, ↓k_cont, ↓k_cont0, g_tt, g_ff, g_tf, g_ft, g_u, ↓apre_nil, ↓apre_if, ↓apre_go, pgo_det, Tag.isCall, popt_some, gp_tt, gp_ff, gp_tf, gp_ft, gp_u, ↓k_draw, opt_some, List.map_cons, List.map_nil, ev, upd_at, ↓x_skip, ↓x_label, ↓x_ret, ↓x_exit, ↓x_seq, ↓x_block, ↓x_ops, ↓x_cond, x_sel_t, x_sel_f, ↓x_draw, ↓q_kseq_n, ↓q_kseq_r, ↓q_kseq_e, ↓q_block_n, ↓q_block_r, ↓q_block_e, ↓q_loop_n, ↓q_loop_r, ↓q_loop_e, ↓l_done, d_mov, d_pick, d_not, d_nilchk, d_nilchk', d_conv, d_add, d_sub, d_mul, d_quo, d_rem, d_shl, d_shr, d_and, d_or, d_andnot, d_eql, d_neq, d_lss, d_leq, d_gtr, d_geq, d_eqb, d_neqb, d_mkfunc, d_load, d_fieldaddr, d_fieldaddr', d_field_t, d_field_f, d_idxaddr, d_idxaddr_g, elemO_some, d_idxaddr_m, d_arraddr, d_arraddr', d_idx_f, d_sub_s, d_sub_g, d_arrsub, d_arrall, d_extract, d_len, d_len_g, d_len_e, d_len_m, d_min, d_build, d_bslice0, d_bs1, d_bs2, d_bsa, d_eqagg, v_mov, v_pick, v_not, v_nilchk, v_conv, v_bin, v_binb, v_eqagg, v_mkfunc, v_load, v_fieldaddr, v_field, v_idxaddr, v_arraddr, v_idx, v_sub, v_arrsub, v_arrall, v_extract, v_len, v_min, v_build, v_bslice, v_lookup, v_call, v_callv, Nat.reduceEqDiff, Nat.reduceBEq, reduceIte, ite_true, ite_false, Bool.false_eq_true, Bool.true_eq_false, if_true, if_false, decide_eq_true_eq, decide_eq_false_iff_not, decide_true, decide_false, Nat.zero_add, Nat.add_zero, Nat.reduceAdd, reduceCtorEq, eq_self, not_true_eq_false, not_false_eq_true, Bool.not_true, Bool.not_false, Nat.reduceMul, List.length_cons, List.length_nil, at_elem, take_f, take_tt, Int.toNat_natCast, Option.some.injEq, Option.bind_some, Int.natCast_nonneg, true_and, and_true, and_self, ↓q_for_n, ↓q_for_r, ↓q_for_e, eI_len, List.length_map, at_obj, obj_box, updH_same, Nat.reduceLeDiff, Nat.zero_le, Nat.le_refl, List.drop_zero, List.drop_succ_cons, List.take_succ_cons, List.take_zero, c_agg, c_int, c_bool, c_slice, c_emp, c_grow, ↓l_one0, ↓l_one1, ↓k_l0, ↓k_l1, stab_nil, stab_cons, stab_if, st_tt, st_ff, st_tf, st_ft, st_u, handn]
  refine pgo_call (bits_c _ hlt) ?_
  rw [wrong_bits t l hw hp hll]
  simp only [go_sem, reduceIte, reduceCtorEq, Nat.reduceEqDiff, Nat.reduceBEq, Nat.reduceAdd, Nat.reduceMul, Nat.reduceLeDiff, take_f', List.getElem?_cons_zero]
  refine fin_ret 4 (by simp [upd_at]) ⟨_, H, Settle.refl e1, ?_, rfl⟩
  simp [upd_at, isTruthR, c1]
end Go.Lift

set_option linter.unusedSimpArgs false
set_option linter.unusedVariables false
namespace Go.Lift
open Go Go.Proofs
def nthL (t : Table) : Nat → Nat → List Int
  | 0, _ => []
  | i + 1, n => nthL t i (n / womN t i) ++ [(ofAt t i).getD (n % womN t i) 0]
theorem nthL_len (t : Table) : ∀ (k n : Nat), (nthL t k n).length = k
  | 0, _ => rfl
  | k + 1, n => by rw [nthL, List.length_append, nthL_len t k]; rfl
theorem nth_c (t : Table) (hs : TSm t) (hpos : ∀ i, i < t.pieces.length → 1 ≤ womN t i) (n : Nat) (hn : n < 2 ^ 62) : Pure Tryz.prog 129 [eT t, i6 n] (.slice (eI (nthL t t.pieces.length n))) := by
  intro H
  have h2 := hs.pieces
  unfold Sm at h2
  refine fn_of hmix fc129 (by simp) ?_
  rw [ienv2]
  have hsub : IntKind.i64.wrap ((t.pieces.length : Int) - 1) = (t.pieces.length : Int) - 1 := w64 (by omega) (by omega)
  simp only [go_sem, reduceIte, reduceCtorEq, Nat.reduceEqDiff, Nat.reduceBEq, Nat.reduceAdd, Nat.reduceMul, Nat.reduceLeDiff, ac129, eT]
  refine v_box _ rfl fun b1 hb1 => ?_
  simp only [go_sem, reduceIte, reduceCtorEq, Nat.reduceEqDiff, Nat.reduceBEq, Nat.reduceAdd, Nat.reduceMul, Nat.reduceLeDiff, take_f', List.getElem?_cons_zero]
  refine ⟨by omega, by omega, by omega, fun b3 hb3 => ?_⟩
  have n13 : b1 ≠ b3 := fun h => by subst h; simp at hb3
  have e1 := (Ext.refl H).new hb1 (.box [.slice (t.women.map eW), .slice (t.pieces.map eP), i6 t.wrong])
  have z3 : H b3 = none := e1.isNone hb3
  have hfl : (List.replicate t.pieces.length [AV.int .i64 0]).flatten = (List.replicate t.pieces.length (0 : Int)).map i6 := by
    generalize t.pieces.length = m
    induction m with
    | zero => rfl
    | succ n ih => rw [List.replicate_succ, List.flatten_cons, ih]; rfl
  simp only [go_sem, reduceIte, reduceCtorEq, Nat.reduceEqDiff, Nat.reduceBEq, Nat.reduceAdd, Nat.reduceMul, Nat.reduceLeDiff, updH_ne _ _ n13, take_f', List.getElem?_cons_zero, hsub]
  rw [hfl]
  refine x_for t.pieces.length (fun s env H1 => Ext H H1 ∧ H1 b1 = some (.box [.slice (t.women.map eW), .slice (t.pieces.map eP), i6 t.wrong]) ∧ (∃ (k nk : Nat) (suf : List Int), s + k = t.pieces.length ∧ nk < 2 ^ 62 ∧ suf.length = s ∧ nthL t t.pieces.length n = nthL t k nk ++ suf ∧ H1 b3 = some (.box ((List.replicate k (0 : Int) ++ suf).map i6)) ∧ env 1 = i6 nk ∧ env 6 = i6 ((k : Int) - 1)) ∧
      env 2 = .ptr b1 0 ∧ env 5 = .mslice b3 0 t.pieces.length t.pieces.length ∧ env 38 = .any)
    ⟨e1.new hb3 _, by rw [updH_ne _ _ n13]; exact updH_same _ _ _, ⟨t.pieces.length, n, [], by omega, hn, rfl, by simp, by rw [List.append_nil]; exact updH_same _ _ _, by simp [upd_at], by simp [upd_at]⟩, by simp [upd_at], by simp [upd_at], by simp [upd_at]⟩ ?_
  rintro s env H1 hsj ⟨hE, hB, ⟨k, nk, suf, hk, hnk, hsuf, heq, hB3, g1, g6⟩, g2, g5, hN⟩
  by_cases hlt : (0 : Int) ≤ (k : Int) - 1
  · obtain ⟨i, rfl⟩ : ∃ i, k = i + 1 := ⟨k - 1, by omega⟩
    have hi : i < t.pieces.length := by omega
    have hcast : ((i + 1 : Nat) : Int) - 1 = (i : Int) := by omega
    rw [hcast] at g6 hlt
    have hp := hpos i hi
    have hlen : (ofAt t i).length = womN t i := rfl
    have hwn : womN t i < 2147483648 := by
      have := womenUpto_len t.women (t.pieces.getD i default).marks t.women.length; have := hs.women; unfold Sm at this; rw [← hlen]; simp only [ofAt, womenOf]; omega
    have hne : ¬ ((womN t i : Nat) : Int) = 0 := by omega
    have hrem : (nk : Int).tmod ((womN t i : Nat) : Int) = ((nk % womN t i : Nat) : Int) := (Int.ofNat_tmod nk (womN t i)).symm
    have hquo : (nk : Int).tdiv ((womN t i : Nat) : Int) = ((nk / womN t i : Nat) : Int) := (Int.ofNat_tdiv nk (womN t i)).symm
    have hml : nk % womN t i < (ofAt t i).length := Nat.mod_lt _ hp
    have hdl : nk / womN t i < 2 ^ 62 := Nat.lt_of_le_of_lt (Nat.div_le_self _ _) hnk
    have hwd : IntKind.i64.wrap ((nk / womN t i : Nat) : Int) = ((nk / womN t i : Nat) : Int) := by
      generalize nk / womN t i = q at hdl
      exact w64 (by omega) (by omega)
    have hdec : IntKind.i64.wrap ((i : Int) - 1) = (i : Int) - 1 := w64 (by omega) (by omega)
    simp only [go_sem, reduceIte, reduceCtorEq, Nat.reduceEqDiff, Nat.reduceBEq, Nat.reduceAdd, Nat.reduceMul, Nat.reduceLeDiff, g1, g2, g5, g6, hN, hB, hlt]
    refine (womenR_c t hs i hi).go ?_
    simp only [go_sem, reduceIte, reduceCtorEq, Nat.reduceEqDiff, Nat.reduceBEq, Nat.reduceAdd, Nat.reduceMul, Nat.reduceLeDiff, g1, g2, g5, g6, hN, hlen, hne, hrem, hquo, hwd, eI_get hml, take_f', List.getElem?_cons_zero, show (i : Int) < (t.pieces.length : Int) by omega, Nat.mul_one]
    rw [v_store]
    refine ⟨rfl, rfl, by simp [AV.cells, AV.isCell], _, hB3, by simp, ?_⟩
    rw [show (AV.int .i64 (ofAt t i)[nk % womN t i]).cells = [i6 (ofAt t i)[nk % womN t i]] from rfl, iset _ _ _ (by simp; omega)]
    have hset : (List.replicate (i + 1) (0 : Int) ++ suf).set i (ofAt t i)[nk % womN t i] = List.replicate i 0 ++ ((ofAt t i)[nk % womN t i] :: suf) := by
      rw [List.replicate_succ', List.append_assoc, List.set_append_right _ _ (by simp)]
      simp
    rw [hset]
    simp only [go_sem, reduceIte, reduceCtorEq, Nat.reduceEqDiff, Nat.reduceBEq, Nat.reduceAdd, Nat.reduceMul, Nat.reduceLeDiff, g1, g2, g5, g6, hN, hdec, show s < t.pieces.length by omega, updH_ne _ _ n13, hB]
    refine ⟨hE.upd z3 _, i, nk / womN t i, (ofAt t i)[nk % womN t i] :: suf, by omega, hdl, by simp [hsuf], ?_, rfl, rfl, rfl⟩
    rw [heq, nthL, List.append_assoc]
    congr 1
    simp [hml]
  · simp only [go_sem, reduceIte, reduceCtorEq, Nat.reduceEqDiff, Nat.reduceBEq, Nat.reduceAdd, Nat.reduceMul, Nat.reduceLeDiff, g1, g2, g5, g6, hN, hlt]
    have hk0 : k = 0 := by omega
    subst hk0
    have hsl : suf.length = t.pieces.length := by omega
    rw [heq]
    simp only [nthL, List.nil_append, List.replicate_zero] at hB3 ⊢
    refine fin_ret 4 (by simp [upd_at, hN]) ⟨_, H, ?_, rfl, rfl⟩
    simp only [upd_at, if_true]
    have := settle_mslice (n := t.pieces.length) (cap := t.pieces.length) hB3 hE z3 (by simp [hsl]) (Nat.le_refl _)
    simpa [eI, List.map_map, Function.comp_def] using this
theorem d_bs_s {H : AHeap} (es : List (List AV)) : detV (.bslice 1) [.slice es] H = some (.slice [[.slice es]]) := by simp [detV, AV.ok, AV.cells]
theorem eII_good (l : List (List Int)) : goodEls 1 (l.map fun x => [AV.slice (eI x)]) := by
  intro e he; rw [List.mem_map] at he; obtain ⟨x, _, rfl⟩ := he; rfl
theorem eII_cell (l : List (List Int)) : cellEls (l.map fun x => [AV.slice (eI x)]) := by
  intro e he x hx; rw [List.mem_map] at he; obtain ⟨y, _, rfl⟩ := he
  simp only [List.mem_singleton] at hx; subst hx; rfl
def ownersUpto (t : Table) (j : Nat) : List (List Int) := ((List.range j).map (nthL t t.pieces.length)).filter (isTruthR t)
def truthsR (t : Table) : List (List Int) := ownersUpto t (manyR t t.pieces.length)
theorem ownersUpto_succ (t : Table) (j : Nat) : ownersUpto t (j + 1) = ownersUpto t j ++ (if isTruthR t (nthL t t.pieces.length j) = true then [nthL t t.pieces.length j] else []) := by
  simp only [ownersUpto, List.range_succ, List.map_append, List.filter_append, List.map_cons, List.map_nil]
  congr 1
  cases h : isTruthR t (nthL t t.pieces.length j) <;> simp only [List.filter_cons, h, List.filter_nil] <;> simp
theorem ownersUpto_len (t : Table) (j : Nat) : (ownersUpto t j).length ≤ j := by
  simp only [ownersUpto]
  exact Nat.le_trans (List.length_filter_le _ _) (by simp)
theorem truthsR_c (t : Table) (hs : TSm t) (hc : checkTable t = 0) : Pure Tryz.prog 88 [eT t] (eII (truthsR t)) := by
  intro H
  obtain ⟨hw5, hp7⟩ := checkTable_len hc
  have hpos := womN_pos hc
  have hmr : manyR t t.pieces.length ≤ 3000 := Nat.min_le_left _ _
  refine fn_of hmix fc88 (by simp) ?_
  rw [ienv1]
  simp only [go_sem, reduceIte, reduceCtorEq, Nat.reduceEqDiff, Nat.reduceBEq, Nat.reduceAdd, Nat.reduceMul, Nat.reduceLeDiff, ac88, eT]
  refine v_box _ rfl fun b1 hb1 => ?_
  simp only [go_sem, reduceIte, reduceCtorEq, Nat.reduceEqDiff, Nat.reduceBEq, Nat.reduceAdd, Nat.reduceMul, Nat.reduceLeDiff]
  refine x_for (manyR t t.pieces.length) (fun j env H1 => Ext H H1 ∧ H1 b1 = some (.box [.slice (t.women.map eW), .slice (t.pieces.map eP), i6 t.wrong]) ∧ Grown 1 H H1 (env 3) ((ownersUpto t j).map fun x => [AV.slice (eI x)]) ∧ env 1 = .ptr b1 0 ∧ env 4 = i6 j ∧ env 23 = .any)
    ⟨(Ext.refl H).new hb1 _, updH_same _ _ _, .inl ⟨by simp [upd_at], rfl⟩, by simp [upd_at], by simp [upd_at], by simp [upd_at]⟩ ?_
  rintro j env H1 hj ⟨hE, hB, hG, g1, g4, hN⟩
  have hul := ownersUpto_len t j
  simp only [go_sem, reduceIte, reduceCtorEq, Nat.reduceEqDiff, Nat.reduceBEq, Nat.reduceAdd, Nat.reduceMul, Nat.reduceLeDiff, g1, g4, hN, hB]
  refine (manyR_c t hs).go ?_
  by_cases hlt : (j : Int) < ((manyR t t.pieces.length : Nat) : Int)
  · have hlt' : j < manyR t t.pieces.length := by omega
    simp only [go_sem, reduceIte, reduceCtorEq, Nat.reduceEqDiff, Nat.reduceBEq, Nat.reduceAdd, Nat.reduceMul, Nat.reduceLeDiff, g1, g4, hN, hB, hlt]
    refine (nth_c t hs hpos j (by omega)).go ?_
    simp only [go_sem, reduceIte, reduceCtorEq, Nat.reduceEqDiff, Nat.reduceBEq, Nat.reduceAdd, Nat.reduceMul, Nat.reduceLeDiff, g1, g4, hN, hB]
    refine (isTruthR_c t hs hw5 hp7 _ (by unfold Sm; rw [nthL_len]; omega)).go ?_
    cases hT : isTruthR t (nthL t t.pieces.length j)
    · simp only [go_sem, reduceIte, reduceCtorEq, Nat.reduceEqDiff, Nat.reduceBEq, Nat.reduceAdd, Nat.reduceMul, Nat.reduceLeDiff, g1, g4, hN, hB, wsucc (show j < 4611686018427387904 by omega), hlt']
      refine ⟨hE, ?_⟩
      rw [ownersUpto_succ, hT]; simpa using hG
    · simp only [go_sem, reduceIte, reduceCtorEq, Nat.reduceEqDiff, Nat.reduceBEq, Nat.reduceAdd, Nat.reduceMul, Nat.reduceLeDiff, g1, g4, hN, d_bs_s]
      refine v_append hG hE rfl (eII_good _) (eII_good [nthL t t.pieces.length j]) (eII_cell [nthL t t.pieces.length j]) (by simp; omega) (by simp; omega) ?_
      intro v' H2 hg' he' hk'
      simp only [go_sem, reduceIte, reduceCtorEq, Nat.reduceEqDiff, Nat.reduceBEq, Nat.reduceAdd, Nat.reduceMul, Nat.reduceLeDiff, g1, g4, hN, wsucc (show j < 4611686018427387904 by omega), hlt']
      refine ⟨he', hk'.box hG hB, ?_⟩
      rw [ownersUpto_succ, hT, if_pos rfl, List.map_append]; exact hg'
  · simp only [go_sem, reduceIte, reduceCtorEq, Nat.reduceEqDiff, Nat.reduceBEq, Nat.reduceAdd, Nat.reduceMul, Nat.reduceLeDiff, g1, g4, hN, hlt]
    have : j = manyR t t.pieces.length := by omega
    subst this
    refine fin_ret 2 (by simp [upd_at, hN]) ⟨_, H, ?_, rfl, rfl⟩
    simp only [upd_at, if_true]
    exact hG.weaken hE
end Go.Lift

set_option linter.unusedSimpArgs false
set_option linter.unusedVariables false
namespace Go.Lift
open Go Go.Proofs
theorem thingsR_c (h : House) : Pure Tryz.prog 25 [eH h] (i6 (thingsW h)) := by
  intro H
  refine fn_of hmix fc25 (by simp) ?_
  rw [ienv1]
  simp only [go_sem, reduceIte, reduceCtorEq, Nat.reduceEqDiff, Nat.reduceBEq, Nat.reduceAdd, Nat.reduceMul, Nat.reduceLeDiff, ac25, eH]
  refine v_box _ rfl fun b1 hb1 => ?_
  simp only [go_sem, reduceIte, reduceCtorEq, Nat.reduceEqDiff, Nat.reduceBEq, Nat.reduceAdd, Nat.reduceMul, Nat.reduceLeDiff, take_f', List.getElem?_cons_zero]
  refine fin_ret 2 (by simp [upd_at]) ⟨_, H, Settle.refl ((Ext.refl H).new hb1 _), ?_⟩
  simp [upd_at, thingsW]
theorem isThing_c (h : House) (n : Int) : Pure Tryz.prog 96 [eH h, i6 n] (.bool (thingOK h n)) := by
  intro H
  refine fn_of hmix fc96 (by simp) ?_
  rw [ienv2]
  simp only [go_sem, reduceIte, reduceCtorEq, Nat.reduceEqDiff, Nat.reduceBEq, Nat.reduceAdd, Nat.reduceMul, Nat.reduceLeDiff, ac96, eH]
  refine v_box _ rfl fun b1 hb1 => ?_
  simp only [go_sem, reduceIte, reduceCtorEq, Nat.reduceEqDiff, Nat.reduceBEq, Nat.reduceAdd, Nat.reduceMul, Nat.reduceLeDiff]
  refine (thingsR_c h).go ?_
  simp only [go_sem, reduceIte, reduceCtorEq, Nat.reduceEqDiff, Nat.reduceBEq, Nat.reduceAdd, Nat.reduceMul, Nat.reduceLeDiff]
  refine (in_c n 0 _).go ?_
  simp only [go_sem, reduceIte, reduceCtorEq, Nat.reduceEqDiff, Nat.reduceBEq, Nat.reduceAdd, Nat.reduceMul, Nat.reduceLeDiff]
  refine fin_ret 4 (by simp [upd_at]) ⟨_, H, Settle.refl ((Ext.refl H).new hb1 _), ?_⟩
  simp [upd_at, thingOK]
theorem isHour_c (h : House) (n : Int) : Pure Tryz.prog 97 [eH h, i6 n] (.bool (hourOK h n)) := by
  intro H
  refine fn_of hmix fc97 (by simp) ?_
  rw [ienv2]
  simp only [go_sem, reduceIte, reduceCtorEq, Nat.reduceEqDiff, Nat.reduceBEq, Nat.reduceAdd, Nat.reduceMul, Nat.reduceLeDiff, ac97, eH]
  refine v_box _ rfl fun b1 hb1 => ?_
  simp only [go_sem, reduceIte, reduceCtorEq, Nat.reduceEqDiff, Nat.reduceBEq, Nat.reduceAdd, Nat.reduceMul, Nat.reduceLeDiff, take_f', List.getElem?_cons_zero]
  refine (in_c n 0 _).go ?_
  simp only [go_sem, reduceIte, reduceCtorEq, Nat.reduceEqDiff, Nat.reduceBEq, Nat.reduceAdd, Nat.reduceMul, Nat.reduceLeDiff]
  refine fin_ret 4 (by simp [upd_at]) ⟨_, H, Settle.refl ((Ext.refl H).new hb1 _), ?_⟩
  simp [upd_at, hourOK]
def risingRAt (l : List Int) (limit : Int) (i : Nat) : Bool := decide (0 ≤ l.getD i 0 ∧ l.getD i 0 ≤ IntKind.i64.wrap (limit - 1)) && (decide (i = 0) || !decide (l.getD i 0 ≤ l.getD (i - 1) 0))
def risingR (l : List Int) (limit : Int) : Bool := (List.range l.length).all (risingRAt l limit)
theorem risingR_c (l : List Int) (limit : Int) (hl : Sm l.length) : Pure Tryz.prog 54 [.slice (eI l), i6 limit] (.bool (risingR l limit)) := by
  intro H
  unfold Sm at hl
  refine fn_of hmix fc54 (by simp) ?_
  rw [ienv2]
  simp only [go_sem, reduceIte, reduceCtorEq, Nat.reduceEqDiff, Nat.reduceBEq, Nat.reduceAdd, Nat.reduceMul, Nat.reduceLeDiff, ac54]
  refine x_for l.length (fun k env H1 => H1 = H ∧ env 0 = .slice (eI l) ∧ env 1 = i6 limit ∧ env 5 = i6 k ∧ env 36 = .any ∧ ∀ i, i < k → risingRAt l limit i = true) (by simp [upd_at]) ?_
  rintro k env H1 hk ⟨rfl, g0, g1, g5, hN, hm⟩
  by_cases hlt : (k : Int) < (l.length : Int)
  · have hltk : k < l.length := by omega
    have hgk : l.getD k 0 = l[k] := by simp [hltk]
    have hbad : risingRAt l limit k = false → risingR l limit = false := fun h => by
      rw [risingR, List.all_eq_false]; exact ⟨k, by simp [hltk], by simp [h]⟩
    simp only [go_sem, reduceIte, reduceCtorEq, Nat.reduceEqDiff, Nat.reduceBEq, Nat.reduceAdd, Nat.reduceMul, Nat.reduceLeDiff, g0, g1, g5, hN, hlt, eI_get hltk]
    refine pgo_call (in_c l[k] 0 _) ?_
    by_cases d1 : 0 ≤ l[k] ∧ l[k] ≤ IntKind.i64.wrap (limit - 1)
    rotate_left
    · simp only [go_sem, reduceIte, reduceCtorEq, Nat.reduceEqDiff, Nat.reduceBEq, Nat.reduceAdd, Nat.reduceMul, Nat.reduceLeDiff, d1, hN]
      refine fin_ret' 4 (by simp [upd_at, hN]) ?_
      rw [hbad (by rw [risingRAt, hgk, decide_eq_false d1]; rfl)]; simp [upd_at]
    by_cases d2 : (0 : Int) < (k : Int)
    rotate_left
    · have hk0 : k = 0 := by omega
      simp only [go_sem, reduceIte, reduceCtorEq, Nat.reduceEqDiff, Nat.reduceBEq, Nat.reduceAdd, Nat.reduceMul, Nat.reduceLeDiff, d1, d2, g0, g1, g5, hN, wsucc (show k < 4611686018427387904 by omega), hltk]
      intro i hi
      rcases Nat.lt_or_ge i k with h | h
      · exact hm i h
      · have : i = k := by omega
        subst this; rw [risingRAt, hgk, decide_eq_true d1]; simp [hk0]
    have hgk1 : l.getD (k - 1) 0 = l[k - 1] := by simp [show k - 1 < l.length by omega]
    have hk0 : ¬ k = 0 := by omega
    by_cases d3 : l[k] ≤ l[k - 1]
    · simp only [go_sem, reduceIte, reduceCtorEq, Nat.reduceEqDiff, Nat.reduceBEq, Nat.reduceAdd, Nat.reduceMul, Nat.reduceLeDiff, d1, d2, d3, g0, g1, g5, hN, wpred (show k < 4611686018427387904 by omega) (show 0 < k by omega), eI_get hltk, eI_get (show k - 1 < l.length by omega)]
      refine fin_ret' 4 (by simp [upd_at, hN]) ?_
      rw [hbad (by rw [risingRAt, hgk, hgk1, decide_eq_true d3, decide_eq_false hk0]; simp)]; simp [upd_at]
    · simp only [go_sem, reduceIte, reduceCtorEq, Nat.reduceEqDiff, Nat.reduceBEq, Nat.reduceAdd, Nat.reduceMul, Nat.reduceLeDiff, d1, d2, d3, g0, g1, g5, hN, wpred (show k < 4611686018427387904 by omega) (show 0 < k by omega), eI_get hltk, eI_get (show k - 1 < l.length by omega), wsucc (show k < 4611686018427387904 by omega), hltk]
      intro i hi
      rcases Nat.lt_or_ge i k with h | h
      · exact hm i h
      · have : i = k := by omega
        subst this; rw [risingRAt, hgk, hgk1, decide_eq_true d1, decide_eq_false d3]; simp
  · simp only [go_sem, reduceIte, reduceCtorEq, Nat.reduceEqDiff, Nat.reduceBEq, Nat.reduceAdd, Nat.reduceMul, Nat.reduceLeDiff, g0, g1, g5, hN, hlt]
    have : k = l.length := by omega
    subst this
    refine fin_ret' 4 (by simp [upd_at, hN]) ?_
    have : risingR l limit = true := by rw [risingR, List.all_eq_true]; intro i hi; exact hm i (by simpa using hi)
    simp [upd_at, this]
theorem rising_eq (l : List Int) (limit : Int) (h0 : 0 ≤ limit) (h1 : limit < 4611686018427387904) : risingOK l limit = risingR l limit := by
  have hw := w64 (x := limit - 1) (by omega) (by omega)
  have key : ∀ n, (∀ i, i < n → risingAt l limit i = true) ↔ (∀ i, i < n → risingRAt l limit i = true) := by
    intro n
    induction n with
    | zero => constructor <;> intro _ i hi <;> omega
    | succ n ih =>
      have step : (∀ i, i < n → risingRAt l limit i = true) → (risingAt l limit n = true ↔ risingRAt l limit n = true) := by
        intro hp
        simp only [risingAt, risingRAt, hw, lastAt]
        cases n with
        | zero => simp [w64]
        | succ m =>
          have hm := hp m (by omega)
          simp only [risingRAt, hw, Bool.and_eq_true, decide_eq_true_eq] at hm
          have h2 := hm.1
          have hw2 := w64 (x := l.getD m 0 + 1) (by omega) (by omega)
          simp only [Nat.add_one_ne_zero, if_false, Nat.add_sub_cancel, hw2, decide_eq_true_eq, Bool.and_eq_true, decide_false, Bool.false_or, Bool.not_eq_true', decide_eq_false_iff_not]
          omega
      constructor
      · intro h i hi
        have h' := ih.1 fun i hi => h i (by omega)
        rcases Nat.lt_or_ge i n with h2 | h2
        · exact h' i h2
        · have : i = n := by omega
          subst this; exact (step h').1 (h i (by omega))
      · intro h i hi
        have h' : ∀ i, i < n → risingRAt l limit i = true := fun i hi => h i (by omega)
        rcases Nat.lt_or_ge i n with h2 | h2
        · exact ih.2 h' i h2
        · have : i = n := by omega
          subst this; exact (step h').2 (h i (by omega))
  have := key l.length
  rw [Bool.eq_iff_iff]
  simp only [risingOK, risingR, List.all_eq_true, List.mem_range]
  exact this
theorem enumG_snoc (f : Nat → List Int) : ∀ (k : Nat) (pre : List Int), enumG f (k + 1) pre = (enumG f k pre).flatMap fun o => (f (pre.length + k)).map fun w => o ++ [w]
  | 0, pre => by simp [enumG, List.map_eq_flatMap]
  | k + 1, pre => by
    rw [enumG]
    conv => rhs; rw [enumG, List.flatMap_assoc]
    congr 1
    funext w
    rw [enumG_snoc f k (pre ++ [w])]
    congr 1
    funext o
    rw [List.length_append, List.length_singleton, show pre.length + 1 + k = pre.length + (k + 1) by omega]
theorem range_mul (b : Nat) : ∀ a, List.range (a * b) = (List.range a).flatMap fun q => (List.range b).map fun r => q * b + r
  | 0 => by simp
  | a + 1 => by
    rw [Nat.add_mul, Nat.one_mul, List.range_add, range_mul b a, List.range_succ, List.flatMap_append]
    simp
theorem allO_nth (t : Table) : ∀ k, (∀ i, i < k → 1 ≤ womN t i) → enumO t k [] = (List.range (prodL (womN t) 0 k)).map (nthL t k)
  | 0, _ => rfl
  | k + 1, hp => by
    have hk := hp k (by omega)
    rw [enumO_eq, enumG_snoc, ← enumO_eq, allO_nth t k (fun i hi => hp i (by omega)), prodL_snoc, range_mul, List.map_flatMap, List.flatMap_map]
    simp only [List.length_nil, Nat.zero_add]
    congr 1
    funext q
    rw [List.map_map]
    have hof : womenOf t.women (t.pieces.getD k default).marks = ofAt t k := rfl
    rw [hof]
    apply List.ext_getElem
    · simp [womN, ofAt]
    · intro i h1 h2
      simp only [List.length_map, List.length_range] at h1 h2
      simp only [List.getElem_map, List.getElem_range, Function.comp]
      rw [nthL]
      have e1 : (q * womN t k + i) / womN t k = q := by
        rw [Nat.mul_comm, Nat.mul_add_div hk, Nat.div_eq_of_lt h2, Nat.add_zero]
      have e2 : (q * womN t k + i) % womN t k = i := by
        rw [Nat.mul_comm, Nat.mul_add_mod, Nat.mod_eq_of_lt h2]
      rw [e1, e2]
      simp [h1]
theorem truthsR_eq {t : Table} (hc : checkTable t = 0) : truthsR t = (allO t).filter (isTruthR t) := by
  have hp := prodO_le hc
  rw [truthsR, ownersUpto, manyR, Nat.min_eq_right (by omega), allO, allO_nth t _ (womN_pos hc)]
theorem truths_nil {t : Table} (hc : checkTable t = 0) : truthsR t = [] ↔ truthsT t = [] := by
  constructor
  · intro h
    rw [truthsT]
    cases hq : truthsUpto t (allO t) with
    | nil => rfl
    | cons q l =>
      obtain ⟨o, ho, _, hw⟩ := (truthsUpto_mem t (allO t) q).1 (by rw [hq]; exact List.mem_cons_self)
      have : o ∈ truthsR t := by
        rw [truthsR_eq hc, List.mem_filter]
        exact ⟨ho, by rw [isTruthR, (mem_allO t o).1 ho, decide_eq_true hw]; rfl⟩
      rw [h] at this; cases this
  · intro h
    cases hq : truthsR t with
    | nil => rfl
    | cons o l =>
      have : o ∈ truthsR t := by rw [hq]; exact List.mem_cons_self
      rw [truthsR_eq hc, List.mem_filter] at this
      simp only [isTruthR, Bool.and_eq_true, decide_eq_true_eq] at this
      have h2 := (truthsUpto_mem t (allO t) (pad7 o)).2 ⟨o, this.1, rfl, this.2.2⟩
      rw [show truthsUpto t (allO t) = truthsT t from rfl, h] at h2; cases h2
end Go.Lift

set_option linter.unusedSimpArgs false
set_option linter.unusedVariables false
namespace Go.Lift
open Go Go.Proofs
def timesR (h : House) (j : Nat) : Nat := min 3000 (prodL (hourN h) 0 j)
theorem timesR_c (h : House) (htl : h.touches.length ≤ 6) (ht : ∀ x ∈ h.touches, 0 ≤ x.lo ∧ x.lo ≤ x.hi ∧ x.hi ≤ 5) : Pure Tryz.prog 89 [eH h] (i6 (timesR h h.touches.length : Nat)) := by
  intro H
  refine fn_of hmix fc89 (by simp) ?_
  rw [ienv1]
  simp only [go_sem, reduceIte, reduceCtorEq, Nat.reduceEqDiff, Nat.reduceBEq, Nat.reduceAdd, Nat.reduceMul, Nat.reduceLeDiff, ac89, eH]
  refine v_box _ rfl fun b1 hb1 => ?_
  simp only [go_sem, reduceIte, reduceCtorEq, Nat.reduceEqDiff, Nat.reduceBEq, Nat.reduceAdd, Nat.reduceMul, Nat.reduceLeDiff]
  refine x_for h.touches.length (fun j env H1 => Ext H H1 ∧ H1 b1 = some (.box [.slice (h.table.women.map eW), .slice (h.table.pieces.map eP), i6 h.table.wrong, .slice (eI h.sick), i6 h.others, i6 h.last, .slice (h.touches.map eTo), .slice (h.boiled.map eB), .slice (h.signs.map eS)]) ∧ env 1 = .ptr b1 0 ∧ env 3 = i6 (timesR h j : Nat) ∧ env 4 = i6 j ∧ env 32 = .any)
    ⟨(Ext.refl H).new hb1 _, updH_same _ _ _, by simp [upd_at], by simp [upd_at, timesR, prodL], by simp [upd_at], by simp [upd_at]⟩ ?_
  rintro j env H1 hj ⟨hE, hB, g1, g3, g4, hN⟩
  by_cases hlt : (j : Int) < (h.touches.length : Int)
  · have hlt' : j < h.touches.length := by omega
    have hget : h.touches.getD j default = h.touches[j] := by simp [hlt']
    have hx := ht _ (List.getElem_mem hlt')
    have hsz : h.touches[j].hi - h.touches[j].lo + 1 = ((hourN h j : Nat) : Int) := by rw [hourN, hget]; omega
    have hw1 := w64 (x := h.touches[j].hi - h.touches[j].lo) (by omega) (by omega)
    have hw2 : IntKind.i64.wrap (h.touches[j].hi - h.touches[j].lo + 1) = ((hourN h j : Nat) : Int) := by rw [w64 (by omega) (by omega), hsz]
    have hn6 : hourN h j ≤ 6 := by omega
    have hmr : timesR h j ≤ 3000 := Nat.min_le_left _ _
    have hmul : timesR h j * hourN h j ≤ 3000 * 6 := Nat.mul_le_mul hmr hn6
    have hcast : ((timesR h j : Nat) : Int) * ((hourN h j : Nat) : Int) = ((timesR h j * hourN h j : Nat) : Int) := by simp
    have hw : IntKind.i64.wrap (((timesR h j : Nat) : Int) * ((hourN h j : Nat) : Int)) = ((timesR h j : Nat) : Int) * ((hourN h j : Nat) : Int) := by
      rw [hcast]; exact w64 (by omega) (by omega)
    have hcap : (if ((timesR h j : Nat) : Int) * ((hourN h j : Nat) : Int) < 3000 then ((timesR h j : Nat) : Int) * ((hourN h j : Nat) : Int) else 3000) = ((timesR h (j + 1) : Nat) : Int) := by
      rw [show timesR h (j + 1) = min 3000 (prodL (hourN h) 0 j * hourN h j) by rw [timesR, prodL_snoc, Nat.zero_add]]
      exact capmin 3000 (prodL (hourN h) 0 j) (hourN h j)
    simp only [go_sem, reduceIte, reduceCtorEq, Nat.reduceEqDiff, Nat.reduceBEq, Nat.reduceAdd, Nat.reduceMul, Nat.reduceLeDiff, g1, g3, g4, hN, hB, hlt, take_f', List.getElem?_cons_zero, map_get (f := eTo) hlt', eTo, hw1, hw2, hw, hcap, wsucc (show j < 4611686018427387904 by omega), hlt']
    exact hE
  · simp only [go_sem, reduceIte, reduceCtorEq, Nat.reduceEqDiff, Nat.reduceBEq, Nat.reduceAdd, Nat.reduceMul, Nat.reduceLeDiff, g1, g3, g4, hN, hB, hlt, take_f', List.getElem?_cons_zero]
    have : j = h.touches.length := by omega
    subst this
    refine fin_ret 2 (by simp [upd_at, hN]) ⟨_, H, Settle.refl hE, ?_, rfl⟩
    simp [upd_at]
theorem manyH_iff (h : House) (hc : checkTable h.table = 0) (ht : ∀ x ∈ h.touches, 0 ≤ x.lo ∧ x.lo ≤ x.hi ∧ x.hi ≤ 5) :
    2000 < manyH h ↔ 2000 < (manyR h.table h.table.pieces.length) * (timesR h h.touches.length) := by
  have hpos : ∀ i, i < h.touches.length → 1 ≤ hourN h i := fun i hi => by
    have := ht _ (List.getElem_mem hi)
    have hg : h.touches.getD i default = h.touches[i] := by simp [hi]
    rw [hourN, hg]; omega
  have hP := prodO_le hc
  rw [manyH, manyUpto_eq h.table (womN_pos hc) _ (Nat.le_refl _), timesUpto_eq h _ hpos _ (Nat.le_refl _), manyR, timesR]
  generalize prodL (womN h.table) 0 h.table.pieces.length = p at hP ⊢
  generalize prodL (hourN h) 0 h.touches.length = q
  rw [Nat.min_eq_right (show p ≤ 3000 by omega)]
  rcases Nat.lt_or_ge 3000 q with hq | hq
  · rw [Nat.min_eq_left (show 3000 ≤ q by omega)]
    rcases Nat.eq_zero_or_pos p with rfl | hp
    · simp
    · have h1 : 3000 ≤ p * 3000 := by omega
      have h2 : p * 3000 ≤ p * q := Nat.mul_le_mul_left p (by omega)
      omega
  · rw [Nat.min_eq_right hq]; omega
theorem faultH_c (h : House) (hs : TSm h.table) (hsk : Sm h.sick.length) : Pure Tryz.prog 42 [eH h] (i6 (checkHouse h)) := by
  intro H
  refine fn_of hmix fc42 (by simp) ?_
  rw [ienv1]
  simp only [go_sem, reduceIte, reduceCtorEq, Nat.reduceEqDiff, Nat.reduceBEq, Nat.reduceAdd, Nat.reduceMul, Nat.reduceLeDiff, ac42, eH]
  refine v_box _ rfl fun b1 hb1 => ?_
  have e1 := (Ext.refl H).new hb1 (.box [.slice (h.table.women.map eW), .slice (h.table.pieces.map eP), i6 h.table.wrong, .slice (eI h.sick), i6 h.others, i6 h.last, .slice (h.touches.map eTo), .slice (h.boiled.map eB), .slice (h.signs.map eS)])
  simp only [go_sem, reduceIte, reduceCtorEq, Nat.reduceEqDiff, Nat.reduceBEq, Nat.reduceAdd, Nat.reduceMul, Nat.reduceLeDiff]
  by_cases c1 : bigH h
  · have hres : checkHouse h = 3 := by rw [checkHouse, if_pos c1]
    unfold bigH at c1
    by_cases d1 : 5 < h.last
    · simp only [go_sem, reduceIte, reduceCtorEq, Nat.reduceEqDiff, Nat.reduceBEq, Nat.reduceAdd, Nat.reduceMul, Nat.reduceLeDiff, d1]
      refine fin_ret 2 (by simp [upd_at]) ⟨_, H, Settle.refl e1, by simp [upd_at, hres], rfl⟩
    by_cases d2 : 10 < h.others
    · simp only [go_sem, reduceIte, reduceCtorEq, Nat.reduceEqDiff, Nat.reduceBEq, Nat.reduceAdd, Nat.reduceMul, Nat.reduceLeDiff, d1, d2]
      refine fin_ret 2 (by simp [upd_at]) ⟨_, H, Settle.refl e1, by simp [upd_at, hres], rfl⟩
    by_cases d3 : 6 < (h.touches.length : Int)
    · simp only [go_sem, reduceIte, reduceCtorEq, Nat.reduceEqDiff, Nat.reduceBEq, Nat.reduceAdd, Nat.reduceMul, Nat.reduceLeDiff, d1, d2, d3]
      refine fin_ret 2 (by simp [upd_at]) ⟨_, H, Settle.refl e1, by simp [upd_at, hres], rfl⟩
    by_cases d4 : 4 < (h.boiled.length : Int)
    · simp only [go_sem, reduceIte, reduceCtorEq, Nat.reduceEqDiff, Nat.reduceBEq, Nat.reduceAdd, Nat.reduceMul, Nat.reduceLeDiff, d1, d2, d3, d4]
      refine fin_ret 2 (by simp [upd_at]) ⟨_, H, Settle.refl e1, by simp [upd_at, hres], rfl⟩
    have d5 : 5 < (h.signs.length : Int) := by
      rcases c1 with c | c | c | c | c
      · exact absurd c d1
      · exact absurd c d2
      · exact absurd c d3
      · exact absurd c d4
      · exact c
    simp only [go_sem, reduceIte, reduceCtorEq, Nat.reduceEqDiff, Nat.reduceBEq, Nat.reduceAdd, Nat.reduceMul, Nat.reduceLeDiff, d1, d2, d3, d4, d5]
    refine fin_ret 2 (by simp [upd_at]) ⟨_, H, Settle.refl e1, by simp [upd_at, hres], rfl⟩
  have hc1 := c1
  unfold bigH at c1
  simp only [not_or] at c1
  obtain ⟨d1, d2, d3, d4, d5⟩ := c1
  simp only [go_sem, reduceIte, reduceCtorEq, Nat.reduceEqDiff, Nat.reduceBEq, Nat.reduceAdd, Nat.reduceMul, Nat.reduceLeDiff, d1, d2, d3, d4, d5]
  refine (faultT_c h.table hs).go ?_
  by_cases c0 : checkTable h.table = 0
  rotate_left
  · have hask : askErr h.table = checkTable h.table := by rw [askErr, if_neg c0]
    have hres : checkHouse h = checkTable h.table := by rw [checkHouse, if_neg hc1, if_pos (by rw [hask]; exact c0), hask]
    simp only [go_sem, reduceIte, reduceCtorEq, Nat.reduceEqDiff, Nat.reduceBEq, Nat.reduceAdd, Nat.reduceMul, Nat.reduceLeDiff, c0]
    refine fin_ret 2 (by simp [upd_at]) ⟨_, H, Settle.refl e1, by simp [upd_at, hres], rfl⟩
  obtain ⟨hw5, hp7⟩ := checkTable_len c0
  simp only [go_sem, reduceIte, reduceCtorEq, Nat.reduceEqDiff, Nat.reduceBEq, Nat.reduceAdd, Nat.reduceMul, Nat.reduceLeDiff, c0]
  refine (truthsR_c h.table hs c0).go ?_
  have hnil := truths_nil c0
  by_cases c2 : ((truthsR h.table).length : Int) = 0
  · have hask : askErr h.table = 11 := by rw [askErr, if_pos c0, if_pos (hnil.1 (List.length_eq_zero_iff.1 (by omega)))]
    have hres : checkHouse h = 11 := by rw [checkHouse, if_neg hc1, if_pos (by rw [hask]; omega), hask]
    simp only [go_sem, reduceIte, reduceCtorEq, Nat.reduceEqDiff, Nat.reduceBEq, Nat.reduceAdd, Nat.reduceMul, Nat.reduceLeDiff, eII, c2]
    refine fin_ret 2 (by simp [upd_at]) ⟨_, H, Settle.refl e1, by simp [upd_at, hres], rfl⟩
  have hask : askErr h.table = 0 := by
    rw [askErr, if_pos c0, if_neg]
    intro h0; exact c2 (by rw [hnil.2 h0]; rfl)
  have hc2 : ¬ (askErr h.table ≠ 0) := fun h => h hask
  have hreq := rising_eq h.sick h.table.women.length (by omega) (by omega)
  simp only [go_sem, reduceIte, reduceCtorEq, Nat.reduceEqDiff, Nat.reduceBEq, Nat.reduceAdd, Nat.reduceMul, Nat.reduceLeDiff, eII, c2]
  by_cases c3 : badH h
  · have hres : checkHouse h = 1 := by rw [checkHouse, if_neg hc1, if_neg hc2, if_pos c3]
    unfold badH at c3
    by_cases f1 : h.last < 0
    · simp only [go_sem, reduceIte, reduceCtorEq, Nat.reduceEqDiff, Nat.reduceBEq, Nat.reduceAdd, Nat.reduceMul, Nat.reduceLeDiff, f1]
      refine fin_ret 2 (by simp [upd_at]) ⟨_, H, Settle.refl e1, by simp [upd_at, hres], rfl⟩
    by_cases f2 : h.others < 0
    · simp only [go_sem, reduceIte, reduceCtorEq, Nat.reduceEqDiff, Nat.reduceBEq, Nat.reduceAdd, Nat.reduceMul, Nat.reduceLeDiff, f1, f2]
      refine fin_ret 2 (by simp [upd_at]) ⟨_, H, Settle.refl e1, by simp [upd_at, hres], rfl⟩
    simp only [go_sem, reduceIte, reduceCtorEq, Nat.reduceEqDiff, Nat.reduceBEq, Nat.reduceAdd, Nat.reduceMul, Nat.reduceLeDiff, f1, f2]
    refine (thingsR_c h).go ?_
    by_cases f3 : 10 < thingsW h
    · simp only [go_sem, reduceIte, reduceCtorEq, Nat.reduceEqDiff, Nat.reduceBEq, Nat.reduceAdd, Nat.reduceMul, Nat.reduceLeDiff, f3]
      refine fin_ret 2 (by simp [upd_at]) ⟨_, H, Settle.refl e1, by simp [upd_at, hres], rfl⟩
    have f4 : risingR h.sick h.table.women.length = false := by
      rw [← hreq]
      rcases c3 with c | c | c | c
      · exact absurd c f1
      · exact absurd c f2
      · exact absurd c f3
      · exact c
    simp only [go_sem, reduceIte, reduceCtorEq, Nat.reduceEqDiff, Nat.reduceBEq, Nat.reduceAdd, Nat.reduceMul, Nat.reduceLeDiff, f3]
    refine (risingR_c h.sick _ hsk).go ?_
    simp only [go_sem, reduceIte, reduceCtorEq, Nat.reduceEqDiff, Nat.reduceBEq, Nat.reduceAdd, Nat.reduceMul, Nat.reduceLeDiff, f4]
    refine fin_ret 2 (by simp [upd_at]) ⟨_, H, Settle.refl e1, by simp [upd_at, hres], rfl⟩
  have hc3 := c3
  unfold badH at c3
  simp only [not_or, Bool.not_eq_false] at c3
  obtain ⟨f1, f2, f3, f4⟩ := c3
  have f4' : risingR h.sick h.table.women.length = true := by rw [← hreq]; exact f4
  simp only [go_sem, reduceIte, reduceCtorEq, Nat.reduceEqDiff, Nat.reduceBEq, Nat.reduceAdd, Nat.reduceMul, Nat.reduceLeDiff, f1, f2]
  refine (thingsR_c h).go ?_
  simp only [go_sem, reduceIte, reduceCtorEq, Nat.reduceEqDiff, Nat.reduceBEq, Nat.reduceAdd, Nat.reduceMul, Nat.reduceLeDiff, f3]
  refine (risingR_c h.sick _ hsk).go ?_
  simp only [go_sem, reduceIte, reduceCtorEq, Nat.reduceEqDiff, Nat.reduceBEq, Nat.reduceAdd, Nat.reduceMul, Nat.reduceLeDiff, f4']
  -- the touches
  refine x_for h.touches.length (fun j env H1 => Ext H H1 ∧ H1 b1 = some (.box [.slice (h.table.women.map eW), .slice (h.table.pieces.map eP), i6 h.table.wrong, .slice (eI h.sick), i6 h.others, i6 h.last, .slice (h.touches.map eTo), .slice (h.boiled.map eB), .slice (h.signs.map eS)]) ∧ env 1 = .ptr b1 0 ∧ env 4 = i6 j ∧ env 175 = .any ∧ ∀ i, i < j → touchOK h (h.touches.getD i default) = true)
    ⟨e1, updH_same _ _ _, by simp [upd_at], by simp [upd_at], by simp [upd_at], by simp⟩ ?_
  rintro j env H1 hj ⟨hE, hB, g1, g4, hN, hq⟩
  by_cases hlt : (j : Int) < (h.touches.length : Int)
  · have hlt' : j < h.touches.length := by omega
    have hget : h.touches.getD j default = h.touches[j] := by simp [hlt']
    obtain ⟨x, hx⟩ : ∃ x, x = h.touches[j] := ⟨_, rfl⟩
    have hbad : touchOK h x = false → checkHouse h = 1 := fun hw => by
      have : ¬ allH h := fun ha => by
        have := List.all_eq_true.1 ha.1 _ (List.getElem_mem hlt')
        rw [← hx, hw] at this; cases this
      rw [checkHouse, if_neg hc1, if_neg hc2, if_neg hc3, if_pos this]
    simp only [go_sem, reduceIte, reduceCtorEq, Nat.reduceEqDiff, Nat.reduceBEq, Nat.reduceAdd, Nat.reduceMul, Nat.reduceLeDiff, g1, g4, hN, hlt, hB, take_f', List.getElem?_cons_zero, map_get (f := eTo) hlt', ← hx, eTo]
    refine v_alloc fun b5 hb5 => ?_
    have n15 : b1 ≠ b5 := fun h => by subst h; rw [hB] at hb5; cases hb5
    simp only [go_sem, reduceIte, reduceCtorEq, Nat.reduceEqDiff, Nat.reduceBEq, Nat.reduceAdd, Nat.reduceMul, Nat.reduceLeDiff, g1, g4, hN]
    rw [v_store]
    refine ⟨rfl, rfl, by simp [AV.cells, AV.isCell], _, updH_same _ _ _, by simp, ?_⟩
    have hE5 : ∀ o1 o2, Ext H (updH (updH H1 b5 o1) b5 o2) := fun o1 o2 => (hE.new hb5 _).upd (hE.isNone hb5) _
    simp only [go_sem, reduceIte, reduceCtorEq, Nat.reduceEqDiff, Nat.reduceBEq, Nat.reduceAdd, Nat.reduceMul, Nat.reduceLeDiff, g1, g4, hN, placeAt, List.append_nil, List.nil_append, List.drop_nil, updH_ne _ _ n15, hB, take_f', List.getElem?_cons_zero]
    refine (isThing_c h x.a).go ?_
    cases k1 : thingOK h x.a
    · simp only [go_sem, reduceIte, reduceCtorEq, Nat.reduceEqDiff, Nat.reduceBEq, Nat.reduceAdd, Nat.reduceMul, Nat.reduceLeDiff, hN]
      refine fin_ret 2 (by simp [upd_at, hN]) ⟨_, H, Settle.refl (hE5 _ _), ?_, rfl⟩
      rw [hbad (by rw [touchOK, k1]; rfl)]; simp [upd_at]
    simp only [go_sem, reduceIte, reduceCtorEq, Nat.reduceEqDiff, Nat.reduceBEq, Nat.reduceAdd, Nat.reduceMul, Nat.reduceLeDiff, g1, g4, hN, updH_ne _ _ n15, hB, take_f', List.getElem?_cons_zero]
    refine (isThing_c h x.b).go ?_
    cases k2 : thingOK h x.b
    · simp only [go_sem, reduceIte, reduceCtorEq, Nat.reduceEqDiff, Nat.reduceBEq, Nat.reduceAdd, Nat.reduceMul, Nat.reduceLeDiff, hN]
      refine fin_ret 2 (by simp [upd_at, hN]) ⟨_, H, Settle.refl (hE5 _ _), ?_, rfl⟩
      rw [hbad (by rw [touchOK, k1, k2]; rfl)]; simp [upd_at]
    by_cases k3 : x.a = x.b
    · simp only [go_sem, reduceIte, reduceCtorEq, Nat.reduceEqDiff, Nat.reduceBEq, Nat.reduceAdd, Nat.reduceMul, Nat.reduceLeDiff, hN, k3, take_f', List.getElem?_cons_zero]
      refine fin_ret 2 (by simp [upd_at, hN]) ⟨_, H, Settle.refl (hE5 _ _), ?_, rfl⟩
      rw [hbad (by rw [touchOK, decide_eq_true k3]; simp)]; simp [upd_at]
    simp only [go_sem, reduceIte, reduceCtorEq, Nat.reduceEqDiff, Nat.reduceBEq, Nat.reduceAdd, Nat.reduceMul, Nat.reduceLeDiff, g1, g4, hN, k3, updH_ne _ _ n15, hB, take_f', List.getElem?_cons_zero]
    refine (isHour_c h x.lo).go ?_
    cases k4 : hourOK h x.lo
    · simp only [go_sem, reduceIte, reduceCtorEq, Nat.reduceEqDiff, Nat.reduceBEq, Nat.reduceAdd, Nat.reduceMul, Nat.reduceLeDiff, hN]
      refine fin_ret 2 (by simp [upd_at, hN]) ⟨_, H, Settle.refl (hE5 _ _), ?_, rfl⟩
      rw [hbad (by rw [touchOK, k4]; simp)]; simp [upd_at]
    simp only [go_sem, reduceIte, reduceCtorEq, Nat.reduceEqDiff, Nat.reduceBEq, Nat.reduceAdd, Nat.reduceMul, Nat.reduceLeDiff, g1, g4, hN, updH_ne _ _ n15, hB, take_f', List.getElem?_cons_zero]
    refine (isHour_c h x.hi).go ?_
    cases k5 : hourOK h x.hi
    · simp only [go_sem, reduceIte, reduceCtorEq, Nat.reduceEqDiff, Nat.reduceBEq, Nat.reduceAdd, Nat.reduceMul, Nat.reduceLeDiff, hN]
      refine fin_ret 2 (by simp [upd_at, hN]) ⟨_, H, Settle.refl (hE5 _ _), ?_, rfl⟩
      rw [hbad (by rw [touchOK, k5]; simp)]; simp [upd_at]
    by_cases k6 : x.hi < x.lo
    · simp only [go_sem, reduceIte, reduceCtorEq, Nat.reduceEqDiff, Nat.reduceBEq, Nat.reduceAdd, Nat.reduceMul, Nat.reduceLeDiff, hN, k6, take_f', List.getElem?_cons_zero]
      refine fin_ret 2 (by simp [upd_at, hN]) ⟨_, H, Settle.refl (hE5 _ _), ?_, rfl⟩
      rw [hbad (by rw [touchOK, decide_eq_false (show ¬ x.lo ≤ x.hi by omega)]; simp)]; simp [upd_at]
    simp only [go_sem, reduceIte, reduceCtorEq, Nat.reduceEqDiff, Nat.reduceBEq, Nat.reduceAdd, Nat.reduceMul, Nat.reduceLeDiff, g1, g4, hN, k6, updH_ne _ _ n15, hB, take_f', List.getElem?_cons_zero, wsucc (show j < 4611686018427387904 by omega), hlt']
    refine ⟨hE5 _ _, fun i hi => ?_⟩
    rcases Nat.lt_or_ge i j with h' | h'
    · exact hq i h'
    · have : i = j := by omega
      subst this
      rw [hget, ← hx, touchOK, k1, k2, k4, k5, decide_eq_false k3, decide_eq_true (show x.lo ≤ x.hi by omega)]; rfl
  have hj' : j = h.touches.length := by omega
  subst hj'
  have t1 : h.touches.all (touchOK h) = true := List.all_eq_true.2 fun w hw => by
    obtain ⟨i, hi, rfl⟩ := List.getElem_of_mem hw
    have := hq i hi
    rwa [show h.touches.getD i default = h.touches[i] by simp [hi]] at this
  simp only [go_sem, reduceIte, reduceCtorEq, Nat.reduceEqDiff, Nat.reduceBEq, Nat.reduceAdd, Nat.reduceMul, Nat.reduceLeDiff, g1, g4, hN, hlt, hB, take_f', List.getElem?_cons_zero]
  -- the boilings
  refine x_for h.boiled.length (fun j env H1 => Ext H H1 ∧ H1 b1 = some (.box [.slice (h.table.women.map eW), .slice (h.table.pieces.map eP), i6 h.table.wrong, .slice (eI h.sick), i6 h.others, i6 h.last, .slice (h.touches.map eTo), .slice (h.boiled.map eB), .slice (h.signs.map eS)]) ∧ env 1 = .ptr b1 0 ∧ env 6 = i6 j ∧ env 175 = .any ∧ ∀ i, i < j → boilOK h (h.boiled.getD i default) = true)
    ⟨hE, hB, by simp [upd_at, g1], by simp [upd_at], by simp [upd_at, hN], by simp⟩ ?_
  clear hE hB g1 g4 hN hq hlt hj env H1
  rintro j env H1 hj ⟨hE, hB, g1, g6, hN, hq⟩
  by_cases hlt : (j : Int) < (h.boiled.length : Int)
  · have hlt' : j < h.boiled.length := by omega
    have hget : h.boiled.getD j default = h.boiled[j] := by simp [hlt']
    obtain ⟨x, hx⟩ : ∃ x, x = h.boiled[j] := ⟨_, rfl⟩
    have hbad : boilOK h x = false → checkHouse h = 1 := fun hw => by
      have : ¬ allH h := fun ha => by
        have := List.all_eq_true.1 ha.2.1 _ (List.getElem_mem hlt')
        rw [← hx, hw] at this; cases this
      rw [checkHouse, if_neg hc1, if_neg hc2, if_neg hc3, if_pos this]
    simp only [go_sem, reduceIte, reduceCtorEq, Nat.reduceEqDiff, Nat.reduceBEq, Nat.reduceAdd, Nat.reduceMul, Nat.reduceLeDiff, g1, g6, hN, hlt, hB, take_f', List.getElem?_cons_zero, map_get (f := eB) hlt', ← hx, eB]
    refine pgo_call (isThing_c h x.thing) ?_
    cases k1 : thingOK h x.thing
    · simp only [go_sem, reduceIte, reduceCtorEq, Nat.reduceEqDiff, Nat.reduceBEq, Nat.reduceAdd, Nat.reduceMul, Nat.reduceLeDiff, hN]
      refine fin_ret 2 (by simp [upd_at, hN]) ⟨_, H, Settle.refl hE, ?_, rfl⟩
      rw [hbad (by rw [boilOK, k1]; rfl)]; simp [upd_at]
    simp only [go_sem, reduceIte, reduceCtorEq, Nat.reduceEqDiff, Nat.reduceBEq, Nat.reduceAdd, Nat.reduceMul, Nat.reduceLeDiff, g1, g6, hN, hB, take_f', List.getElem?_cons_zero, List.getElem?_cons_succ, map_get (f := eB) hlt', ← hx, eB]
    refine pgo_call (isHour_c h x.hour) ?_
    cases k2 : hourOK h x.hour
    · simp only [go_sem, reduceIte, reduceCtorEq, Nat.reduceEqDiff, Nat.reduceBEq, Nat.reduceAdd, Nat.reduceMul, Nat.reduceLeDiff, hN]
      refine fin_ret 2 (by simp [upd_at, hN]) ⟨_, H, Settle.refl hE, ?_, rfl⟩
      rw [hbad (by rw [boilOK, k2]; simp)]; simp [upd_at]
    simp only [go_sem, reduceIte, reduceCtorEq, Nat.reduceEqDiff, Nat.reduceBEq, Nat.reduceAdd, Nat.reduceMul, Nat.reduceLeDiff, g1, g6, hN, hB, wsucc (show j < 4611686018427387904 by omega), hlt']
    refine ⟨hE, fun i hi => ?_⟩
    rcases Nat.lt_or_ge i j with h' | h'
    · exact hq i h'
    · have : i = j := by omega
      subst this
      rw [hget, ← hx, boilOK, k1, k2]; rfl
  have hj' : j = h.boiled.length := by omega
  subst hj'
  have t2 : h.boiled.all (boilOK h) = true := List.all_eq_true.2 fun w hw => by
    obtain ⟨i, hi, rfl⟩ := List.getElem_of_mem hw
    have := hq i hi
    rwa [show h.boiled.getD i default = h.boiled[i] by simp [hi]] at this
  simp only [go_sem, reduceIte, reduceCtorEq, Nat.reduceEqDiff, Nat.reduceBEq, Nat.reduceAdd, Nat.reduceMul, Nat.reduceLeDiff, g1, g6, hN, hlt, hB, take_f', List.getElem?_cons_zero]
  -- the signs
  refine x_for h.signs.length (fun j env H1 => Ext H H1 ∧ H1 b1 = some (.box [.slice (h.table.women.map eW), .slice (h.table.pieces.map eP), i6 h.table.wrong, .slice (eI h.sick), i6 h.others, i6 h.last, .slice (h.touches.map eTo), .slice (h.boiled.map eB), .slice (h.signs.map eS)]) ∧ env 1 = .ptr b1 0 ∧ env 7 = i6 j ∧ env 175 = .any ∧ ∀ i, i < j → thingOK h (h.signs.getD i default).thing = true)
    ⟨hE, hB, by simp [upd_at, g1], by simp [upd_at], by simp [upd_at, hN], by simp⟩ ?_
  clear hE hB g1 g6 hN hq hlt hj env H1
  rintro j env H1 hj ⟨hE, hB, g1, g7, hN, hq⟩
  by_cases hlt : (j : Int) < (h.signs.length : Int)
  · have hlt' : j < h.signs.length := by omega
    have hget : h.signs.getD j default = h.signs[j] := by simp [hlt']
    obtain ⟨x, hx⟩ : ∃ x, x = h.signs[j] := ⟨_, rfl⟩
    have hbad : thingOK h x.thing = false → checkHouse h = 1 := fun hw => by
      have : ¬ allH h := fun ha => by
        have := List.all_eq_true.1 ha.2.2 _ (List.getElem_mem hlt')
        rw [← hx, hw] at this; cases this
      rw [checkHouse, if_neg hc1, if_neg hc2, if_neg hc3, if_pos this]
    simp only [go_sem, reduceIte, reduceCtorEq, Nat.reduceEqDiff, Nat.reduceBEq, Nat.reduceAdd, Nat.reduceMul, Nat.reduceLeDiff, g1, g7, hN, hlt, hB, take_f', List.getElem?_cons_zero, map_get (f := eS) hlt', ← hx, eS]
    refine pgo_call (isThing_c h x.thing) ?_
    cases k1 : thingOK h x.thing
    · simp only [go_sem, reduceIte, reduceCtorEq, Nat.reduceEqDiff, Nat.reduceBEq, Nat.reduceAdd, Nat.reduceMul, Nat.reduceLeDiff, hN]
      refine fin_ret 2 (by simp [upd_at, hN]) ⟨_, H, Settle.refl hE, ?_, rfl⟩
      rw [hbad k1]; simp [upd_at]
    simp only [go_sem, reduceIte, reduceCtorEq, Nat.reduceEqDiff, Nat.reduceBEq, Nat.reduceAdd, Nat.reduceMul, Nat.reduceLeDiff, g1, g7, hN, hB, wsucc (show j < 4611686018427387904 by omega), hlt']
    refine ⟨hE, fun i hi => ?_⟩
    rcases Nat.lt_or_ge i j with h' | h'
    · exact hq i h'
    · have : i = j := by omega
      subst this
      rw [hget, ← hx]; exact k1
  have hj' : j = h.signs.length := by omega
  subst hj'
  have t3 : (h.signs.all fun s => thingOK h s.thing) = true := List.all_eq_true.2 fun w hw => by
    obtain ⟨i, hi, rfl⟩ := List.getElem_of_mem hw
    have := hq i hi
    rwa [show h.signs.getD i default = h.signs[i] by simp [hi]] at this
  have hc4 : ¬ ¬ allH h := fun h' => h' ⟨t1, t2, t3⟩
  have htim := touches_ok t1 (by omega)
  simp only [go_sem, reduceIte, reduceCtorEq, Nat.reduceEqDiff, Nat.reduceBEq, Nat.reduceAdd, Nat.reduceMul, Nat.reduceLeDiff, g1, g7, hN, hlt, hB, take_f', List.getElem?_cons_zero]
  refine pgo_call (manyR_c h.table hs) ?_
  simp only [go_sem, reduceIte, reduceCtorEq, Nat.reduceEqDiff, Nat.reduceBEq, Nat.reduceAdd, Nat.reduceMul, Nat.reduceLeDiff, g1, hB]
  refine pgo_call (timesR_c h (by omega) htim) ?_
  have hm1 : manyR h.table h.table.pieces.length ≤ 3000 := Nat.min_le_left _ _
  have hm2 : timesR h h.touches.length ≤ 3000 := Nat.min_le_left _ _
  have hmul : manyR h.table h.table.pieces.length * timesR h h.touches.length ≤ 3000 * 3000 := Nat.mul_le_mul hm1 hm2
  have hiff := manyH_iff h c0 htim
  generalize hpq : manyR h.table h.table.pieces.length * timesR h h.touches.length = pq at hmul hiff
  have hw : IntKind.i64.wrap (((manyR h.table h.table.pieces.length : Nat) : Int) * ((timesR h h.touches.length : Nat) : Int)) = (pq : Int) := by
    rw [← hpq, Int.natCast_mul, w64]
    · have := Int.mul_nonneg (show (0 : Int) ≤ ((manyR h.table h.table.pieces.length : Nat) : Int) by omega) (show (0 : Int) ≤ ((timesR h h.touches.length : Nat) : Int) by omega); omega
    · rw [← Int.natCast_mul, hpq]; omega
  by_cases c5 : 2000 < manyH h
  · have hres : checkHouse h = 3 := by rw [checkHouse, if_neg hc1, if_neg hc2, if_neg hc3, if_neg hc4, if_pos c5]
    have c5' := hiff.1 c5
    have hmin : (2000 : Int) < (if (pq : Int) < 3000 then (pq : Int) else 3000) := by split <;> omega
    simp only [go_sem, reduceIte, reduceCtorEq, Nat.reduceEqDiff, Nat.reduceBEq, Nat.reduceAdd, Nat.reduceMul, Nat.reduceLeDiff, hw, hmin]
    refine fin_ret 2 (by simp [upd_at, hN]) ⟨_, H, Settle.refl hE, by simp [upd_at, hres], rfl⟩
  · have hres : checkHouse h = 0 := by rw [checkHouse, if_neg hc1, if_neg hc2, if_neg hc3, if_neg hc4, if_neg c5]
    have c5' : ¬ 2000 < pq := fun h' => c5 (hiff.2 h')
    have hmin : ¬ (2000 : Int) < (if (pq : Int) < 3000 then (pq : Int) else 3000) := by split <;> omega
    simp only [go_sem, reduceIte, reduceCtorEq, Nat.reduceEqDiff, Nat.reduceBEq, Nat.reduceAdd, Nat.reduceMul, Nat.reduceLeDiff, hw, hmin]
    refine fin_ret 2 (by simp [upd_at, hN]) ⟨_, H, Settle.refl hE, by simp [upd_at, hres], rfl⟩
end Go.Lift

set_option linter.unusedSimpArgs false
set_option linter.unusedVariables false
namespace Go.Lift
open Go Go.Proofs
theorem bc36 (a b : List (List AV)) : buildCells [.emp, .emp] [(0, 1), (1, 1)] [.slice a, .slice b] = some [.slice a, .slice b] := by
  simp [buildCells, placeAt, AV.ok, AV.cells]
end Go.Lift

set_option linter.unusedSimpArgs false
set_option linter.unusedVariables false
namespace Go.Lift
open Go Go.Proofs
/-- What may be said of a value instead. -/
def Wk (x y : AV) : Prop := ∀ H w v, Rep H w v x → Rep H w v y
theorem Wk.refl (x : AV) : Wk x x := fun _ _ _ h => h
theorem Wk.emp : Wk .emp (.slice []) := fun _ _ _ h => Rep.weaken_emp h
theorem Wk.grow (b cap : Nat) (es : List (List AV)) : Wk (.grow b cap es) (.slice es) := fun _ _ _ h => Rep.weaken_slice h
theorem Wk.agg {xs ys : List AV} (hl : xs.length = ys.length) (h : ∀ (i : Nat) (x y : AV), xs[i]? = some x → ys[i]? = some y → Wk x y) : Wk (.agg xs) (.agg ys) := fun H w v hr => by
  cases hr with
  | agg arr cs hs hx =>
    refine .agg arr ys (by omega) fun i y hy => ?_
    have hi : i < ys.length := by
      rcases Nat.lt_or_ge i ys.length with h | h
      · exact h
      · rw [List.getElem?_eq_none h] at hy; cases hy
    have hx' : xs[i]? = some xs[i] := by simp [show i < xs.length by omega]
    exact h i _ y hx' hy H w _ (hx i _ hx')
/-- Two lists grow in places of their own. -/
def Apart (v u : AV) : Prop := ∀ b c e c' e', v = .grow b c e → u ≠ .grow b c' e'
theorem v_append_in {P : Program} {R : AV → AHeap → Prop} {sz bytes : Nat} {H0 H : AHeap} {v y : AV} {es es2 : List (List AV)} (g : Grown sz H0 H v es) (e : Ext H0 H) (hy : asSlice y = some es2) (hg : goodEls sz es) (hg2 : goodEls sz es2) (hc : cellEls es2)
    (hb : (es.length + es2.length) * bytes ≤ 140737488355328) (hb' : es.length + es2.length ≤ 9223372036854775807)
    (h : ∀ v' H', Grown sz H0 H' v' (es ++ es2) → Ext H0 H' → (∀ x o, H x = some o → (∀ n s c, o ≠ .tail n s c) → H' x = some o) →
      (∀ sz' u es', Grown sz' H0 H u es' → Apart v u → Grown sz' H0 H' u es' ∧ Apart v' u) → R v' H') : aopV P (.append sz bytes) [v, y] H R := by
  have hg3 : Grown sz (outer (fun x => ∃ cap es, v = .grow x cap es) H) H v es := g.to fun b cap es' h => outer_in ⟨cap, es', h⟩
  refine v_append hg3 (ext_outer _ _) hy hg hg2 hc hb hb' fun v' H' g' e' _ => ?_
  have hE : Ext H0 H' := fun x o hx => e' x o (by
    rw [outer_out]; exact e x o hx
    rintro ⟨cap, es, rfl⟩
    rcases g with ⟨h1, _⟩ | ⟨b', cap', h1, h2, _⟩
    · cases h1
    · cases h1; rw [hx] at h2; cases h2)
  refine h v' H' (g'.to fun b cap es' hb => ?_) hE (fun x o hx ho => e' x o ?_) fun sz' u es' gu ha => ?_
  · subst hb
    rcases g' with ⟨h1, _⟩ | ⟨b', cap', h1, h2, _⟩
    · cases h1
    · cases h1
      rcases outer_none h2 with ⟨cap, es, rfl⟩ | h3
      · rcases g with ⟨h4, _⟩ | ⟨b5, cap5, h4, h5, _⟩
        · cases h4
        · cases h4; exact h5
      · exact e.isNone h3
  · rw [outer_out]; exact hx
    rintro ⟨cap, es, rfl⟩
    rcases g with ⟨h1, _⟩ | ⟨b', cap', h1, _, h3⟩
    · cases h1
    · cases h1; rw [hx] at h3; cases h3; exact ho _ _ _ rfl
  · rcases gu with ⟨rfl, rfl⟩ | ⟨b, cap, rfl, hb0, hb1⟩
    · exact ⟨.inl ⟨rfl, rfl⟩, fun b c e c' e' _ h => by cases h⟩
    · have ho : outer (fun x => ∃ cap es, v = .grow x cap es) H b = some (.tail es'.length sz' cap) := by
        rw [outer_out]; exact hb1
        rintro ⟨cap2, es, rfl⟩
        exact ha b cap2 es cap es' rfl rfl
      refine ⟨.inr ⟨b, cap, rfl, hb0, e' b _ ho⟩, fun b' c e2 c' e3 hv' hu => ?_⟩
      cases hu
      rcases g' with ⟨h1, _⟩ | ⟨b2, cap2, h1, h2, _⟩
      · rw [hv'] at h1; cases h1
      · rw [hv'] at h1; cases h1; rw [ho] at h2; cases h2
theorem copyL_c (l : List Int) (hl : l.length ≤ 2147483648) : Pure Tryz.prog 39 [.slice (eI l)] (.slice (eI l)) := by
  intro H
  refine fn_of hmix fc39 (by simp) ?_
  rw [ienv1]
  simp only [go_sem, reduceIte, reduceCtorEq, Nat.reduceEqDiff, Nat.reduceBEq, Nat.reduceAdd, Nat.reduceMul, Nat.reduceLeDiff, ac39]
  refine v_append (H0 := H) (sz := 1) (.inl ⟨rfl, rfl⟩) (Ext.refl H) rfl (by intro e he; cases he) (eI_good l) (eI_cell l) (by simp; omega) (by simp; omega) ?_
  intro v' H' hg he hk
  simp only [go_sem, reduceIte, reduceCtorEq, Nat.reduceEqDiff, Nat.reduceBEq, Nat.reduceAdd, Nat.reduceMul, Nat.reduceLeDiff]
  refine fin_ret 2 (by simp [upd_at]) ⟨_, H, ?_, rfl, rfl⟩
  simp only [upd_at, if_true]
  have := hg.weaken he
  simpa using this
theorem copyT_c (l : List Int) (hl : l.length ≤ 2147483648) : Pure Tryz.prog 104 [.slice (eI l)] (.slice (eI l)) := by
  intro H
  refine fn_of hmix fc104 (by simp) ?_
  rw [ienv1]
  simp only [go_sem, reduceIte, reduceCtorEq, Nat.reduceEqDiff, Nat.reduceBEq, Nat.reduceAdd, Nat.reduceMul, Nat.reduceLeDiff, ac104]
  refine v_append (H0 := H) (sz := 1) (.inl ⟨rfl, rfl⟩) (Ext.refl H) rfl (by intro e he; cases he) (eI_good l) (eI_cell l) (by simp; omega) (by simp; omega) ?_
  intro v' H' hg he hk
  simp only [go_sem, reduceIte, reduceCtorEq, Nat.reduceEqDiff, Nat.reduceBEq, Nat.reduceAdd, Nat.reduceMul, Nat.reduceLeDiff]
  refine fin_ret 2 (by simp [upd_at]) ⟨_, H, ?_, rfl, rfl⟩
  simp only [upd_at, if_true]
  have := hg.weaken he
  simpa using this
theorem same_c (a b : List Int) (ha : Sm a.length) : Pure Tryz.prog 28 [.slice (eI a), .slice (eI b)] (.bool (decide (a = b))) := by
  intro H
  unfold Sm at ha
  refine fn_of hmix fc28 (by simp) ?_
  rw [ienv2]
  by_cases c1 : (a.length : Int) = (b.length : Int)
  rotate_left
  · simp only [go_sem, reduceIte, reduceCtorEq, Nat.reduceEqDiff, Nat.reduceBEq, Nat.reduceAdd, Nat.reduceMul, Nat.reduceLeDiff, ac28, c1]
    refine fin_ret' 4 (by simp [upd_at]) ?_
    simp only [upd_at, if_true, and_true, AV.bool.injEq]
    symm; rw [decide_eq_false_iff_not]
    rintro rfl; exact c1 rfl
  have c1' : a.length = b.length := by omega
  have d1 : decide ((a.length : Int) = (b.length : Int)) = true := decide_eq_true c1
  simp only [go_sem, reduceIte, reduceCtorEq, Nat.reduceEqDiff, Nat.reduceBEq, Nat.reduceAdd, Nat.reduceMul, Nat.reduceLeDiff, ac28, d1]
  refine x_for a.length (fun j env H1 => H1 = H ∧ a.take j = b.take j ∧ env 0 = .slice (eI a) ∧ env 1 = .slice (eI b) ∧ env 5 = i6 j ∧ env 26 = .any) (by simp [upd_at]) ?_
  rintro j env H1 hj ⟨rfl, hq, g0, g1, g5, hN⟩
  by_cases hlt : (j : Int) < (a.length : Int)
  · have hla : j < a.length := by omega
    have hlb : j < b.length := by omega
    by_cases he : a[j] = b[j]
    · simp only [go_sem, reduceIte, reduceCtorEq, Nat.reduceEqDiff, Nat.reduceBEq, Nat.reduceAdd, Nat.reduceMul, Nat.reduceLeDiff, g0, g1, g5, hN, hlt, eI_get hla, eI_get hlb, he, wsucc (show j < 4611686018427387904 by omega), hla]
      rw [take_snoc hla, take_snoc hlb, hq, he]
    · simp only [go_sem, reduceIte, reduceCtorEq, Nat.reduceEqDiff, Nat.reduceBEq, Nat.reduceAdd, Nat.reduceMul, Nat.reduceLeDiff, g0, g1, g5, hN, hlt, eI_get hla, eI_get hlb, he]
      refine fin_ret' 4 (by simp [upd_at, hN]) ?_
      simp only [upd_at, if_true, and_true, AV.bool.injEq]
      symm; rw [decide_eq_false_iff_not]
      rintro rfl; exact he rfl
  · simp only [go_sem, reduceIte, reduceCtorEq, Nat.reduceEqDiff, Nat.reduceBEq, Nat.reduceAdd, Nat.reduceMul, Nat.reduceLeDiff, g0, g1, g5, hN, hlt]
    have : j = a.length := by omega
    subst this
    refine fin_ret' 4 (by simp [upd_at, hN]) ?_
    rw [List.take_length, c1', List.take_length] at hq
    simp [upd_at, hq]
theorem agg71 : isAggB Tryz.prog 71 = some true := by kernel_rfl
theorem sz71 : szB Tryz.prog 71 = some 2 := by kernel_rfl
theorem course_c (c : Course) (h1 : c.owners.length ≤ 2147483648) (h2 : c.hours.length ≤ 2147483648) : Pure Tryz.prog 38 [eC c] (eC c) := by
  intro H
  refine fn_of hmix fc38 (by simp) ?_
  rw [ienv1]
  simp only [go_sem, reduceIte, reduceCtorEq, Nat.reduceEqDiff, Nat.reduceBEq, Nat.reduceAdd, Nat.reduceMul, Nat.reduceLeDiff, ac38, eC]
  refine v_box _ rfl fun b1 hb1 => ?_
  simp only [go_sem, reduceIte, reduceCtorEq, Nat.reduceEqDiff, Nat.reduceBEq, Nat.reduceAdd, Nat.reduceMul, Nat.reduceLeDiff]
  refine v_alloc fun b2 hb2 => ?_
  have n12 : b1 ≠ b2 := fun h => by subst h; simp at hb2
  have e2 := ((Ext.refl H).new hb1 (.box [.slice (eI c.owners), .slice (eI c.hours)])).new hb2 (.box [.emp, .emp])
  have z2 := ((Ext.refl H).new hb1 (.box [.slice (eI c.owners), .slice (eI c.hours)])).isNone hb2
  simp only [go_sem, reduceIte, reduceCtorEq, Nat.reduceEqDiff, Nat.reduceBEq, Nat.reduceAdd, Nat.reduceMul, Nat.reduceLeDiff, updH_ne _ _ n12, take_f', List.getElem?_cons_zero]
  refine pgo_call (copyL_c c.owners h1) ?_
  simp only [go_sem, reduceIte, reduceCtorEq, Nat.reduceEqDiff, Nat.reduceBEq, Nat.reduceAdd, Nat.reduceMul, Nat.reduceLeDiff, updH_ne _ _ n12, take_f', List.getElem?_cons_zero]
  refine pgo_call (copyL_c c.hours h2) ?_
  simp only [go_sem, reduceIte, reduceCtorEq, Nat.reduceEqDiff, Nat.reduceBEq, Nat.reduceAdd, Nat.reduceMul, Nat.reduceLeDiff, bc36, Option.map_some]
  rw [v_store]
  refine ⟨rfl, rfl, by simp [AV.cells, AV.isCell], _, updH_same _ _ _, by simp, ?_⟩
  rw [c_agg, show placeAt [.emp, .emp] 0 [.slice (eI c.owners), .slice (eI c.hours)] = [.slice (eI c.owners), .slice (eI c.hours)] from rfl]
  simp only [go_sem, reduceIte, reduceCtorEq, Nat.reduceEqDiff, Nat.reduceBEq, Nat.reduceAdd, Nat.reduceMul, Nat.reduceLeDiff]
  refine fin_cell1 2 2 b2 71 _ (by simp [upd_at]) agg71 sz71 (by simp [upd_at]) (updH_same _ _ _) rfl ⟨_, H, Settle.refl (e2.upd z2 _), rfl, rfl⟩
end Go.Lift

set_option linter.unusedSimpArgs false
set_option linter.unusedVariables false
namespace Go.Lift
open Go Go.Proofs
theorem agg40 : isAggB Tryz.prog 40 = some true := by kernel_rfl
theorem sz40 : szB Tryz.prog 40 = some 3 := by kernel_rfl
theorem agg45 : isAggB Tryz.prog 45 = some true := by kernel_rfl
theorem sz45 : szB Tryz.prog 45 = some 9 := by kernel_rfl
theorem eW_good (l : List Woman) : goodEls 3 (l.map eW) := by
  intro e he; rw [List.mem_map] at he; obtain ⟨x, _, rfl⟩ := he; rfl
theorem eW_cell (l : List Woman) : cellEls (l.map eW) := by
  intro e he x hx; rw [List.mem_map] at he; obtain ⟨y, _, rfl⟩ := he
  simp only [eW, List.mem_cons, List.not_mem_nil, or_false] at hx
  rcases hx with rfl | rfl | rfl <;> rfl
theorem eP_good (l : List Piece) : goodEls 2 (l.map eP) := by
  intro e he; rw [List.mem_map] at he; obtain ⟨x, _, rfl⟩ := he; rfl
theorem eP_cell (l : List Piece) : cellEls (l.map eP) := by
  intro e he x hx; rw [List.mem_map] at he; obtain ⟨y, _, rfl⟩ := he
  simp only [eP, List.mem_cons, List.not_mem_nil, or_false] at hx
  rcases hx with rfl | rfl <;> rfl
theorem eTo_good (l : List Touch) : goodEls 4 (l.map eTo) := by
  intro e he; rw [List.mem_map] at he; obtain ⟨x, _, rfl⟩ := he; rfl
theorem eTo_cell (l : List Touch) : cellEls (l.map eTo) := by
  intro e he x hx; rw [List.mem_map] at he; obtain ⟨y, _, rfl⟩ := he
  simp only [eTo, List.mem_cons, List.not_mem_nil, or_false] at hx
  rcases hx with rfl | rfl | rfl | rfl <;> rfl
theorem eS_good (l : List Sign) : goodEls 2 (l.map eS) := by
  intro e he; rw [List.mem_map] at he; obtain ⟨x, _, rfl⟩ := he; rfl
theorem eS_cell (l : List Sign) : cellEls (l.map eS) := by
  intro e he x hx; rw [List.mem_map] at he; obtain ⟨y, _, rfl⟩ := he
  simp only [eS, List.mem_cons, List.not_mem_nil, or_false] at hx
  rcases hx with rfl | rfl <;> rfl
theorem bcT (w : Int) : buildCells [.emp, .emp, .int .i64 0] [(2, 1)] [.int .i64 w] = some [.emp, .emp, i6 w] := by simp [buildCells, placeAt, AV.ok, AV.cells]
theorem bcW (a b c : Int) : buildCells [.int .i64 0, .int .i64 0, .int .i64 0] [(0, 1), (1, 2)] [.int .i64 a, .agg [.int .i64 b, .int .i64 c]] = some [i6 a, i6 b, i6 c] := by simp [buildCells, placeAt, AV.ok, AV.cells]
theorem bcP (es : List (List AV)) (b : Int) : buildCells [.emp, .int .i64 0] [(0, 1), (1, 1)] [.slice es, .int .i64 b] = some [.slice es, i6 b] := by simp [buildCells, placeAt, AV.ok, AV.cells]
theorem bcTo (a b c d : Int) : buildCells [.int .i64 0, .int .i64 0, .int .i64 0, .int .i64 0] [(0, 1), (1, 1), (2, 2)] [.int .i64 a, .int .i64 b, .agg [.int .i64 c, .int .i64 d]] = some [i6 a, i6 b, i6 c, i6 d] := by simp [buildCells, placeAt, AV.ok, AV.cells]
theorem bcS (a : Int) (b : Bool) : buildCells [.int .i64 0, .bool false] [(0, 1), (1, 1)] [.int .i64 a, .bool b] = some [i6 a, .bool b] := by simp [buildCells, placeAt, AV.ok, AV.cells]
theorem bcH (a b c : AV) (es : List (List AV)) (n m : Int) : buildCells [.emp, .emp, .int .i64 0, .emp, .int .i64 0, .int .i64 0, .emp, .emp, .emp] [(0, 3), (3, 1), (4, 1), (5, 1)] [.agg [a, b, c], .slice es, .int .i64 n, .int .i64 m] = some [a, b, c, .slice es, i6 n, i6 m, .emp, .emp, .emp] := by
  simp [buildCells, placeAt, AV.ok, AV.cells]
/-- Cells that may be said otherwise, in a smaller heap. -/
theorem settle_agg {H1 H2 : AHeap} {xs ys : List AV} (e : Ext H2 H1) (hl : xs.length = ys.length) (h : ∀ (i : Nat) (x y : AV), xs[i]? = some x → ys[i]? = some y → ∀ w v, HRel H1 w → Rep H1 w v x → Rep H2 w v y) : Settle H1 (.agg xs) H2 (.agg ys) := by
  refine ⟨e, fun w v hH hr => ?_⟩
  cases hr with
  | agg arr cs hs hx =>
    refine .agg arr ys (by omega) fun i y hy => ?_
    have hi : i < ys.length := by
      rcases Nat.lt_or_ge i ys.length with h | h
      · exact h
      · rw [List.getElem?_eq_none h] at hy; cases hy
    have hx' : xs[i]? = some xs[i] := by simp [show i < xs.length by omega]
    exact h i _ y hx' hy w _ hH (hx i _ hx')
theorem table_c (t : Table) (h1 : t.women.length ≤ 2147483648) (h2 : t.pieces.length ≤ 2147483648) (h3 : ∀ p ∈ t.pieces, p.marks.length ≤ 2147483648) : Pure Tryz.prog 46 [eT t] (eT t) := by
  intro H
  refine fn_of hmix fc46 (by simp) ?_
  rw [ienv1]
  simp only [go_sem, reduceIte, reduceCtorEq, Nat.reduceEqDiff, Nat.reduceBEq, Nat.reduceAdd, Nat.reduceMul, Nat.reduceLeDiff, ac46, eT]
  refine v_box _ rfl fun b1 hb1 => ?_
  simp only [go_sem, reduceIte, reduceCtorEq, Nat.reduceEqDiff, Nat.reduceBEq, Nat.reduceAdd, Nat.reduceMul, Nat.reduceLeDiff]
  refine v_alloc fun b2 hb2 => ?_
  have n12 : b1 ≠ b2 := fun h => by subst h; simp at hb2
  have e1 := (Ext.refl H).new hb1 (.box [.slice (t.women.map eW), .slice (t.pieces.map eP), i6 t.wrong])
  have z2 : H b2 = none := e1.isNone hb2
  have e2 := e1.new hb2 (.box [.emp, .emp, .int .i64 0])
  simp only [go_sem, reduceIte, reduceCtorEq, Nat.reduceEqDiff, Nat.reduceBEq, Nat.reduceAdd, Nat.reduceMul, Nat.reduceLeDiff, updH_ne _ _ n12, take_f', List.getElem?_cons_zero, bcT, Option.map_some]
  refine v_alloc fun b3 hb3 => ?_
  have n13 : b1 ≠ b3 := fun h => by subst h; simp [updH, n12] at hb3
  have n23 : b2 ≠ b3 := fun h => by subst h; simp at hb3
  have z3 : H b3 = none := e2.isNone hb3
  simp only [go_sem, reduceIte, reduceCtorEq, Nat.reduceEqDiff, Nat.reduceBEq, Nat.reduceAdd, Nat.reduceMul, Nat.reduceLeDiff]
  rw [v_store]
  refine ⟨rfl, rfl, by simp [AV.cells, AV.isCell], _, updH_same _ _ _, by simp, ?_⟩
  rw [c_agg, show placeAt [.emp, .emp, .int .i64 0] 0 [.emp, .emp, i6 t.wrong] = [.emp, .emp, i6 t.wrong] from rfl]
  simp only [go_sem, reduceIte, reduceCtorEq, Nat.reduceEqDiff, Nat.reduceBEq, Nat.reduceAdd, Nat.reduceMul, Nat.reduceLeDiff]
  refine x_for t.women.length (fun j env H1 => Ext H H1 ∧ H1 b1 = some (.box [.slice (t.women.map eW), .slice (t.pieces.map eP), i6 t.wrong]) ∧ H1 b2 = some (.box [.emp, .emp, .int .i64 0]) ∧ (∃ v1, H1 b3 = some (.box [v1, .emp, i6 t.wrong]) ∧ Grown 3 H H1 v1 ((t.women.take j).map eW)) ∧ env 1 = .ptr b1 0 ∧ env 2 = .ptr b2 0 ∧ env 3 = .ptr b3 0 ∧ env 4 = i6 j ∧ env 64 = .any)
    ⟨(e2.new hb3 _).upd z3 _, by rw [updH_ne _ _ n13, updH_ne _ _ n13, updH_ne _ _ n12]; exact updH_same _ _ _, by rw [updH_ne _ _ n23, updH_ne _ _ n23]; exact updH_same _ _ _, ⟨.emp, updH_same _ _ _, .inl ⟨rfl, rfl⟩⟩, by simp [upd_at], by simp [upd_at], by simp [upd_at], by simp [upd_at], by simp [upd_at]⟩ ?_
  rintro j env H1 hj ⟨hE, hB1, hB2, ⟨v1, hB3, hG⟩, g1, g2, g3, g4, hN⟩
  by_cases hlt : (j : Int) < (t.women.length : Int)
  · have hlt' : j < t.women.length := by omega
    simp only [go_sem, reduceIte, reduceCtorEq, Nat.reduceEqDiff, Nat.reduceBEq, Nat.reduceAdd, Nat.reduceMul, Nat.reduceLeDiff, g1, g2, g3, g4, hN, hlt, hB1, take_f', List.getElem?_cons_zero, map_get (f := eW) hlt', eW]
    refine v_alloc fun b5 hb5 => ?_
    have n15 : b1 ≠ b5 := fun h => by subst h; rw [hB1] at hb5; cases hb5
    have n25 : b2 ≠ b5 := fun h => by subst h; rw [hB2] at hb5; cases hb5
    have n35 : b3 ≠ b5 := fun h => by subst h; rw [hB3] at hb5; cases hb5
    simp only [go_sem, reduceIte, reduceCtorEq, Nat.reduceEqDiff, Nat.reduceBEq, Nat.reduceAdd, Nat.reduceMul, Nat.reduceLeDiff, g1, g2, g3, g4, hN]
    rw [v_store]
    refine ⟨rfl, rfl, by simp [AV.cells, AV.isCell], _, updH_same _ _ _, by simp, ?_⟩
    rw [c_agg, show placeAt [.int .i64 0, .int .i64 0, .int .i64 0] 0 [i6 t.women[j].mark, i6 t.women[j].lo, i6 t.women[j].hi] = [i6 t.women[j].mark, i6 t.women[j].lo, i6 t.women[j].hi] from rfl]
    have hE5 : ∀ o1 o2, Ext H (updH (updH H1 b5 o1) b5 o2) := fun o1 o2 => (hE.new hb5 _).upd (hE.isNone hb5) _
    have hG5 : ∀ cs o2, Grown 3 H (updH (updH H1 b5 (.box cs)) b5 o2) v1 ((t.women.take j).map eW) := fun cs o2 => (hG.new hb5 (.box cs)).store (updH_same _ _ _) o2
    simp only [go_sem, reduceIte, reduceCtorEq, Nat.reduceEqDiff, Nat.reduceBEq, Nat.reduceAdd, Nat.reduceMul, Nat.reduceLeDiff, g1, g2, g3, g4, hN, updH_ne _ _ n35, hB3, take_f', List.getElem?_cons_zero, List.getElem?_cons_succ, bc2, bcW, Option.map_some, d_bsa]
    refine v_append (hG5 _ _) (hE5 _ _) rfl (eW_good _) (eW_good [t.women[j]]) (eW_cell [t.women[j]]) (by simp; omega) (by simp; omega) ?_
    intro v' H2 hg' he' hk'
    have K1 : H2 b1 = some (.box [.slice (t.women.map eW), .slice (t.pieces.map eP), i6 t.wrong]) := hk'.box (hG5 _ _) (by rw [updH_ne _ _ n15, updH_ne _ _ n15]; exact hB1)
    have K2 : H2 b2 = some (.box [.emp, .emp, .int .i64 0]) := hk'.box (hG5 _ _) (by rw [updH_ne _ _ n25, updH_ne _ _ n25]; exact hB2)
    have K3 : H2 b3 = some (.box [v1, .emp, i6 t.wrong]) := hk'.box (hG5 _ _) (by rw [updH_ne _ _ n35, updH_ne _ _ n35]; exact hB3)
    simp only [go_sem, reduceIte, reduceCtorEq, Nat.reduceEqDiff, Nat.reduceBEq, Nat.reduceAdd, Nat.reduceMul, Nat.reduceLeDiff, g1, g2, g3, g4, hN]
    rw [v_store]
    refine ⟨hg'.cellv.1, by rw [hg'.cellv.2.1]; rfl, by rw [hg'.cellv.2.1]; intro y hy; simp at hy; subst hy; exact hg'.cellv.2.2, _, K3, by simp, ?_⟩
    rw [hg'.cellv.2.1, show placeAt [v1, .emp, i6 t.wrong] 0 [v'] = [v', .emp, i6 t.wrong] from rfl]
    simp only [go_sem, reduceIte, reduceCtorEq, Nat.reduceEqDiff, Nat.reduceBEq, Nat.reduceAdd, Nat.reduceMul, Nat.reduceLeDiff, g1, g2, g3, g4, hN, wsucc (show j < 4611686018427387904 by omega), hlt', updH_ne _ _ n13, updH_ne _ _ n23, K1, K2]
    refine ⟨he'.upd z3 _, v', rfl, ?_⟩
    rw [take_snoc hlt', List.map_append]; exact hg'.store K3 _
  have hj' : j = t.women.length := by omega
  subst hj'
  rw [List.take_length] at hG
  simp only [go_sem, reduceIte, reduceCtorEq, Nat.reduceEqDiff, Nat.reduceBEq, Nat.reduceAdd, Nat.reduceMul, Nat.reduceLeDiff, g1, g2, g3, g4, hN, hlt, hB1, take_f', List.getElem?_cons_zero]
  refine x_for t.pieces.length (fun j env H1 => Ext H H1 ∧ H1 b1 = some (.box [.slice (t.women.map eW), .slice (t.pieces.map eP), i6 t.wrong]) ∧ H1 b2 = some (.box [.emp, .emp, .int .i64 0]) ∧ (∃ v2, H1 b3 = some (.box [v1, v2, i6 t.wrong]) ∧ Grown 3 H H1 v1 (t.women.map eW) ∧ Grown 2 H H1 v2 ((t.pieces.take j).map eP) ∧ Apart v2 v1) ∧ env 1 = .ptr b1 0 ∧ env 2 = .ptr b2 0 ∧ env 3 = .ptr b3 0 ∧ env 6 = i6 j ∧ env 64 = .any)
    ⟨hE, hB1, hB2, ⟨.emp, hB3, hG, .inl ⟨rfl, rfl⟩, fun b c e c' e' h => by cases h⟩, by simp [upd_at, g1], by simp [upd_at, g2], by simp [upd_at, g3], by simp [upd_at], by simp [upd_at, hN]⟩ ?_
  clear hE hB1 hB2 hB3 hG g1 g2 g3 g4 hN hlt hj env H1
  rintro j env H1 hj ⟨hE, hB1, hB2, ⟨v2, hB3, hG1, hG2, hap⟩, g1, g2, g3, g6, hN⟩
  by_cases hlt : (j : Int) < (t.pieces.length : Int)
  · have hlt' : j < t.pieces.length := by omega
    simp only [go_sem, reduceIte, reduceCtorEq, Nat.reduceEqDiff, Nat.reduceBEq, Nat.reduceAdd, Nat.reduceMul, Nat.reduceLeDiff, g1, g2, g3, g6, hN, hlt, hB1, hB3, take_f', List.getElem?_cons_zero, List.getElem?_cons_succ, map_get (f := eP) hlt', eP]
    refine pgo_call (copyT_c t.pieces[j].marks (h3 _ (List.getElem_mem hlt'))) ?_
    simp only [go_sem, reduceIte, reduceCtorEq, Nat.reduceEqDiff, Nat.reduceBEq, Nat.reduceAdd, Nat.reduceMul, Nat.reduceLeDiff, g1, g2, g3, g6, hN, hB1, hB3, take_f', List.getElem?_cons_zero, List.getElem?_cons_succ, map_get (f := eP) hlt', eP, bcP, Option.map_some, d_bsa]
    refine v_append_in hG2 hE rfl (eP_good _) (eP_good [t.pieces[j]]) (eP_cell [t.pieces[j]]) (by simp; omega) (by simp; omega) ?_
    intro v' H2 hg' he' hk' hoth
    obtain ⟨hG1', hap'⟩ := hoth 3 v1 _ hG1 hap
    have K1 := hk' b1 _ hB1 (by intros; simp)
    have K2 := hk' b2 _ hB2 (by intros; simp)
    have K3 := hk' b3 _ hB3 (by intros; simp)
    simp only [go_sem, reduceIte, reduceCtorEq, Nat.reduceEqDiff, Nat.reduceBEq, Nat.reduceAdd, Nat.reduceMul, Nat.reduceLeDiff, g1, g2, g3, g6, hN]
    rw [v_store]
    refine ⟨hg'.cellv.1, by rw [hg'.cellv.2.1]; rfl, by rw [hg'.cellv.2.1]; intro y hy; simp at hy; subst hy; exact hg'.cellv.2.2, _, K3, by simp, ?_⟩
    rw [hg'.cellv.2.1, show placeAt [v1, v2, i6 t.wrong] (0 + 1) [v'] = [v1, v', i6 t.wrong] from rfl]
    simp only [go_sem, reduceIte, reduceCtorEq, Nat.reduceEqDiff, Nat.reduceBEq, Nat.reduceAdd, Nat.reduceMul, Nat.reduceLeDiff, g1, g2, g3, g6, hN, wsucc (show j < 4611686018427387904 by omega), hlt', updH_ne _ _ n13, updH_ne _ _ n23, K1, K2]
    refine ⟨he'.upd z3 _, v', rfl, hG1'.store K3 _, ?_, hap'⟩
    rw [take_snoc hlt', List.map_append]; exact hg'.store K3 _
  · have hj' : j = t.pieces.length := by omega
    subst hj'
    rw [List.take_length] at hG2
    simp only [go_sem, reduceIte, reduceCtorEq, Nat.reduceEqDiff, Nat.reduceBEq, Nat.reduceAdd, Nat.reduceMul, Nat.reduceLeDiff, g1, g2, g3, g6, hN, hlt, hB1, hB3, take_f', List.getElem?_cons_zero, List.getElem?_cons_succ]
    rw [v_store]
    refine ⟨rfl, rfl, by
      intro y hy
      simp only [AV.cells, List.mem_cons, List.not_mem_nil, or_false] at hy
      rcases hy with rfl | rfl | rfl
      · exact hG1.cellv.2.2
      · exact hG2.cellv.2.2
      · rfl, _, hB2, by simp, ?_⟩
    rw [c_agg, show placeAt [.emp, .emp, .int .i64 0] 0 [v1, v2, i6 t.wrong] = [v1, v2, i6 t.wrong] from rfl]
    simp only [go_sem, reduceIte, reduceCtorEq, Nat.reduceEqDiff, Nat.reduceBEq, Nat.reduceAdd, Nat.reduceMul, Nat.reduceLeDiff, g1, g2, g3, g6, hN]
    have eF := hE.upd z2 (.box [v1, v2, i6 t.wrong])
    have gF1 := hG1.store hB2 (.box [v1, v2, i6 t.wrong])
    have gF2 := hG2.store hB2 (.box [v1, v2, i6 t.wrong])
    refine fin_cell1 2 3 b2 40 _ (by simp [upd_at, hN]) agg40 sz40 (by simp [upd_at, g2]) (updH_same _ _ _) rfl ⟨eT t, H, settle_agg eF rfl fun i x y hx hy w v hH hr => ?_, rfl, rfl⟩
    match i, hx, hy with
    | 0, hx, hy => cases hx; cases hy; exact (gF1.weaken eF).2 w v hH hr
    | 1, hx, hy => cases hx; cases hy; exact (gF2.weaken eF).2 w v hH hr
    | 2, hx, hy => cases hx; cases hy; exact hr.mono (Evolve.drop eF)
end Go.Lift

set_option linter.unusedSimpArgs false
set_option linter.unusedVariables false
namespace Go.Lift
open Go Go.Proofs
/-- Sizes for which nothing overflows. -/
structure HSm (h : House) : Prop where
  women : h.table.women.length ≤ 1073741824
  pieces : h.table.pieces.length ≤ 1073741824
  marks : ∀ p ∈ h.table.pieces, p.marks.length ≤ 1073741824
  sick : h.sick.length ≤ 1073741824
  touches : h.touches.length ≤ 1073741824
  boiled : h.boiled.length ≤ 1073741824
  signs : h.signs.length ≤ 1073741824
theorem HSm.tsm {h : House} (s : HSm h) : TSm h.table := ⟨by have := s.women; unfold Sm; omega, by have := s.pieces; unfold Sm; omega, fun p hp => by have := s.marks p hp; unfold Sm; omega⟩
theorem HSm.sk {h : House} (s : HSm h) : Sm h.sick.length := by have := s.sick; unfold Sm; omega
theorem house_c (h : House) (hs : HSm h) : Pure Tryz.prog 22 [eH h] (eH h) := by
  intro H
  have q1 := hs.touches
  have q2 := hs.boiled
  have q3 := hs.signs
  refine fn_of hmix fc22 (by simp) ?_
  rw [ienv1]
  simp only [go_sem, reduceIte, reduceCtorEq, Nat.reduceEqDiff, Nat.reduceBEq, Nat.reduceAdd, Nat.reduceMul, Nat.reduceLeDiff, ac22, eH]
  refine v_box _ rfl fun b1 hb1 => ?_
  simp only [go_sem, reduceIte, reduceCtorEq, Nat.reduceEqDiff, Nat.reduceBEq, Nat.reduceAdd, Nat.reduceMul, Nat.reduceLeDiff]
  refine v_alloc fun b2 hb2 => ?_
  have n12 : b1 ≠ b2 := fun h => by subst h; simp at hb2
  have e1 := (Ext.refl H).new hb1 (.box [.slice (h.table.women.map eW), .slice (h.table.pieces.map eP), i6 h.table.wrong, .slice (eI h.sick), i6 h.others, i6 h.last, .slice (h.touches.map eTo), .slice (h.boiled.map eB), .slice (h.signs.map eS)])
  have z2 : H b2 = none := e1.isNone hb2
  have e2 := e1.new hb2 (.box [.emp, .emp, .int .i64 0, .emp, .int .i64 0, .int .i64 0, .emp, .emp, .emp])
  simp only [go_sem, reduceIte, reduceCtorEq, Nat.reduceEqDiff, Nat.reduceBEq, Nat.reduceAdd, Nat.reduceMul, Nat.reduceLeDiff, updH_ne _ _ n12, take_f', List.getElem?_cons_zero]
  refine pgo_call (table_c h.table (by have := hs.women; omega) (by have := hs.pieces; omega) (fun p hp => by have := hs.marks p hp; omega)) ?_
  simp only [go_sem, reduceIte, reduceCtorEq, Nat.reduceEqDiff, Nat.reduceBEq, Nat.reduceAdd, Nat.reduceMul, Nat.reduceLeDiff, updH_ne _ _ n12, take_f', List.getElem?_cons_zero]
  refine pgo_call (copyL_c h.sick (by have := hs.sick; omega)) ?_
  simp only [go_sem, reduceIte, reduceCtorEq, Nat.reduceEqDiff, Nat.reduceBEq, Nat.reduceAdd, Nat.reduceMul, Nat.reduceLeDiff, updH_ne _ _ n12, take_f', List.getElem?_cons_zero, eT, bcH, Option.map_some]
  refine v_alloc fun b3 hb3 => ?_
  have n13 : b1 ≠ b3 := fun h => by subst h; simp [updH, n12] at hb3
  have n23 : b2 ≠ b3 := fun h => by subst h; simp at hb3
  have z3 : H b3 = none := e2.isNone hb3
  simp only [go_sem, reduceIte, reduceCtorEq, Nat.reduceEqDiff, Nat.reduceBEq, Nat.reduceAdd, Nat.reduceMul, Nat.reduceLeDiff, updH_ne _ _ n12, updH_ne _ _ n13, take_f', List.getElem?_cons_zero]
  rw [v_store]
  refine ⟨rfl, rfl, by simp [AV.cells, AV.isCell], _, updH_same _ _ _, by simp, ?_⟩
  rw [c_agg, show placeAt [.emp, .emp, .int .i64 0, .emp, .int .i64 0, .int .i64 0, .emp, .emp, .emp] 0 [.slice (h.table.women.map eW), .slice (h.table.pieces.map eP), i6 h.table.wrong, .slice (eI h.sick), i6 h.others, i6 h.last, .emp, .emp, .emp] = [.slice (h.table.women.map eW), .slice (h.table.pieces.map eP), i6 h.table.wrong, .slice (eI h.sick), i6 h.others, i6 h.last, .emp, .emp, .emp] from rfl]
  simp only [go_sem, reduceIte, reduceCtorEq, Nat.reduceEqDiff, Nat.reduceBEq, Nat.reduceAdd, Nat.reduceMul, Nat.reduceLeDiff]
  -- the touches
  refine x_for h.touches.length (fun j env H1 => Ext H H1 ∧ H1 b1 = some (.box [.slice (h.table.women.map eW), .slice (h.table.pieces.map eP), i6 h.table.wrong, .slice (eI h.sick), i6 h.others, i6 h.last, .slice (h.touches.map eTo), .slice (h.boiled.map eB), .slice (h.signs.map eS)]) ∧ H1 b2 = some (.box [.emp, .emp, .int .i64 0, .emp, .int .i64 0, .int .i64 0, .emp, .emp, .emp]) ∧ (∃ v1, H1 b3 = some (.box [.slice (h.table.women.map eW), .slice (h.table.pieces.map eP), i6 h.table.wrong, .slice (eI h.sick), i6 h.others, i6 h.last, v1, .emp, .emp]) ∧ Grown 4 H H1 v1 ((h.touches.take j).map eTo)) ∧ env 1 = .ptr b1 0 ∧ env 2 = .ptr b2 0 ∧ env 3 = .ptr b3 0 ∧ env 4 = i6 j ∧ env 99 = .any)
    ⟨(e2.new hb3 _).upd z3 _, by rw [updH_ne _ _ n13, updH_ne _ _ n13, updH_ne _ _ n12]; exact updH_same _ _ _, by rw [updH_ne _ _ n23, updH_ne _ _ n23]; exact updH_same _ _ _, ⟨.emp, updH_same _ _ _, .inl ⟨rfl, rfl⟩⟩, by simp [upd_at], by simp [upd_at], by simp [upd_at], by simp [upd_at], by simp [upd_at]⟩ ?_
  rintro j env H1 hj ⟨hE, hB1, hB2, ⟨v1, hB3, hG⟩, g1, g2, g3, g4, hN⟩
  by_cases hlt : (j : Int) < (h.touches.length : Int)
  · have hlt' : j < h.touches.length := by omega
    simp only [go_sem, reduceIte, reduceCtorEq, Nat.reduceEqDiff, Nat.reduceBEq, Nat.reduceAdd, Nat.reduceMul, Nat.reduceLeDiff, g1, g2, g3, g4, hN, hlt, hB1, take_f', List.getElem?_cons_zero, map_get (f := eTo) hlt', eTo]
    refine v_alloc fun b5 hb5 => ?_
    have n15 : b1 ≠ b5 := fun h => by subst h; rw [hB1] at hb5; cases hb5
    have n25 : b2 ≠ b5 := fun h => by subst h; rw [hB2] at hb5; cases hb5
    have n35 : b3 ≠ b5 := fun h => by subst h; rw [hB3] at hb5; cases hb5
    simp only [go_sem, reduceIte, reduceCtorEq, Nat.reduceEqDiff, Nat.reduceBEq, Nat.reduceAdd, Nat.reduceMul, Nat.reduceLeDiff, g1, g2, g3, g4, hN]
    rw [v_store]
    refine ⟨rfl, rfl, by simp [AV.cells, AV.isCell], _, updH_same _ _ _, by simp, ?_⟩
    rw [c_agg, show placeAt [.int .i64 0, .int .i64 0, .int .i64 0, .int .i64 0] 0 [i6 h.touches[j].a, i6 h.touches[j].b, i6 h.touches[j].lo, i6 h.touches[j].hi] = [i6 h.touches[j].a, i6 h.touches[j].b, i6 h.touches[j].lo, i6 h.touches[j].hi] from rfl]
    have hE5 : ∀ o1 o2, Ext H (updH (updH H1 b5 o1) b5 o2) := fun o1 o2 => (hE.new hb5 _).upd (hE.isNone hb5) _
    have hG5 : ∀ cs o2, Grown 4 H (updH (updH H1 b5 (.box cs)) b5 o2) v1 ((h.touches.take j).map eTo) := fun cs o2 => (hG.new hb5 (.box cs)).store (updH_same _ _ _) o2
    simp only [go_sem, reduceIte, reduceCtorEq, Nat.reduceEqDiff, Nat.reduceBEq, Nat.reduceAdd, Nat.reduceMul, Nat.reduceLeDiff, g1, g2, g3, g4, hN, updH_ne _ _ n35, hB3, take_f', List.getElem?_cons_zero, List.getElem?_cons_succ, bc2, bcTo, Option.map_some, d_bsa]
    refine v_append (hG5 _ _) (hE5 _ _) rfl (eTo_good _) (eTo_good [h.touches[j]]) (eTo_cell [h.touches[j]]) (by simp; omega) (by simp; omega) ?_
    intro v' H2 hg' he' hk'
    have K1 : H2 b1 = some (.box [.slice (h.table.women.map eW), .slice (h.table.pieces.map eP), i6 h.table.wrong, .slice (eI h.sick), i6 h.others, i6 h.last, .slice (h.touches.map eTo), .slice (h.boiled.map eB), .slice (h.signs.map eS)]) := hk'.box (hG5 _ _) (by rw [updH_ne _ _ n15, updH_ne _ _ n15]; exact hB1)
    have K2 : H2 b2 = some (.box [.emp, .emp, .int .i64 0, .emp, .int .i64 0, .int .i64 0, .emp, .emp, .emp]) := hk'.box (hG5 _ _) (by rw [updH_ne _ _ n25, updH_ne _ _ n25]; exact hB2)
    have K3 : H2 b3 = some (.box [.slice (h.table.women.map eW), .slice (h.table.pieces.map eP), i6 h.table.wrong, .slice (eI h.sick), i6 h.others, i6 h.last, v1, .emp, .emp]) := hk'.box (hG5 _ _) (by rw [updH_ne _ _ n35, updH_ne _ _ n35]; exact hB3)
    simp only [go_sem, reduceIte, reduceCtorEq, Nat.reduceEqDiff, Nat.reduceBEq, Nat.reduceAdd, Nat.reduceMul, Nat.reduceLeDiff, g1, g2, g3, g4, hN]
    rw [v_store]
    refine ⟨hg'.cellv.1, by rw [hg'.cellv.2.1]; rfl, by rw [hg'.cellv.2.1]; intro y hy; simp at hy; subst hy; exact hg'.cellv.2.2, _, K3, by simp, ?_⟩
    rw [hg'.cellv.2.1, show placeAt [.slice (h.table.women.map eW), .slice (h.table.pieces.map eP), i6 h.table.wrong, .slice (eI h.sick), i6 h.others, i6 h.last, v1, .emp, .emp] (0 + 6) [v'] = [.slice (h.table.women.map eW), .slice (h.table.pieces.map eP), i6 h.table.wrong, .slice (eI h.sick), i6 h.others, i6 h.last, v', .emp, .emp] from rfl]
    simp only [go_sem, reduceIte, reduceCtorEq, Nat.reduceEqDiff, Nat.reduceBEq, Nat.reduceAdd, Nat.reduceMul, Nat.reduceLeDiff, g1, g2, g3, g4, hN, wsucc (show j < 4611686018427387904 by omega), hlt', updH_ne _ _ n13, updH_ne _ _ n23, K1, K2]
    refine ⟨he'.upd z3 _, v', rfl, ?_⟩
    rw [take_snoc hlt', List.map_append]; exact hg'.store K3 _
  have hj' : j = h.touches.length := by omega
  subst hj'
  rw [List.take_length] at hG
  simp only [go_sem, reduceIte, reduceCtorEq, Nat.reduceEqDiff, Nat.reduceBEq, Nat.reduceAdd, Nat.reduceMul, Nat.reduceLeDiff, g1, g2, g3, g4, hN, hlt, hB1, take_f', List.getElem?_cons_zero]
  -- the boilings
  refine x_for h.boiled.length (fun j env H1 => Ext H H1 ∧ H1 b1 = some (.box [.slice (h.table.women.map eW), .slice (h.table.pieces.map eP), i6 h.table.wrong, .slice (eI h.sick), i6 h.others, i6 h.last, .slice (h.touches.map eTo), .slice (h.boiled.map eB), .slice (h.signs.map eS)]) ∧ H1 b2 = some (.box [.emp, .emp, .int .i64 0, .emp, .int .i64 0, .int .i64 0, .emp, .emp, .emp]) ∧ (∃ v2, H1 b3 = some (.box [.slice (h.table.women.map eW), .slice (h.table.pieces.map eP), i6 h.table.wrong, .slice (eI h.sick), i6 h.others, i6 h.last, v1, v2, .emp]) ∧ Grown 4 H H1 v1 (h.touches.map eTo) ∧ Grown 2 H H1 v2 ((h.boiled.take j).map eB) ∧ Apart v2 v1) ∧ env 1 = .ptr b1 0 ∧ env 2 = .ptr b2 0 ∧ env 3 = .ptr b3 0 ∧ env 6 = i6 j ∧ env 99 = .any)
    ⟨hE, hB1, hB2, ⟨.emp, hB3, hG, .inl ⟨rfl, rfl⟩, fun b c e c' e' h => by cases h⟩, by simp [upd_at, g1], by simp [upd_at, g2], by simp [upd_at, g3], by simp [upd_at], by simp [upd_at, hN]⟩ ?_
  clear hE hB1 hB2 hB3 hG g1 g2 g3 g4 hN hlt hj env H1
  rintro j env H1 hj ⟨hE, hB1, hB2, ⟨v2, hB3, hG1, hG2, hap⟩, g1, g2, g3, g6, hN⟩
  by_cases hlt : (j : Int) < (h.boiled.length : Int)
  · have hlt' : j < h.boiled.length := by omega
    simp only [go_sem, reduceIte, reduceCtorEq, Nat.reduceEqDiff, Nat.reduceBEq, Nat.reduceAdd, Nat.reduceMul, Nat.reduceLeDiff, g1, g2, g3, g6, hN, hlt, hB1, hB3, take_f', List.getElem?_cons_zero, List.getElem?_cons_succ, map_get (f := eB) hlt', eB, bc2, Option.map_some, d_bsa]
    refine v_append_in hG2 hE rfl (eB_good _) (eB_good [h.boiled[j]]) (eB_cell [h.boiled[j]]) (by simp; omega) (by simp; omega) ?_
    intro v' H2 hg' he' hk' hoth
    obtain ⟨hG1', hap'⟩ := hoth 4 v1 _ hG1 hap
    have K1 := hk' b1 _ hB1 (by intros; simp)
    have K2 := hk' b2 _ hB2 (by intros; simp)
    have K3 := hk' b3 _ hB3 (by intros; simp)
    simp only [go_sem, reduceIte, reduceCtorEq, Nat.reduceEqDiff, Nat.reduceBEq, Nat.reduceAdd, Nat.reduceMul, Nat.reduceLeDiff, g1, g2, g3, g6, hN]
    rw [v_store]
    refine ⟨hg'.cellv.1, by rw [hg'.cellv.2.1]; rfl, by rw [hg'.cellv.2.1]; intro y hy; simp at hy; subst hy; exact hg'.cellv.2.2, _, K3, by simp, ?_⟩
    rw [hg'.cellv.2.1, show placeAt [.slice (h.table.women.map eW), .slice (h.table.pieces.map eP), i6 h.table.wrong, .slice (eI h.sick), i6 h.others, i6 h.last, v1, v2, .emp] (0 + 7) [v'] = [.slice (h.table.women.map eW), .slice (h.table.pieces.map eP), i6 h.table.wrong, .slice (eI h.sick), i6 h.others, i6 h.last, v1, v', .emp] from rfl]
    simp only [go_sem, reduceIte, reduceCtorEq, Nat.reduceEqDiff, Nat.reduceBEq, Nat.reduceAdd, Nat.reduceMul, Nat.reduceLeDiff, g1, g2, g3, g6, hN, wsucc (show j < 4611686018427387904 by omega), hlt', updH_ne _ _ n13, updH_ne _ _ n23, K1, K2]
    refine ⟨he'.upd z3 _, v', rfl, hG1'.store K3 _, ?_, hap'⟩
    rw [take_snoc hlt', List.map_append]; exact hg'.store K3 _
  have hj' : j = h.boiled.length := by omega
  subst hj'
  rw [List.take_length] at hG2
  simp only [go_sem, reduceIte, reduceCtorEq, Nat.reduceEqDiff, Nat.reduceBEq, Nat.reduceAdd, Nat.reduceMul, Nat.reduceLeDiff, g1, g2, g3, g6, hN, hlt, hB1, take_f', List.getElem?_cons_zero]
  -- the signs
  refine x_for h.signs.length (fun j env H1 => Ext H H1 ∧ H1 b1 = some (.box [.slice (h.table.women.map eW), .slice (h.table.pieces.map eP), i6 h.table.wrong, .slice (eI h.sick), i6 h.others, i6 h.last, .slice (h.touches.map eTo), .slice (h.boiled.map eB), .slice (h.signs.map eS)]) ∧ H1 b2 = some (.box [.emp, .emp, .int .i64 0, .emp, .int .i64 0, .int .i64 0, .emp, .emp, .emp]) ∧ (∃ v3, H1 b3 = some (.box [.slice (h.table.women.map eW), .slice (h.table.pieces.map eP), i6 h.table.wrong, .slice (eI h.sick), i6 h.others, i6 h.last, v1, v2, v3]) ∧ Grown 4 H H1 v1 (h.touches.map eTo) ∧ Grown 2 H H1 v2 (h.boiled.map eB) ∧ Grown 2 H H1 v3 ((h.signs.take j).map eS) ∧ Apart v3 v1 ∧ Apart v3 v2) ∧ env 1 = .ptr b1 0 ∧ env 2 = .ptr b2 0 ∧ env 3 = .ptr b3 0 ∧ env 7 = i6 j ∧ env 99 = .any)
    ⟨hE, hB1, hB2, ⟨.emp, hB3, hG1, hG2, .inl ⟨rfl, rfl⟩, (fun b c e c' e' h => by cases h), fun b c e c' e' h => by cases h⟩, by simp [upd_at, g1], by simp [upd_at, g2], by simp [upd_at, g3], by simp [upd_at], by simp [upd_at, hN]⟩ ?_
  clear hE hB1 hB2 hB3 hG1 hG2 hap g1 g2 g3 g6 hN hlt hj env H1
  rintro j env H1 hj ⟨hE, hB1, hB2, ⟨v3, hB3, hG1, hG2, hG3, hap1, hap2⟩, g1, g2, g3, g7, hN⟩
  by_cases hlt : (j : Int) < (h.signs.length : Int)
  · have hlt' : j < h.signs.length := by omega
    simp only [go_sem, reduceIte, reduceCtorEq, Nat.reduceEqDiff, Nat.reduceBEq, Nat.reduceAdd, Nat.reduceMul, Nat.reduceLeDiff, g1, g2, g3, g7, hN, hlt, hB1, hB3, take_f', List.getElem?_cons_zero, List.getElem?_cons_succ, map_get (f := eS) hlt', eS, bcS, Option.map_some, d_bsa]
    refine v_append_in hG3 hE rfl (eS_good _) (eS_good [h.signs[j]]) (eS_cell [h.signs[j]]) (by simp; omega) (by simp; omega) ?_
    intro v' H2 hg' he' hk' hoth
    obtain ⟨hG1', hap1'⟩ := hoth 4 v1 _ hG1 hap1
    obtain ⟨hG2', hap2'⟩ := hoth 2 v2 _ hG2 hap2
    have K1 := hk' b1 _ hB1 (by intros; simp)
    have K2 := hk' b2 _ hB2 (by intros; simp)
    have K3 := hk' b3 _ hB3 (by intros; simp)
    simp only [go_sem, reduceIte, reduceCtorEq, Nat.reduceEqDiff, Nat.reduceBEq, Nat.reduceAdd, Nat.reduceMul, Nat.reduceLeDiff, g1, g2, g3, g7, hN]
    rw [v_store]
    refine ⟨hg'.cellv.1, by rw [hg'.cellv.2.1]; rfl, by rw [hg'.cellv.2.1]; intro y hy; simp at hy; subst hy; exact hg'.cellv.2.2, _, K3, by simp, ?_⟩
    rw [hg'.cellv.2.1, show placeAt [.slice (h.table.women.map eW), .slice (h.table.pieces.map eP), i6 h.table.wrong, .slice (eI h.sick), i6 h.others, i6 h.last, v1, v2, v3] (0 + 8) [v'] = [.slice (h.table.women.map eW), .slice (h.table.pieces.map eP), i6 h.table.wrong, .slice (eI h.sick), i6 h.others, i6 h.last, v1, v2, v'] from rfl]
    simp only [go_sem, reduceIte, reduceCtorEq, Nat.reduceEqDiff, Nat.reduceBEq, Nat.reduceAdd, Nat.reduceMul, Nat.reduceLeDiff, g1, g2, g3, g7, hN, wsucc (show j < 4611686018427387904 by omega), hlt', updH_ne _ _ n13, updH_ne _ _ n23, K1, K2]
    refine ⟨he'.upd z3 _, v', rfl, hG1'.store K3 _, hG2'.store K3 _, ?_, hap1', hap2'⟩
    rw [take_snoc hlt', List.map_append]; exact hg'.store K3 _
  have hj' : j = h.signs.length := by omega
  subst hj'
  rw [List.take_length] at hG3
  simp only [go_sem, reduceIte, reduceCtorEq, Nat.reduceEqDiff, Nat.reduceBEq, Nat.reduceAdd, Nat.reduceMul, Nat.reduceLeDiff, g1, g2, g3, g7, hN, hlt, hB1, hB3, take_f', List.getElem?_cons_zero]
  rw [v_store]
  refine ⟨rfl, rfl, by
    intro y hy
    simp only [AV.cells, List.mem_cons, List.not_mem_nil, or_false] at hy
    rcases hy with rfl | rfl | rfl | rfl | rfl | rfl | rfl | rfl | rfl
    · rfl
    · rfl
    · rfl
    · rfl
    · rfl
    · rfl
    · exact hG1.cellv.2.2
    · exact hG2.cellv.2.2
    · exact hG3.cellv.2.2, _, hB2, by simp, ?_⟩
  rw [c_agg, show placeAt [.emp, .emp, .int .i64 0, .emp, .int .i64 0, .int .i64 0, .emp, .emp, .emp] 0 [.slice (h.table.women.map eW), .slice (h.table.pieces.map eP), i6 h.table.wrong, .slice (eI h.sick), i6 h.others, i6 h.last, v1, v2, v3] = [.slice (h.table.women.map eW), .slice (h.table.pieces.map eP), i6 h.table.wrong, .slice (eI h.sick), i6 h.others, i6 h.last, v1, v2, v3] from rfl]
  simp only [go_sem, reduceIte, reduceCtorEq, Nat.reduceEqDiff, Nat.reduceBEq, Nat.reduceAdd, Nat.reduceMul, Nat.reduceLeDiff, g1, g2, g3, g7, hN]
  have eF := hE.upd z2 (.box [.slice (h.table.women.map eW), .slice (h.table.pieces.map eP), i6 h.table.wrong, .slice (eI h.sick), i6 h.others, i6 h.last, v1, v2, v3])
  have gF1 := hG1.store hB2 (.box [.slice (h.table.women.map eW), .slice (h.table.pieces.map eP), i6 h.table.wrong, .slice (eI h.sick), i6 h.others, i6 h.last, v1, v2, v3])
  have gF2 := hG2.store hB2 (.box [.slice (h.table.women.map eW), .slice (h.table.pieces.map eP), i6 h.table.wrong, .slice (eI h.sick), i6 h.others, i6 h.last, v1, v2, v3])
  have gF3 := hG3.store hB2 (.box [.slice (h.table.women.map eW), .slice (h.table.pieces.map eP), i6 h.table.wrong, .slice (eI h.sick), i6 h.others, i6 h.last, v1, v2, v3])
  refine fin_cell1 2 9 b2 45 _ (by simp [upd_at, hN]) agg45 sz45 (by simp [upd_at, g2]) (updH_same _ _ _) rfl ⟨eH h, H, settle_agg eF rfl fun i x y hx hy w v hH hr => ?_, rfl, rfl⟩
  match i, hx, hy with
  | 0, hx, hy => cases hx; cases hy; exact hr.mono (Evolve.drop eF)
  | 1, hx, hy => cases hx; cases hy; exact hr.mono (Evolve.drop eF)
  | 2, hx, hy => cases hx; cases hy; exact hr.mono (Evolve.drop eF)
  | 3, hx, hy => cases hx; cases hy; exact hr.mono (Evolve.drop eF)
  | 4, hx, hy => cases hx; cases hy; exact hr.mono (Evolve.drop eF)
  | 5, hx, hy => cases hx; cases hy; exact hr.mono (Evolve.drop eF)
  | 6, hx, hy => cases hx; cases hy; exact (gF1.weaken eF).2 w v hH hr
  | 7, hx, hy => cases hx; cases hy; exact (gF2.weaken eF).2 w v hH hr
  | 8, hx, hy => cases hx; cases hy; exact (gF3.weaken eF).2 w v hH hr
end Go.Lift

set_option linter.unusedSimpArgs false
set_option linter.unusedVariables false
namespace Go.Lift
open Go Go.Proofs
def tubT : Table := ⟨[⟨1, 2, 2⟩, ⟨1, 1, 2⟩, ⟨2, 1, 1⟩], [⟨[1], 0⟩, ⟨[1, 2], 0⟩, ⟨[1], 1⟩, ⟨[2], 1⟩], 0⟩
def tubH (k : Nat) : House := ⟨tubT, [2], 1, 2, [⟨3, 4, 0, 1⟩, ⟨4, 0, 0, 1⟩, ⟨0, 1, 2, 2⟩], [], ([⟨0, false⟩, ⟨1, true⟩] : List Sign).take k⟩
def tubC (a b : Int) : Course := ⟨[0, 0, 1, 2], [a, b, 2]⟩
theorem tub_check2 : checkHouse (tubH 2) = 0 := by decide +kernel
theorem tub_play : playE (tubH 0) (tubC 1 0) = 0 ∧ truesUpto (lastOf (tubH 0) (tubC 1 0) []) 10 = [3, 4] := by decide +kernel
theorem tub_ask0 : askErrH (tubH 0) true = 0 := by decide +kernel
theorem tub_carry : carryOf (tubH 0) = [3, 3, 2, 1, 1] := by decide +kernel
theorem tub_whose : whoseS (tubH 0) = [0, 1] := by decide +kernel
theorem tub_hour : hourOK (tubH 0) 1 = true := by decide +kernel
theorem tub_boil : boilOf' (tubH 0) 1 = [0, 3, 4] := by decide +kernel
theorem tub_order : orderE (tubH 0) 1 = 0 ∧ orderOf (tubH 0) 1 = [0, 0] := by decide +kernel
theorem tub_ask1 : askErrH (tubH 1) true = 0 := by decide +kernel
theorem tub_boil1 : boilOf' (tubH 1) 1 = [] := by decide +kernel
theorem tub_first : (List.range (tubH 2).signs.length).find? (badAt (tubH 2)) = some 1 := by decide +kernel
theorem tub_leave : leaveOf (tubH 2) = [0] := by decide +kernel
end Go.Lift

set_option linter.unusedSimpArgs false
set_option linter.unusedVariables false
namespace Go.Lift
open Go Go.Proofs
def thinT (t : Table) : Bool := decide (t.women.length ≤ 30) && decide (t.pieces.length ≤ 30) && t.pieces.all fun p => decide (p.marks.length ≤ 30)
theorem thinT_c (t : Table) : Pure Tryz.prog 113 [eT t] (.bool (thinT t)) := by
  intro H
  refine fn_of hmix fc113 (by simp) ?_
  rw [ienv1]
  simp only [go_sem, reduceIte, reduceCtorEq, Nat.reduceEqDiff, Nat.reduceBEq, Nat.reduceAdd, Nat.reduceMul, Nat.reduceLeDiff, ac113, eT]
  refine v_box _ rfl fun b1 hb1 => ?_
  have e1 := (Ext.refl H).new hb1 (.box [.slice (t.women.map eW), .slice (t.pieces.map eP), i6 t.wrong])
  by_cases c1 : 30 < (t.women.length : Int)
  · simp only [go_sem, reduceIte, reduceCtorEq, Nat.reduceEqDiff, Nat.reduceBEq, Nat.reduceAdd, Nat.reduceMul, Nat.reduceLeDiff, c1]
    refine fin_ret 2 (by simp [upd_at]) ⟨_, H, Settle.refl e1, ?_, rfl⟩
    simp [upd_at, thinT, show ¬ t.women.length ≤ 30 by omega]
  by_cases c2 : 30 < (t.pieces.length : Int)
  · simp only [go_sem, reduceIte, reduceCtorEq, Nat.reduceEqDiff, Nat.reduceBEq, Nat.reduceAdd, Nat.reduceMul, Nat.reduceLeDiff, c1, c2]
    refine fin_ret 2 (by simp [upd_at]) ⟨_, H, Settle.refl e1, ?_, rfl⟩
    simp [upd_at, thinT, show ¬ t.pieces.length ≤ 30 by omega]
  simp only [go_sem, reduceIte, reduceCtorEq, Nat.reduceEqDiff, Nat.reduceBEq, Nat.reduceAdd, Nat.reduceMul, Nat.reduceLeDiff, c1, c2]
  refine x_for t.pieces.length (fun j env H1 => Ext H H1 ∧ H1 b1 = some (.box [.slice (t.women.map eW), .slice (t.pieces.map eP), i6 t.wrong]) ∧ env 1 = .ptr b1 0 ∧ env 3 = i6 j ∧ env 29 = .any ∧ (t.pieces.take j).all (fun p => decide (p.marks.length ≤ 30)) = true)
    ⟨e1, updH_same _ _ _, by simp [upd_at], by simp [upd_at], by simp [upd_at], by simp⟩ ?_
  rintro j env H1 hj ⟨hE, hB, g1, g3, hN, hq⟩
  by_cases hlt : (j : Int) < (t.pieces.length : Int)
  · have hlt' : j < t.pieces.length := by omega
    by_cases c3 : 30 < (t.pieces[j].marks.length : Int)
    · simp only [go_sem, reduceIte, reduceCtorEq, Nat.reduceEqDiff, Nat.reduceBEq, Nat.reduceAdd, Nat.reduceMul, Nat.reduceLeDiff, g1, g3, hN, hlt, hB, take_f', List.getElem?_cons_zero, map_get (f := eP) hlt', eP, c3]
      refine fin_ret 2 (by simp [upd_at, hN]) ⟨_, H, Settle.refl hE, ?_, rfl⟩
      have : t.pieces.all (fun p => decide (p.marks.length ≤ 30)) = false := List.all_eq_false.2 ⟨_, List.getElem_mem hlt', by simp; omega⟩
      simp only [upd_at, if_true, thinT, this, Bool.and_false]
    · simp only [go_sem, reduceIte, reduceCtorEq, Nat.reduceEqDiff, Nat.reduceBEq, Nat.reduceAdd, Nat.reduceMul, Nat.reduceLeDiff, g1, g3, hN, hlt, hB, take_f', List.getElem?_cons_zero, map_get (f := eP) hlt', eP, c3, wsucc (show j < 4611686018427387904 by omega), hlt']
      refine ⟨hE, ?_⟩
      rw [take_snoc hlt', List.all_append, hq]; simp; omega
  · simp only [go_sem, reduceIte, reduceCtorEq, Nat.reduceEqDiff, Nat.reduceBEq, Nat.reduceAdd, Nat.reduceMul, Nat.reduceLeDiff, g1, g3, hN, hlt, hB, take_f', List.getElem?_cons_zero]
    have : j = t.pieces.length := by omega
    subst this
    rw [List.take_length] at hq
    refine fin_ret 2 (by simp [upd_at, hN]) ⟨_, H, Settle.refl hE, ?_, rfl⟩
    simp only [upd_at, if_true, thinT, hq, Bool.and_true, AV.bool.injEq]
    rw [decide_eq_true (show t.women.length ≤ 30 by omega), decide_eq_true (show t.pieces.length ≤ 30 by omega)]; rfl
def shortH (h : House) : Bool := thinT h.table && decide (h.sick.length ≤ 30) && decide (h.touches.length ≤ 30) && decide (h.boiled.length ≤ 30) && decide (h.signs.length ≤ 30)
theorem dle (n : Nat) : decide ((n : Int) ≤ 30) = decide (n ≤ 30) := by
  rw [decide_eq_decide]; omega
theorem short_c (h : House) : Pure Tryz.prog 64 [eH h] (.bool (shortH h)) := by
  intro H
  refine fn_of hmix fc64 (by simp) ?_
  rw [ienv1]
  simp only [go_sem, reduceIte, reduceCtorEq, Nat.reduceEqDiff, Nat.reduceBEq, Nat.reduceAdd, Nat.reduceMul, Nat.reduceLeDiff, ac64, eH]
  refine v_box _ rfl fun b1 hb1 => ?_
  have e1 := (Ext.refl H).new hb1 (.box [.slice (h.table.women.map eW), .slice (h.table.pieces.map eP), i6 h.table.wrong, .slice (eI h.sick), i6 h.others, i6 h.last, .slice (h.touches.map eTo), .slice (h.boiled.map eB), .slice (h.signs.map eS)])
  simp only [go_sem, reduceIte, reduceCtorEq, Nat.reduceEqDiff, Nat.reduceBEq, Nat.reduceAdd, Nat.reduceMul, Nat.reduceLeDiff]
  refine (thinT_c h.table).go ?_
  cases c1 : thinT h.table
  · simp only [go_sem, reduceIte, reduceCtorEq, Nat.reduceEqDiff, Nat.reduceBEq, Nat.reduceAdd, Nat.reduceMul, Nat.reduceLeDiff]
    refine fin_ret 2 (by simp [upd_at]) ⟨_, H, Settle.refl e1, ?_, rfl⟩
    simp [upd_at, shortH, c1]
  simp only [go_sem, reduceIte, reduceCtorEq, Nat.reduceEqDiff, Nat.reduceBEq, Nat.reduceAdd, Nat.reduceMul, Nat.reduceLeDiff, dle]
  cases c2 : decide (h.sick.length ≤ 30)
  · simp only [go_sem, reduceIte, reduceCtorEq, Nat.reduceEqDiff, Nat.reduceBEq, Nat.reduceAdd, Nat.reduceMul, Nat.reduceLeDiff]
    refine fin_ret 2 (by simp [upd_at]) ⟨_, H, Settle.refl e1, ?_, rfl⟩
    simp only [upd_at, if_true, shortH, c1, c2, Bool.and_false, Bool.false_and]
  simp only [go_sem, reduceIte, reduceCtorEq, Nat.reduceEqDiff, Nat.reduceBEq, Nat.reduceAdd, Nat.reduceMul, Nat.reduceLeDiff, dle]
  cases c3 : decide (h.touches.length ≤ 30)
  · simp only [go_sem, reduceIte, reduceCtorEq, Nat.reduceEqDiff, Nat.reduceBEq, Nat.reduceAdd, Nat.reduceMul, Nat.reduceLeDiff]
    refine fin_ret 2 (by simp [upd_at]) ⟨_, H, Settle.refl e1, ?_, rfl⟩
    simp only [upd_at, if_true, shortH, c1, c3, Bool.and_false, Bool.false_and]
  simp only [go_sem, reduceIte, reduceCtorEq, Nat.reduceEqDiff, Nat.reduceBEq, Nat.reduceAdd, Nat.reduceMul, Nat.reduceLeDiff, dle]
  cases c4 : decide (h.boiled.length ≤ 30)
  · simp only [go_sem, reduceIte, reduceCtorEq, Nat.reduceEqDiff, Nat.reduceBEq, Nat.reduceAdd, Nat.reduceMul, Nat.reduceLeDiff]
    refine fin_ret 2 (by simp [upd_at]) ⟨_, H, Settle.refl e1, ?_, rfl⟩
    simp only [upd_at, if_true, shortH, c1, c4, Bool.and_false, Bool.false_and]
  simp only [go_sem, reduceIte, reduceCtorEq, Nat.reduceEqDiff, Nat.reduceBEq, Nat.reduceAdd, Nat.reduceMul, Nat.reduceLeDiff, dle]
  refine fin_ret 2 (by simp [upd_at]) ⟨_, H, Settle.refl e1, ?_, rfl⟩
  simp only [upd_at, if_true, shortH, c1, c2, c3, c4, Bool.true_and]
theorem short_sm {h : House} (hs : shortH h = true) : HSm h := by
  simp only [shortH, thinT, Bool.and_eq_true, decide_eq_true_eq, List.all_eq_true] at hs
  obtain ⟨⟨⟨⟨⟨⟨s1, s2⟩, s3⟩, s4⟩, s5⟩, s6⟩, s7⟩ := hs
  exact ⟨by omega, by omega, fun p hp => by have := s3 p hp; omega, by omega, by omega, by omega, by omega⟩
def thinH (h : House) : Bool := shortH h && (!decide (checkHouse h = 0) || decide (thingsW h ≤ 7))
theorem thinH_c (h : House) : Pure Tryz.prog 19 [eH h] (.bool (thinH h)) := by
  intro H
  refine fn_of hmix fc19 (by simp) ?_
  rw [ienv1]
  simp only [go_sem, reduceIte, reduceCtorEq, Nat.reduceEqDiff, Nat.reduceBEq, Nat.reduceAdd, Nat.reduceMul, Nat.reduceLeDiff, ac19, eH]
  refine v_box _ rfl fun b1 hb1 => ?_
  have e1 := (Ext.refl H).new hb1 (.box [.slice (h.table.women.map eW), .slice (h.table.pieces.map eP), i6 h.table.wrong, .slice (eI h.sick), i6 h.others, i6 h.last, .slice (h.touches.map eTo), .slice (h.boiled.map eB), .slice (h.signs.map eS)])
  simp only [go_sem, reduceIte, reduceCtorEq, Nat.reduceEqDiff, Nat.reduceBEq, Nat.reduceAdd, Nat.reduceMul, Nat.reduceLeDiff]
  refine (short_c h).go ?_
  cases c1 : shortH h
  · simp only [go_sem, reduceIte, reduceCtorEq, Nat.reduceEqDiff, Nat.reduceBEq, Nat.reduceAdd, Nat.reduceMul, Nat.reduceLeDiff]
    refine fin_ret 2 (by simp [upd_at]) ⟨_, H, Settle.refl e1, ?_, rfl⟩
    simp [upd_at, thinH, c1]
  have hs := short_sm c1
  simp only [go_sem, reduceIte, reduceCtorEq, Nat.reduceEqDiff, Nat.reduceBEq, Nat.reduceAdd, Nat.reduceMul, Nat.reduceLeDiff]
  refine (faultH_c h hs.tsm hs.sk).go ?_
  by_cases c2 : checkHouse h = 0
  rotate_left
  · simp only [go_sem, reduceIte, reduceCtorEq, Nat.reduceEqDiff, Nat.reduceBEq, Nat.reduceAdd, Nat.reduceMul, Nat.reduceLeDiff, c2]
    refine fin_ret 2 (by simp [upd_at]) ⟨_, H, Settle.refl e1, ?_, rfl⟩
    simp [upd_at, thinH, c1, c2]
  simp only [go_sem, reduceIte, reduceCtorEq, Nat.reduceEqDiff, Nat.reduceBEq, Nat.reduceAdd, Nat.reduceMul, Nat.reduceLeDiff, c2]
  refine (thingsR_c h).go ?_
  simp only [go_sem, reduceIte, reduceCtorEq, Nat.reduceEqDiff, Nat.reduceBEq, Nat.reduceAdd, Nat.reduceMul, Nat.reduceLeDiff]
  refine fin_ret 2 (by simp [upd_at]) ⟨_, H, Settle.refl e1, ?_, rfl⟩
  simp [upd_at, thinH, c1, c2]
theorem fault_c (h : House) (hs : HSm h) : Pure Tryz.prog 31 [eH h] (i6 (checkHouse h)) := by
  intro H
  refine fn_of hmix fc31 (by simp) ?_
  rw [ienv1]
  simp only [go_sem, reduceIte, reduceCtorEq, Nat.reduceEqDiff, Nat.reduceBEq, Nat.reduceAdd, Nat.reduceMul, Nat.reduceLeDiff, ac31, eH]
  refine v_box _ rfl fun b1 hb1 => ?_
  simp only [go_sem, reduceIte, reduceCtorEq, Nat.reduceEqDiff, Nat.reduceBEq, Nat.reduceAdd, Nat.reduceMul, Nat.reduceLeDiff]
  refine (faultH_c h hs.tsm hs.sk).go ?_
  simp only [go_sem, reduceIte, reduceCtorEq, Nat.reduceEqDiff, Nat.reduceBEq, Nat.reduceAdd, Nat.reduceMul, Nat.reduceLeDiff]
  refine fin_ret 2 (by simp [upd_at]) ⟨_, H, Settle.refl ((Ext.refl H).new hb1 _), ?_, rfl⟩
  simp [upd_at]
def readyH (h : House) : Bool := thinH h && decide (checkHouse h = 0)
theorem ready_c (h : House) : Pure Tryz.prog 35 [eH h] (.bool (readyH h)) := by
  intro H
  refine fn_of hmix fc35 (by simp) ?_
  rw [ienv1]
  simp only [go_sem, reduceIte, reduceCtorEq, Nat.reduceEqDiff, Nat.reduceBEq, Nat.reduceAdd, Nat.reduceMul, Nat.reduceLeDiff, ac35, eH]
  refine v_box _ rfl fun b1 hb1 => ?_
  have e1 := (Ext.refl H).new hb1 (.box [.slice (h.table.women.map eW), .slice (h.table.pieces.map eP), i6 h.table.wrong, .slice (eI h.sick), i6 h.others, i6 h.last, .slice (h.touches.map eTo), .slice (h.boiled.map eB), .slice (h.signs.map eS)])
  simp only [go_sem, reduceIte, reduceCtorEq, Nat.reduceEqDiff, Nat.reduceBEq, Nat.reduceAdd, Nat.reduceMul, Nat.reduceLeDiff]
  refine (thinH_c h).go ?_
  cases c1 : thinH h
  · simp only [go_sem, reduceIte, reduceCtorEq, Nat.reduceEqDiff, Nat.reduceBEq, Nat.reduceAdd, Nat.reduceMul, Nat.reduceLeDiff]
    refine fin_ret 2 (by simp [upd_at]) ⟨_, H, Settle.refl e1, ?_, rfl⟩
    simp [upd_at, readyH, c1]
  have hs : HSm h := by
    rw [thinH, Bool.and_eq_true] at c1; exact short_sm c1.1
  simp only [go_sem, reduceIte, reduceCtorEq, Nat.reduceEqDiff, Nat.reduceBEq, Nat.reduceAdd, Nat.reduceMul, Nat.reduceLeDiff]
  refine (fault_c h hs).go ?_
  simp only [go_sem, reduceIte, reduceCtorEq, Nat.reduceEqDiff, Nat.reduceBEq, Nat.reduceAdd, Nat.reduceMul, Nat.reduceLeDiff]
  refine fin_ret 2 (by simp [upd_at]) ⟨_, H, Settle.refl e1, ?_, rfl⟩
  simp [upd_at, readyH, c1]
end Go.Lift

set_option linter.unusedSimpArgs false
set_option linter.unusedVariables false
namespace Go.Lift
open Go Go.Proofs
theorem agg130 : isAggB Tryz.prog 130 = some true := by kernel_rfl
theorem sz130 : szB Tryz.prog 130 = some 2 := by kernel_rfl
theorem between_c (a b : Int) : Pure Tryz.prog 125 [i6 a, i6 b] (.agg [i6 a, i6 b]) := by
  intro H
  refine fn_of hmix fc125 (by simp) ?_
  rw [ienv2]
  simp only [go_sem, reduceIte, reduceCtorEq, Nat.reduceEqDiff, Nat.reduceBEq, Nat.reduceAdd, Nat.reduceMul, Nat.reduceLeDiff, ac125]
  refine v_alloc fun b4 hb4 => ?_
  simp only [go_sem, reduceIte, reduceCtorEq, Nat.reduceEqDiff, Nat.reduceBEq, Nat.reduceAdd, Nat.reduceMul, Nat.reduceLeDiff, bc2, Option.map_some]
  rw [v_store]
  refine ⟨rfl, rfl, by simp [AV.cells, AV.isCell], _, updH_same _ _ _, by simp, ?_⟩
  rw [c_agg, show placeAt [.int .i64 0, .int .i64 0] 0 [i6 a, i6 b] = [i6 a, i6 b] from rfl]
  simp only [go_sem, reduceIte, reduceCtorEq, Nat.reduceEqDiff, Nat.reduceBEq, Nat.reduceAdd, Nat.reduceMul, Nat.reduceLeDiff]
  exact fin_cell1 4 2 b4 130 _ (by simp [upd_at]) agg130 sz130 (by simp [upd_at]) (updH_same _ _ _) rfl ⟨_, H, Settle.refl (((Ext.refl H).new hb4 _).upd hb4 _), rfl, rfl⟩
theorem bsI4 (H : AHeap) (a b c d : Int) : detV (.bslice 1) [.int .i64 a, .int .i64 b, .int .i64 c, .int .i64 d] H = some (.slice (eI [a, b, c, d])) := by simp [detV, AV.ok, AV.cells, eI]
theorem bsI5 (H : AHeap) (a b c d e : Int) : detV (.bslice 1) [.int .i64 a, .int .i64 b, .int .i64 c, .int .i64 d, .int .i64 e] H = some (.slice (eI [a, b, c, d, e])) := by simp [detV, AV.ok, AV.cells, eI]
theorem bsI3 (H : AHeap) (a b c : Int) : detV (.bslice 1) [.int .i64 a, .int .i64 b, .int .i64 c] H = some (.slice (eI [a, b, c])) := by simp [detV, AV.ok, AV.cells, eI]
theorem bsI2 (H : AHeap) (a b : Int) : detV (.bslice 1) [.int .i64 a, .int .i64 b] H = some (.slice (eI [a, b])) := by simp [detV, AV.ok, AV.cells, eI]
theorem bsI1 (H : AHeap) (a : Int) : detV (.bslice 1) [.int .i64 a] H = some (.slice (eI [a])) := by simp [detV, AV.ok, AV.cells, eI]
theorem passed_c (a b : Int) : Pure Tryz.prog 75 [i6 a, i6 b] (eC (tubC a b)) := by
  intro H
  refine fn_of hmix fc75 (by simp) ?_
  rw [ienv2]
  simp only [go_sem, reduceIte, reduceCtorEq, Nat.reduceEqDiff, Nat.reduceBEq, Nat.reduceAdd, Nat.reduceMul, Nat.reduceLeDiff, ac75]
  refine v_alloc fun b4 hb4 => ?_
  simp only [go_sem, reduceIte, reduceCtorEq, Nat.reduceEqDiff, Nat.reduceBEq, Nat.reduceAdd, Nat.reduceMul, Nat.reduceLeDiff, bsI4, bsI3, bc36, Option.map_some]
  rw [v_store]
  refine ⟨rfl, rfl, by simp [AV.cells, AV.isCell], _, updH_same _ _ _, by simp, ?_⟩
  rw [c_agg, show placeAt [.emp, .emp] 0 [.slice (eI [0, 0, 1, 2]), .slice (eI [a, b, 2])] = [.slice (eI [0, 0, 1, 2]), .slice (eI [a, b, 2])] from rfl]
  simp only [go_sem, reduceIte, reduceCtorEq, Nat.reduceEqDiff, Nat.reduceBEq, Nat.reduceAdd, Nat.reduceMul, Nat.reduceLeDiff]
  exact fin_cell1 4 2 b4 71 _ (by simp [upd_at]) agg71 sz71 (by simp [upd_at]) (updH_same _ _ _) rfl ⟨_, H, Settle.refl (((Ext.refl H).new hb4 _).upd hb4 _), rfl, rfl⟩
theorem bs3a (H : AHeap) (a b c d e f g h i : AV) : detV (.bslice 3) [.agg [a, b, c], .agg [d, e, f], .agg [g, h, i]] H = some (.slice [[a, b, c], [d, e, f], [g, h, i]]) := by simp [detV, AV.ok, AV.cells]
theorem bs2a (H : AHeap) (a b c d e f g h : AV) : detV (.bslice 2) [.agg [a, b], .agg [c, d], .agg [e, f], .agg [g, h]] H = some (.slice [[a, b], [c, d], [e, f], [g, h]]) := by simp [detV, AV.ok, AV.cells]
theorem bs2b (H : AHeap) (a b c d : AV) : detV (.bslice 2) [.agg [a, b], .agg [c, d]] H = some (.slice [[a, b], [c, d]]) := by simp [detV, AV.ok, AV.cells]
theorem bs4a (H : AHeap) (a b c d e f g h i j k l : AV) : detV (.bslice 4) [.agg [a, b, c, d], .agg [e, f, g, h], .agg [i, j, k, l]] H = some (.slice [[a, b, c, d], [e, f, g, h], [i, j, k, l]]) := by simp [detV, AV.ok, AV.cells]
theorem bcS0 (a : Int) : buildCells [.int .i64 0, .bool false] [(0, 1)] [.int .i64 a] = some [i6 a, .bool false] := by simp [buildCells, placeAt, AV.ok, AV.cells]
theorem bcP0 (es : List (List AV)) : buildCells [.emp, .int .i64 0] [(0, 1)] [.slice es] = some [.slice es, .int .i64 0] := by simp [buildCells, placeAt, AV.ok, AV.cells]
theorem bcT2 (a b : List (List AV)) : buildCells [.emp, .emp, .int .i64 0] [(0, 1), (1, 1)] [.slice a, .slice b] = some [.slice a, .slice b, .int .i64 0] := by simp [buildCells, placeAt, AV.ok, AV.cells]
theorem bcH2 (a b c : AV) (d f g : List (List AV)) (n m : Int) : buildCells [.emp, .emp, .int .i64 0, .emp, .int .i64 0, .int .i64 0, .emp, .emp, .emp] [(0, 3), (3, 1), (4, 1), (5, 1), (6, 1), (8, 1)] [.agg [a, b, c], .slice d, .int .i64 n, .int .i64 m, .slice f, .slice g] = some [a, b, c, .slice d, i6 n, i6 m, .slice f, .emp, .slice g] := by
  simp [buildCells, placeAt, AV.ok, AV.cells]
theorem tub_c (k : Nat) (hk : k ≤ 2) : Pure Tryz.prog 74 [i6 k] (eH (tubH k)) := by
  intro H
  refine fn_of hmix fc74 (by simp) ?_
  rw [ienv1]
  simp only [go_sem, reduceIte, reduceCtorEq, Nat.reduceEqDiff, Nat.reduceBEq, Nat.reduceAdd, Nat.reduceMul, Nat.reduceLeDiff, ac74]
  refine v_alloc fun b2 hb2 => ?_
  simp only [go_sem, reduceIte, reduceCtorEq, Nat.reduceEqDiff, Nat.reduceBEq, Nat.reduceAdd, Nat.reduceMul, Nat.reduceLeDiff, bcS0, bcS, bs2b, bc2, bcW, bs3a, bsI1, bsI2, bcP0, bcP, bs2a, bcT2, Option.map_some]
  refine v_alloc fun b4 hb4 => ?_
  have n24 : b2 ≠ b4 := fun h => by subst h; simp at hb4
  have e1 := (Ext.refl H).new hb2 (.box [.emp, .emp, .int .i64 0, .emp, .int .i64 0, .int .i64 0, .emp, .emp, .emp])
  have z4 : H b4 = none := e1.isNone hb4
  simp only [go_sem, reduceIte, reduceCtorEq, Nat.reduceEqDiff, Nat.reduceBEq, Nat.reduceAdd, Nat.reduceMul, Nat.reduceLeDiff]
  rw [v_store]
  refine ⟨rfl, rfl, by simp [AV.cells, AV.isCell], _, updH_same _ _ _, by simp, ?_⟩
  have e2 : ∀ o1 o2, Ext H (updH (updH (updH H b2 (.box [.emp, .emp, .int .i64 0, .emp, .int .i64 0, .int .i64 0, .emp, .emp, .emp])) b4 o1) b4 o2) := fun o1 o2 => (e1.new hb4 o1).upd z4 o2
  simp only [go_sem, reduceIte, reduceCtorEq, Nat.reduceEqDiff, Nat.reduceBEq, Nat.reduceAdd, Nat.reduceMul, Nat.reduceLeDiff, placeAt, List.append_nil, List.nil_append, List.drop_nil, bsI1]
  refine pgo_call (between_c 0 1) ?_
  simp only [go_sem, reduceIte, reduceCtorEq, Nat.reduceEqDiff, Nat.reduceBEq, Nat.reduceAdd, Nat.reduceMul, Nat.reduceLeDiff, bcTo, Option.map_some]
  refine pgo_call (between_c 0 1) ?_
  simp only [go_sem, reduceIte, reduceCtorEq, Nat.reduceEqDiff, Nat.reduceBEq, Nat.reduceAdd, Nat.reduceMul, Nat.reduceLeDiff, bcTo, Option.map_some]
  refine pgo_call (between_c 2 2) ?_
  simp only [go_sem, reduceIte, reduceCtorEq, Nat.reduceEqDiff, Nat.reduceBEq, Nat.reduceAdd, Nat.reduceMul, Nat.reduceLeDiff, bcTo, Option.map_some, bs4a, show (0 : Int) ≤ (k : Int) by omega, show (k : Int) ≤ ((2 : Nat) : Int) by omega, bcH2]
  rw [v_store]
  refine ⟨rfl, rfl, by simp [AV.cells, AV.isCell], _, by rw [updH_ne _ _ n24, updH_ne _ _ n24]; exact updH_same _ _ _, by simp, ?_⟩
  rw [c_agg]
  simp only [go_sem, reduceIte, reduceCtorEq, Nat.reduceEqDiff, Nat.reduceBEq, Nat.reduceAdd, Nat.reduceMul, Nat.reduceLeDiff]
  refine fin_cell1 2 9 b2 45 _ (by simp [upd_at]) agg45 sz45 (by simp [upd_at]) (updH_same _ _ _) rfl ⟨eH (tubH k), H, settle_agg ((e2 _ _).upd hb2 _) rfl fun i x y hx hy w v hH hr => ?_, rfl, rfl⟩
  match i, hx, hy with
  | 0, hx, hy => cases hx; cases hy; exact hr.mono (Evolve.drop ((e2 _ _).upd hb2 _))
  | 1, hx, hy => cases hx; cases hy; exact hr.mono (Evolve.drop ((e2 _ _).upd hb2 _))
  | 2, hx, hy => cases hx; cases hy; exact hr.mono (Evolve.drop ((e2 _ _).upd hb2 _))
  | 3, hx, hy => cases hx; cases hy; exact hr.mono (Evolve.drop ((e2 _ _).upd hb2 _))
  | 4, hx, hy => cases hx; cases hy; exact hr.mono (Evolve.drop ((e2 _ _).upd hb2 _))
  | 5, hx, hy => cases hx; cases hy; exact hr.mono (Evolve.drop ((e2 _ _).upd hb2 _))
  | 6, hx, hy => cases hx; cases hy; exact hr.mono (Evolve.drop ((e2 _ _).upd hb2 _))
  | 7, hx, hy => cases hx; cases hy; exact (Rep.weaken_emp hr).mono (Evolve.drop ((e2 _ _).upd hb2 _))
  | 8, hx, hy =>
    cases hx; cases hy
    have : List.map eS (List.take k [⟨0, false⟩, ⟨1, true⟩]) = List.take k [[i6 0, .bool false], [i6 1, .bool true]] := by rw [List.map_take]; rfl
    rw [show (tubH k).signs = List.take k [⟨0, false⟩, ⟨1, true⟩] from rfl, this]
    exact hr.mono (Evolve.drop ((e2 _ _).upd hb2 _))
theorem tub_sm (k : Nat) : HSm (tubH k) := by
  have hm : ∀ p ∈ (tubH k).table.pieces, p.marks.length ≤ 1073741824 := by
    intro p hp
    simp only [tubH, tubT, List.mem_cons, List.not_mem_nil, or_false] at hp
    rcases hp with rfl | rfl | rfl | rfl <;> simp
  refine ⟨by simp [tubH, tubT], by simp [tubH, tubT], hm, by simp [tubH], by simp [tubH], by simp [tubH], ?_⟩
  simp [tubH]; omega
theorem awake_c : Pure Tryz.prog 20 [] (.bool true) := by
  intro H
  refine fn_of hmix fc20 (by simp) ?_
  rw [ienv0]
  have u0 := tub_c 0 (by omega)
  have u1 := tub_c 1 (by omega)
  have u2 := tub_c 2 (by omega)
  have s0 := tub_sm 0
  have s1 := tub_sm 1
  have s2 := tub_sm 2
  have k1 := playS_c (tubH 0) s0.tsm s0.sk (tubC 1 0) (by unfold Sm; simp [tubC]) (by unfold Sm; simp [tubC])
  rw [tub_play.1, tub_play.2] at k1
  have k2 := carry_c (tubH 0) s0.tsm s0.sk
  rw [tub_ask0, tub_carry] at k2
  have k3 := whoseS_c (tubH 0) s0.tsm s0.sk
  rw [tub_ask0, tub_whose] at k3
  have k4 := boil_c (tubH 0) s0.tsm s0.sk 1
  rw [tub_hour, tub_ask0, tub_boil] at k4
  have k5 := order_c (tubH 0) s0.tsm s0.sk 1
  rw [tub_order.1, tub_order.2] at k5
  have k6 := boil_c (tubH 1) s1.tsm s1.sk 1
  rw [show hourOK (tubH 1) 1 = true from tub_hour, tub_ask1, tub_boil1] at k6
  have k7 := first_c (tubH 2) s2.tsm s2.sk
  rw [firstR, if_pos tub_check2, tub_first] at k7
  have k8 := leave_c (tubH 2) s2.tsm s2.sk
  rw [tub_check2, tub_leave] at k8
  simp only [go_sem, reduceIte, reduceCtorEq, Nat.reduceEqDiff, Nat.reduceBEq, Nat.reduceAdd, Nat.reduceMul, Nat.reduceLeDiff, ac20]
  refine u0.go ?_
  simp only [go_sem, reduceIte, reduceCtorEq, Nat.reduceEqDiff, Nat.reduceBEq, Nat.reduceAdd, Nat.reduceMul, Nat.reduceLeDiff]
  refine (passed_c 1 0).go ?_
  simp only [go_sem, reduceIte, reduceCtorEq, Nat.reduceEqDiff, Nat.reduceBEq, Nat.reduceAdd, Nat.reduceMul, Nat.reduceLeDiff]
  refine k1.go ?_
  simp only [go_sem, reduceIte, reduceCtorEq, Nat.reduceEqDiff, Nat.reduceBEq, Nat.reduceAdd, Nat.reduceMul, Nat.reduceLeDiff, listR, List.getElem?_cons_zero, List.getElem?_cons_succ]
  refine u0.go ?_
  simp only [go_sem, reduceIte, reduceCtorEq, Nat.reduceEqDiff, Nat.reduceBEq, Nat.reduceAdd, Nat.reduceMul, Nat.reduceLeDiff]
  refine k2.go ?_
  simp only [go_sem, reduceIte, reduceCtorEq, Nat.reduceEqDiff, Nat.reduceBEq, Nat.reduceAdd, Nat.reduceMul, Nat.reduceLeDiff, listR, List.getElem?_cons_zero, List.getElem?_cons_succ]
  refine u0.go ?_
  simp only [go_sem, reduceIte, reduceCtorEq, Nat.reduceEqDiff, Nat.reduceBEq, Nat.reduceAdd, Nat.reduceMul, Nat.reduceLeDiff]
  refine k3.go ?_
  simp only [go_sem, reduceIte, reduceCtorEq, Nat.reduceEqDiff, Nat.reduceBEq, Nat.reduceAdd, Nat.reduceMul, Nat.reduceLeDiff, listR, List.getElem?_cons_zero, List.getElem?_cons_succ]
  refine u0.go ?_
  simp only [go_sem, reduceIte, reduceCtorEq, Nat.reduceEqDiff, Nat.reduceBEq, Nat.reduceAdd, Nat.reduceMul, Nat.reduceLeDiff]
  refine k4.go ?_
  simp only [go_sem, reduceIte, reduceCtorEq, Nat.reduceEqDiff, Nat.reduceBEq, Nat.reduceAdd, Nat.reduceMul, Nat.reduceLeDiff, listR, List.getElem?_cons_zero, List.getElem?_cons_succ]
  refine u0.go ?_
  simp only [go_sem, reduceIte, reduceCtorEq, Nat.reduceEqDiff, Nat.reduceBEq, Nat.reduceAdd, Nat.reduceMul, Nat.reduceLeDiff]
  refine k5.go ?_
  simp only [go_sem, reduceIte, reduceCtorEq, Nat.reduceEqDiff, Nat.reduceBEq, Nat.reduceAdd, Nat.reduceMul, Nat.reduceLeDiff, listR, List.getElem?_cons_zero, List.getElem?_cons_succ]
  refine u1.go ?_
  simp only [go_sem, reduceIte, reduceCtorEq, Nat.reduceEqDiff, Nat.reduceBEq, Nat.reduceAdd, Nat.reduceMul, Nat.reduceLeDiff]
  refine k6.go ?_
  simp only [go_sem, reduceIte, reduceCtorEq, Nat.reduceEqDiff, Nat.reduceBEq, Nat.reduceAdd, Nat.reduceMul, Nat.reduceLeDiff, listR, List.getElem?_cons_zero, List.getElem?_cons_succ]
  refine u2.go ?_
  simp only [go_sem, reduceIte, reduceCtorEq, Nat.reduceEqDiff, Nat.reduceBEq, Nat.reduceAdd, Nat.reduceMul, Nat.reduceLeDiff]
  refine k7.go ?_
  simp only [go_sem, reduceIte, reduceCtorEq, Nat.reduceEqDiff, Nat.reduceBEq, Nat.reduceAdd, Nat.reduceMul, Nat.reduceLeDiff, listR, List.getElem?_cons_zero, List.getElem?_cons_succ]
  refine u2.go ?_
  simp only [go_sem, reduceIte, reduceCtorEq, Nat.reduceEqDiff, Nat.reduceBEq, Nat.reduceAdd, Nat.reduceMul, Nat.reduceLeDiff]
  refine k8.go ?_
  simp only [go_sem, reduceIte, reduceCtorEq, Nat.reduceEqDiff, Nat.reduceBEq, Nat.reduceAdd, Nat.reduceMul, Nat.reduceLeDiff, listR, List.getElem?_cons_zero, List.getElem?_cons_succ, bsI2]
  refine (same_c [3, 4] [3, 4] (by unfold Sm; simp)).go ?_
  simp only [go_sem, reduceIte, reduceCtorEq, Nat.reduceEqDiff, Nat.reduceBEq, Nat.reduceAdd, Nat.reduceMul, Nat.reduceLeDiff, bsI5]
  refine (same_c [3, 3, 2, 1, 1] [3, 3, 2, 1, 1] (by unfold Sm; simp)).go ?_
  simp only [go_sem, reduceIte, reduceCtorEq, Nat.reduceEqDiff, Nat.reduceBEq, Nat.reduceAdd, Nat.reduceMul, Nat.reduceLeDiff, bsI2]
  refine (same_c [0, 1] [0, 1] (by unfold Sm; simp)).go ?_
  simp only [go_sem, reduceIte, reduceCtorEq, Nat.reduceEqDiff, Nat.reduceBEq, Nat.reduceAdd, Nat.reduceMul, Nat.reduceLeDiff, bsI3]
  refine (same_c [0, 3, 4] [0, 3, 4] (by unfold Sm; simp)).go ?_
  simp only [go_sem, reduceIte, reduceCtorEq, Nat.reduceEqDiff, Nat.reduceBEq, Nat.reduceAdd, Nat.reduceMul, Nat.reduceLeDiff, bsI2]
  refine (same_c [0, 0] [0, 0] (by unfold Sm; simp)).go ?_
  simp only [go_sem, reduceIte, reduceCtorEq, Nat.reduceEqDiff, Nat.reduceBEq, Nat.reduceAdd, Nat.reduceMul, Nat.reduceLeDiff, bsI1, show ((0 : Nat) : Int) = 0 from rfl, show ((1 : Nat) : Int) = 1 from rfl]
  refine (same_c [0] [0] (by unfold Sm; simp)).go ?_
  simp only [go_sem, reduceIte, reduceCtorEq, Nat.reduceEqDiff, Nat.reduceBEq, Nat.reduceAdd, Nat.reduceMul, Nat.reduceLeDiff]
  refine fin_ret' 0 (by simp [upd_at]) ?_
  simp [upd_at]
end Go.Lift

set_option linter.unusedSimpArgs false
set_option linter.unusedVariables false
namespace Go.Lift
open Go Go.Proofs
inductive Sh where
  | int (k : IntKind)
  | bool
  | slice (ss : List Sh)
mutual
inductive Fits : Sh → AV → Prop
  | int (k : IntKind) (n : Int) (h : (Lit.int k n).wf = true) : Fits (.int k) (.int k n)
  | bool (b : Bool) : Fits .bool (.bool b)
  | slice (ss : List Sh) (es : List (List AV)) (h : ∀ e ∈ es, FitsL ss e) : Fits (.slice ss) (.slice es)
inductive FitsL : List Sh → List AV → Prop
  | nil : FitsL [] []
  | cons (s : Sh) (ss : List Sh) (x : AV) (xs : List AV) (h : Fits s x) (t : FitsL ss xs) : FitsL (s :: ss) (x :: xs)
end
theorem FitsL.len : ∀ {ss : List Sh} {xs : List AV}, FitsL ss xs → xs.length = ss.length
  | [], [], _ => rfl
  | _ :: _, _ :: _, .cons _ _ _ _ _ t => by simp [FitsL.len t]
theorem FitsL.app : ∀ {a b : List Sh} {xs ys : List AV}, FitsL a xs → FitsL b ys → FitsL (a ++ b) (xs ++ ys)
  | [], _, [], _, _, h => h
  | _ :: _, _, _ :: _, _, .cons s ss x xs h t, k => .cons s _ x _ h (FitsL.app t k)
def shapesFs (P : Program) (sh : TypeId → Option (List Sh)) : Nat → List Field → Option (List Sh)
  | _, [] => some []
  | off, f :: fs => match sh f.type, shapesFs P sh (off + P.cellsOf f.type) fs with
    | some a, some b => if f.offset = off ∧ a.length = P.cellsOf f.type then some (a ++ b) else none
    | _, _ => none
def shapes (P : Program) : Nat → TypeId → Option (List Sh)
  | 0, _ => none
  | n + 1, t => match P.underlying t with
    | some .bool => some [.bool]
    | some (.int k) => some [.int k]
    | some (.slice e) => (shapes P n e).bind fun ss => if P.cellsOf e = ss.length ∧ 0 < ss.length then some [.slice ss] else none
    | some (.struct fs) => (shapesFs P (shapes P n) 0 fs.toList).bind fun ss => if P.cellsOf t = ss.length then some ss else none
    | _ => none
abbrev H0 : AHeap := fun _ => none
def Dec (w : World) (ss : List Sh) (cs : List Value) : Prop := ∃ xs : List AV, FitsL ss xs ∧ xs.length = cs.length ∧ ∀ (i : Nat) (v : Value) (x : AV), cs[i]? = some v → xs[i]? = some x → Rep H0 w v x
theorem Dec.one {w : World} {s : Sh} {v : Value} {x : AV} (hf : Fits s x) (hr : Rep H0 w v x) : Dec w [s] [v] := by
  refine ⟨[x], .cons _ _ _ _ hf .nil, rfl, fun i u y hu hy => ?_⟩
  cases i with
  | zero => cases hu; cases hy; exact hr
  | succ i => simp at hu
theorem Dec.app {w : World} {a b : List Sh} {cs ds : List Value} (h : Dec w a cs) (k : Dec w b ds) : Dec w (a ++ b) (cs ++ ds) := by
  obtain ⟨xs, h1, h2, h3⟩ := h
  obtain ⟨ys, k1, k2, k3⟩ := k
  refine ⟨xs ++ ys, h1.app k1, by simp [h2, k2], fun i v x hv hx => ?_⟩
  by_cases hi : i < cs.length
  · rw [List.getElem?_append_left hi] at hv
    rw [List.getElem?_append_left (by omega)] at hx
    exact h3 i v x hv hx
  · rw [List.getElem?_append_right (by omega)] at hv
    rw [List.getElem?_append_right (by omega), h2] at hx
    exact k3 _ v x hv hx
theorem addOff {a : Addr} (ha : a.spot = none) (n : Nat) : a.add n = ⟨a.block, a.off + n, none⟩ := by
  obtain ⟨b, o, s⟩ := a
  simp only at ha
  subst ha
  unfold Addr.add
  split
  · rename_i h; subst h; rfl
  · rfl
theorem decode {H : Type} {enc : TypeId × Value → H} {P : Program} {w : World} {base : Nat} {held : Bool} : ∀ (n : Nat) (t : TypeId) (ss : List Sh) (fuel : Nat) (cs : List Value) (x : DataW H × List MemPlace), shapes P n t = some ss →
    DataW.trod enc P w base (fun _ => true) held fuel t cs = some x → Dec w ss cs := by
  intro n
  induction n with
  | zero => intro t ss fuel cs x h; cases h
  | succ n ih =>
    intro t ss fuel cs x hs h
    simp only [shapes] at hs
    split at hs
    · rename_i ht
      cases hs
      obtain ⟨b, rfl, _⟩ := DataW.trod_bool ht h
      exact Dec.one (.bool b) (.bool b)
    · rename_i k ht
      cases hs
      obtain ⟨m, rfl, _, hw⟩ := DataW.trod_int ht h
      exact Dec.one (.int k m hw) (.int k m)
    · rename_i e ht
      rw [Option.bind_eq_some_iff] at hs
      obtain ⟨se, hse, hs⟩ := hs
      split at hs
      · rename_i hc
        cases hs
        rcases Deep.open_slice ht h with ⟨rfl, _⟩ | ⟨a, len, cap, m, n', D, Pl, rfl, _, hlc, _, hm, _, hx⟩
        · exact Dec.one (.slice se [] (by simp)) (.nil none 0)
        rw [if_pos rfl] at hm
        have hm' := hm.symm
        subst hm'
        rcases Nat.eq_zero_or_pos len with rfl | hpos
        · exact Dec.one (.slice se [] (by simp)) (.nil (some a) _)
        obtain ⟨X, hX⟩ := Deep.choose_lt (α := List Value × List AV) (n := len) (p := fun i y => w.cells? base (a.add (i * P.cellsOf e)) (P.cellsOf e) = some y.1 ∧ FitsL se y.2 ∧ y.2.length = y.1.length ∧ ∀ (j : Nat) (v : Value) (x : AV), y.1[j]? = some v → y.2[j]? = some x → Rep H0 w v x) (fun i hi => by
          obtain ⟨cs', h1, h2⟩ := hx i (by omega)
          obtain ⟨xs, f1, f2, f3⟩ := ih e se n' cs' _ hse h2
          exact ⟨(cs', xs), h1, f1, f2, f3⟩)
        have hsz : ∀ i, i < len → (X i).2.length = P.cellsOf e := fun i hi => by rw [(hX i hi).2.1.len, hc.1]
        have hspot : a.spot = none := by
          have h0 := (World.cells?_some (hX 0 hpos).1)
          have h1 := h0.2.2 0 (by omega)
          have h2 : (X 0).1[0]? = some ((X 0).1[0]'(by rw [h0.2.1]; omega)) := by simp
          rw [h2] at h1
          have := World.cell?_spot h1
          rw [Nat.zero_mul] at this
          simpa [Addr.add] using this
        have hrep : Rep H0 w (.slice (some ⟨a.block, a.off, none⟩) ((List.range len).map fun i => (X i).2).length cap) (.slice ((List.range len).map fun i => (X i).2)) := by
          refine Rep.slice a.block a.off cap (P.cellsOf e) ((List.range len).map fun i => (X i).2) (fun i j => (X i).1.getD j undef) (by simp; omega) ?_ ?_ ?_
          · intro el hel
            rw [List.mem_map] at hel
            obtain ⟨i, hi, rfl⟩ := hel
            exact hsz i (List.mem_range.1 hi)
          · intro i j hi hj
            have hi' : i < len := by simpa using hi
            have h0 := World.cells?_some (hX i hi').1
            have h1 := h0.2.2 j hj
            rw [addOff hspot, addOff rfl] at h1
            refine ⟨.inl rfl, ?_⟩
            simp only at h1
            rw [h1, List.getD_eq_getElem?_getD, List.getElem?_eq_getElem (by rw [h0.2.1]; exact hj)]; rfl
          · intro i j el y hel hy
            have hi' : i < len := by
              rcases Nat.lt_or_ge i len with h | h
              · exact h
              · rw [List.getElem?_eq_none (by simp; omega)] at hel; cases hel
            rw [List.getElem?_map, List.getElem?_range hi'] at hel
            simp only [Option.map_some, Option.some.injEq] at hel
            subst hel
            have hj : j < (X i).2.length := by
              rcases Nat.lt_or_ge j (X i).2.length with h | h
              · exact h
              · rw [List.getElem?_eq_none h] at hy; cases hy
            have hj' : j < (X i).1.length := by rw [← (hX i hi').2.2.1]; exact hj
            exact (hX i hi').2.2.2 j _ y (by rw [List.getD_eq_getElem?_getD, List.getElem?_eq_getElem hj']; rfl) hy
        have ha : a = ⟨a.block, a.off, none⟩ := by cases a; simp only at hspot; rw [hspot]
        rw [← ha] at hrep
        have hl : ((List.range len).map fun i => (X i).2).length = len := by simp
        rw [hl] at hrep
        exact Dec.one (.slice se _ (fun el hel => by rw [List.mem_map] at hel; obtain ⟨i, hi, rfl⟩ := hel; exact (hX i (List.mem_range.1 hi)).2.1)) hrep
      · cases hs
    · rename_i fs ht
      rw [Option.bind_eq_some_iff] at hs
      obtain ⟨sf, hsf, hs⟩ := hs
      split at hs
      · rename_i hc
        cases hs
        obtain ⟨xs, n', rfl, rfl, hl, hlen, hf⟩ := DataW.trod_struct ht h
        have key : ∀ (l : List Field) (off : Nat) (sg : List Sh), (∀ f ∈ l, ∃ y, DataW.trod enc P w base (fun _ => true) held n' f.type ((cs.drop f.offset).take (P.cellsOf f.type)) = some y) → shapesFs P (shapes P n) off l = some sg → Dec w sg ((cs.drop off).take sg.length) := by
          intro l
          induction l with
          | nil => intro off sg _ hg; cases hg; exact ⟨[], .nil, by simp, fun i v x hv => by simp at hv⟩
          | cons f l ihl =>
            intro off sg hall hg
            simp only [shapesFs] at hg
            split at hg
            · rename_i sa sb ha hb
              split at hg
              · rename_i hcond
                cases hg
                obtain ⟨y, hy⟩ := hall f List.mem_cons_self
                have d1 := ih f.type sa n' _ y ha hy
                have d2 := ihl _ sb (fun g hg => hall g (List.mem_cons_of_mem _ hg)) hb
                rw [hcond.1, ← hcond.2] at d1
                rw [← hcond.2] at d2
                have := d1.app d2
                have e : (cs.drop off).take (sa ++ sb).length = (cs.drop off).take sa.length ++ (cs.drop (off + sa.length)).take sb.length := by
                  rw [List.length_append, List.take_add, List.drop_drop]
                rw [e]; exact this
              · cases hg
            · cases hg
        have hall : ∀ f ∈ fs.toList, ∃ y, DataW.trod enc P w base (fun _ => true) held n' f.type ((cs.drop f.offset).take (P.cellsOf f.type)) = some y := by
          intro f hfm
          obtain ⟨i, hi, rfl⟩ := List.getElem_of_mem hfm
          have hi' : i < fs.size := by simpa using hi
          have := hf i fs[i] (by simp [hi'])
          rw [List.getElem?_eq_getElem (by omega)] at this
          exact ⟨_, by simpa using this⟩
        have d := key fs.toList 0 ss hall hsf
        rw [List.drop_zero, List.take_of_length_le (by rw [hl, hc]; exact Nat.le_refl _)] at d
        exact d
      · cases hs
    · cases hs
end Go.Lift

set_option linter.unusedSimpArgs false
set_option linter.unusedVariables false
namespace Go.Lift
open Go Go.Proofs Go.Proofs.YthnfcdkiaihfcaaGreat
open Go.ChangeShapes Go.WideShapes Go.ChangeAt Go.RowKit
def isSt (P : Program) (t : TypeId) : Bool := match P.underlying t with
  | some (.struct _) => true
  | _ => false
def ArgOf (P : Program) (t : TypeId) (x : AV) : Prop := ∃ ss xs, shapes P 9 t = some ss ∧ FitsL ss xs ∧ ((isSt P t = true ∧ x = .agg xs) ∨ (isSt P t = false ∧ xs = [x]))
inductive ArgsOf (P : Program) : List TypeId → List AV → Prop
  | nil : ArgsOf P [] []
  | cons (t : TypeId) (ts : List TypeId) (x : AV) (xs : List AV) (h : ArgOf P t x) (r : ArgsOf P ts xs) : ArgsOf P (t :: ts) (x :: xs)
section
variable {H : Type} {enc : TypeId × Value → H} {P : Program} {w : World}
theorem arg_of {t : TypeId} {v : Value} {d : DataW H} {p : List MemPlace} {base : Nat} (hv : Value.okWide P w .any base t v) (h : DataW.Trod enc P w 0 (fun _ => true) true t v d p) (hs : (shapes P 9 t).isSome = true) : ∃ x, ArgOf P t x ∧ Rep H0 w v x := by
  obtain ⟨fuel, h⟩ := h
  obtain ⟨ss, hss⟩ := Option.isSome_iff_exists.1 hs
  obtain ⟨xs, h1, h2, h3⟩ := decode 9 t ss fuel _ _ hss h
  cases hst : isSt P t with
  | true =>
    have hst' := hst
    unfold isSt at hst'
    split at hst'
    · rename_i fs ht
      obtain ⟨cs, rfl, _⟩ := okWide_struct ht hv
      refine ⟨.agg xs, ⟨ss, xs, hss, h1, .inl ⟨hst, rfl⟩⟩, .agg cs xs (by simpa [Value.cells] using h2.symm) fun i x hx => ?_⟩
      have hi : i < cs.size := by
        rcases Nat.lt_or_ge i xs.length with hh | hh
        · rw [h2] at hh; simpa [Value.cells] using hh
        · rw [List.getElem?_eq_none hh] at hx; cases hx
      exact h3 i _ x (by simp [Value.cells, hi]) hx
    · cases hst'
  | false =>
    have one : v.cells.toList = [v] := by
      have hst' := hst
      unfold isSt at hst'
      simp only [shapes] at hss
      split at hss
      · rename_i ht; obtain ⟨b, rfl⟩ := okWide_bool ht hv; rfl
      · rename_i k ht; obtain ⟨n, rfl⟩ := okWide_int ht hv; rfl
      · rename_i e ht; obtain ⟨a, l, c, rfl⟩ := okWide_slice ht hv; rfl
      · rename_i fs ht; rw [ht] at hst'; cases hst'
      · cases hss
    rw [one] at h2 h3
    match xs, h2 with
    | [x], _ => exact ⟨x, ⟨ss, [x], hss, h1, .inr ⟨hst, rfl⟩⟩, h3 0 v x rfl rfl⟩
theorem args_of : ∀ {ts : List TypeId} {vs : List Value} {ds : List (DataW H)} {p : List MemPlace} {base : Nat}, DataW.TrodAll enc P w 0 (fun _ => true) true ts vs ds p →
    (∀ (j : Nat) t v, ts[j]? = some t → vs[j]? = some v → Value.okWide P w .any base t v) → (∀ t ∈ ts, (shapes P 9 t).isSome = true) →
    ∃ xs, ArgsOf P ts xs ∧ vs.length = xs.length ∧ ds.length = ts.length ∧ ∀ (i : Nat) v x, vs[i]? = some v → xs[i]? = some x → Rep H0 w v x
  | [], _, _, _, _, h, _, _ => by
    obtain ⟨rfl, rfl, rfl⟩ := trodAll_nil h
    exact ⟨[], .nil, rfl, rfl, fun i v x hv => by simp at hv⟩
  | t :: ts, _, _, _, _, h, hval, hs => by
    obtain ⟨v, vs1, d, ds1, a, b, rfl, rfl, rfl, h1, h2⟩ := trodAll_cons h
    obtain ⟨x, hx, hr⟩ := arg_of (hval 0 t v rfl rfl) h1 (hs t List.mem_cons_self)
    obtain ⟨xs, k1, k2, k3, k4⟩ := args_of h2 (fun j u y hu hy => hval (j + 1) u y (by simpa using hu) (by simpa using hy)) (fun u hu => hs u (List.mem_cons_of_mem _ hu))
    refine ⟨x :: xs, .cons _ _ _ _ hx k1, by simp [k2], by simp [k3], fun i y z hy hz => ?_⟩
    cases i with
    | zero => cases hy; cases hz; exact hr
    | succ i => exact k4 i y z (by simpa using hy) (by simpa using hz)
theorem trodAll_below (hl : laidOutB P = true) {W W' : World} (hb : Below W.heap.size W W') : ∀ {ts : List TypeId} {vs : List Value} {ds : List (DataW H)} {p : List MemPlace}, (∀ t ∈ ts, P.readableRec t = true ∧ t < P.types.size) →
    DataW.TrodAll enc P W 0 (fun _ => true) true ts vs ds p → (∀ x ∈ p, x.block < W.heap.size) → ∀ sp : Nat → Bool, (∀ x ∈ p, sp x.block = true) → DataW.TrodAll enc P W' 0 sp true ts vs ds p
  | [], _, _, _, _, h, _, sp, _ => by
    obtain ⟨rfl, rfl, rfl⟩ := trodAll_nil h
    rfl
  | t :: ts, _, _, _, ht, h, hlt, sp, hsp => by
    obtain ⟨v, vs1, d, ds1, a, b, rfl, rfl, rfl, h1, h2⟩ := trodAll_cons h
    refine ⟨a, b, ?_, trodAll_below hl hb (fun u hu => ht u (List.mem_cons_of_mem _ hu)) h2 (fun x hx => hlt x (by simp [hx])) sp (fun x hx => hsp x (by simp [hx])), rfl⟩
    exact WideElems.Trod_stays hl (ht t List.mem_cons_self).1 (ht t List.mem_cons_self).2 h1 (fun x hx => hb.same (hlt x (by simp [hx]))) (fun x hx => hsp x (by simp [hx]))
theorem post_of_below {f : Func} {s : ChangeSpec} {W W' : World} {args : Array Value} {ds gs : List (DataW H)} {before : List MemPlace} {tb : TypeId}
    (hl : laidOutB P = true) (hp : ∀ t ∈ f.params.toList, P.readableRec t = true ∧ t < P.types.size) (hv : s.vars = []) (hr : f.resultTypes = #[tb]) (htb : P.underlying tb = some .bool)
    (hs : (s.fn H ds).results = [.lit (.bool true)] ∧ (s.fn H ds).args = ds ∧ (s.fn H ds).vars = [])
    (hW : DataW.Whole enc P f.params.toList s.vars false W args.toList ds gs before) (hb : Below W.heap.size W W') :
    s.post enc P f false true false false W args (.bool true) W' := by
  have hWW := hW
  have hlt : ∀ x ∈ before, x.block < W.heap.size := fun x hx => by simpa using hW.lt x hx
  obtain ⟨p, q, hA, hV, rfl, hfz, _⟩ := hW
  rw [hv] at hV
  obtain ⟨rfl, rfl⟩ := trodVars_none hV
  rw [List.append_nil] at hfz hlt hWW
  have args' := trodAll_below hl hb hp hA hlt
  have e1 : (Value.bool true).resultList f.resultTypes.size = [.bool true] := by rw [hr]; rfl
  have res : ∀ b sp hd, DataW.TrodAll enc P W' b sp hd f.resultTypes.toList ((Value.bool true).resultList f.resultTypes.size) [.lit (.bool true)] [] := fun b sp hd => by
    rw [e1, hr]
    exact trodAll_mk1 (shut_bool htb true)
  refine ⟨ds, [], p, [], p, [], hWW, by rw [List.append_nil, hs.1]; exact res _ _ _, ?_, ?_, hb.frame _, fun h => by cases h⟩
  · rw [List.append_nil, hs.2.1]
    exact args' _ (fun x hx => by simpa using hlt x hx)
  · rw [List.append_nil, hs.2.2, hv]; rfl
end
theorem below_of {W W' : World} (h : Evolve H0 W H0 W') : Below W.heap.size W W' := ⟨h.os, h.tape, h.output, h.size, fun k hk => (h.block k hk rfl).2⟩
theorem calls_pure {P : Program} {k : FuncId} {xs : List AV} {W : World} {args : Array Value} (call : Pure P k xs (.bool true)) (h2 : args.toList.length = xs.length) (h4 : ∀ (i : Nat) v x, args.toList[i]? = some v → xs[i]? = some x → Rep H0 W v x) :
    Calls P k args W fun e W' => e = .returned (.bool true) ∧ Below W.heap.size W W' := by
  have hc := (call H0).2 W args (fun b o hb => by cases hb) ⟨by simpa using h2, fun i x hx => by
    have hi : i < args.size := by
      rcases Nat.lt_or_ge i xs.length with hh | hh
      · have : args.toList.length = args.size := by simp
        omega
      · rw [List.getElem?_eq_none hh] at hx; cases hx
    have := h4 i (args[i]) x (by simp [hi]) hx
    simpa [Array.getD, hi] using this⟩
  refine (hc.calls fun k => show (WF none).room k from room_wide k).mono fun e W' he => ?_
  obtain ⟨v, rfl, r, H', ⟨rfl, rfl⟩, _, hrep, hev⟩ := he
  cases hrep
  exact ⟨rfl, below_of hev⟩
theorem own_knob : ownKnob Tryz.prog.godebug = none := by kernel_rfl
theorem laid_out : laidOutB Tryz.prog = true := by kernel_rfl
theorem und4 : Tryz.prog.underlying 4 = some .bool := by kernel_rfl
def parsOK (P : Program) (fn : Func) : Bool := fn.params.toList.all fun t => P.readableRec t && decide (t < P.types.size) && (shapes P 9 t).isSome
set_option maxRecDepth 100000 in
theorem law_step {k : FuncId} {fn : Func} {s : ChangeSpec} {dom : List PathCond} {os : Os} (started : os.Started) {H : Type} {enc : TypeId × Value → H}
    (hf : Tryz.checked.prog.funcs[k]? = some fn) (hno : Tryz.checked.prog.inits.idxOf? k = none) (hr : fn.resultTypes = #[4]) (hp : parsOK Tryz.prog fn = true) (hv : s.vars = [])
    (hs : ∀ ds : List (DataW H), ds.length = fn.params.size → (s.fn H ds).results = [.lit (.bool true)] ∧ (s.fn H ds).args = ds ∧ (s.fn H ds).vars = [])
    (wit : ∃ (w : World) (tape : Tape) (i : Input), w.os = os ∧ (w.forCall tape i).Shaped Tryz.checked.prog ∧ i.vars = [] ∧ Input.okWide Tryz.checked.prog (w.forCall tape i) .any w.heap.size k i ∧
      s.pre6 enc Tryz.checked.prog fn dom false (w.forCall tape i).memory i.args ∧ ({} : Assume).holds Tryz.checked.prog (lone (Frame.enter Tryz.checked.prog k i.args .normal) [] (w.forCall tape i)))
    (call : ∀ xs, ArgsOf Tryz.prog fn.params.toList xs → Pure Tryz.prog k xs (.bool true)) :
    ReturnsInHanded {} Tryz.checked os k .any (s.pre6 enc Tryz.checked.prog fn dom false) (s.post enc Tryz.checked.prog fn false true false false) := by
  refine returnsInHanded_of_change (C := Tryz.checked) own_knob started hno hf wit ?_
  intro W base args ds gs before hval hW _ _
  simp only [parsOK, List.all_eq_true, Bool.and_eq_true, decide_eq_true_eq] at hp
  have hWW := hW
  obtain ⟨p, q, hA, hV, _⟩ := hW
  have hV' := hV
  rw [hv] at hV'
  obtain ⟨rfl, rfl⟩ := trodVars_none hV'
  have hA' : DataW.TrodAll enc Tryz.prog W 0 (fun _ => true) true fn.params.toList args.toList ds p := hA
  have hval' : ∀ (j : Nat) t v, fn.params.toList[j]? = some t → args.toList[j]? = some v → Value.okWide Tryz.prog W .any base t v := fun j t v ht hvv => hval j t v (by rw [← Array.getElem?_toList]; exact ht) (by rw [← Array.getElem?_toList]; exact hvv)
  obtain ⟨xs, h1, h2, h3, h4⟩ := args_of (P := Tryz.prog) hA' hval' (fun t ht => (hp t ht).2)
  refine (calls_pure (call xs h1) h2 h4).mono fun e W' ⟨he, hb⟩ => ?_
  subst he
  exact ⟨_, rfl, post_of_below laid_out (fun t ht => (hp t ht).1) hv hr und4 (hs ds (by rw [h3]; simp)) hWW hb⟩
end Go.Lift

