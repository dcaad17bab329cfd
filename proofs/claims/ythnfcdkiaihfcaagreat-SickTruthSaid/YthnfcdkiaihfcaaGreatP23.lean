/- Part 23 of the proof: the tools and contracts. Conditions: none. -/
import Derived.Test.YthnfcdkiaihfcaaGreatP22
set_option linter.unusedSimpArgs false
set_option linter.unusedVariables false
namespace Go.Lift
open Go Go.Proofs
def longestOf (h : House) (n : Int) : Int := if IntKind.i64.wrap (IntKind.i64.wrap (h.last - n) + 1) < 3 then IntKind.i64.wrap (IntKind.i64.wrap (h.last - n) + 1) else 3
theorem longest_c (h : House) (n : Int) : Pure Tryz.prog 109 [eH h, i6 n] (i6 (longestOf h n)) := by
  intro H
  refine fn_of hmix fc109 (by simp) ?_
  rw [ienv2]
  simp only [go_sem, reduceIte, reduceCtorEq, Nat.reduceEqDiff, Nat.reduceBEq, Nat.reduceAdd, Nat.reduceMul, Nat.reduceLeDiff, ac109, eH]
  refine v_box _ rfl fun b1 hb1 => ?_
  simp only [go_sem, reduceIte, reduceCtorEq, Nat.reduceEqDiff, Nat.reduceBEq, Nat.reduceAdd, Nat.reduceMul, Nat.reduceLeDiff]
  refine (minimumS_c 3 _).go ?_
  simp only [go_sem, reduceIte, reduceCtorEq, Nat.reduceEqDiff, Nat.reduceBEq, Nat.reduceAdd, Nat.reduceMul, Nat.reduceLeDiff]
  refine fin_ret 4 (by simp [upd_at]) ⟨_, H, Settle.refl ((Ext.refl H).new hb1 _), ?_⟩
  simp [upd_at, longestOf]
end Go.Lift

set_option linter.unusedSimpArgs false
set_option linter.unusedVariables false
namespace Go.Lift
open Go Go.Proofs
section
variable {P : Program} {H : AHeap} {env : Env} {K : Env → AHeap → Prop}
def ContL (P : Program) (us : List AOp) (t : ATr) (K : Env → AHeap → Prop) (env : Env) (d : Nat) (r : AV) (H : AHeap) : Prop := stab us (upd env d r) H ∧ atl P t K (upd env d r) H
def ContL0 (P : Program) (us : List AOp) (t : ATr) (K : Env → AHeap → Prop) (env : Env) (r : AV) (H : AHeap) : Prop := stab us env H ∧ atl P t K env H
theorem k_l1 (us : List AOp) (t : ATr) (d : Nat) (r : AV) : ContL P us t K env d r H = (stab us (upd env d r) H ∧ atl P t K (upd env d r) H) := _root_.id rfl
theorem k_l0 (us : List AOp) (t : ATr) (r : AV) : ContL0 P us t K env r H = (stab us env H ∧ atl P t K env H) := _root_.id rfl
theorem l_one1 (d : Nat) (tag : Tag) (xs : List Opd) (us : List AOp) (t : ATr) : atl P (.one ⟨some d, tag, xs, none⟩ us t) K env H = aopV P tag (xs.map (ev env)) H (ContL P us t K env d) := _root_.id rfl
theorem l_one0 (tag : Tag) (xs : List Opd) (us : List AOp) (t : ATr) : atl P (.one ⟨none, tag, xs, none⟩ us t) K env H = aopV P tag (xs.map (ev env)) H (ContL0 P us t K env) := _root_.id rfl
theorem stab_nil : stab [] env H = True := _root_.id rfl
theorem stab_cons (d : Nat) (tag : Tag) (xs : List Opd) (us : List AOp) : stab (⟨some d, tag, xs, none⟩ :: us) env H = (detV tag (xs.map (ev env)) H = some (env d) ∧ stab us env H) := by
  simp [stab, wantedA]
def stabG (v : AV) (b : Bool) (p : Prop) : Prop := wA v b = some true → p
theorem stab_if (d : Nat) (tag : Tag) (xs : List Opd) (t : Nat) (b : Bool) (us : List AOp) : stab (⟨some d, tag, xs, some (t, b)⟩ :: us) env H = (stabG (env t) b (detV tag (xs.map (ev env)) H = some (env d)) ∧ stab us env H) := by
  have : wantedA env (some (t, b)) = wA (env t) b := rfl
  simp [stab, stabG, this]
theorem st_tt (p : Prop) : stabG (.bool true) true p = p := by simp [stabG, wA]
theorem st_ff (p : Prop) : stabG (.bool false) false p = p := by simp [stabG, wA]
theorem st_tf (p : Prop) : stabG (.bool true) false p = True := by simp [stabG, wA]
theorem st_ft (p : Prop) : stabG (.bool false) true p = True := by simp [stabG, wA]
theorem st_u (b : Bool) (p : Prop) : stabG (.tup []) b p = True := by simp [stabG, wA]
theorem d_lookup (z : AV) (es : List ((Int × Int) × AV)) (x y : Int) : detV (.lookup z) [.amap es, .agg [.int .i64 x, .int .i64 y]] H = some ((findKey' (x, y) es).getD z) := _root_.id rfl
end
attribute [go_sem ↓] l_one0 l_one1 k_l0 k_l1
attribute [go_sem] stab_nil stab_cons stab_if st_tt st_ff st_tf st_ft st_u
theorem fin_cell1 {P : Program} {N : Nat} {env : Env} {H : AHeap} (t n b : Nat) (ty : TypeId) (cs : List AV) (hN : env N = .any) (h1 : isAggB P ty = some true) (h2 : szB P ty = some n) (ht : env t = .ptr b 0) (hb : H b = some (.box cs)) (hl : cs.length = n)
    {Rr : AV → AHeap → Prop} (h : ∃ r' H2, Settle H (.agg cs) H2 r' ∧ Rr r' H2) : fin P [.cell t ty] N Rr .ret env H := by
  obtain ⟨r', H2, h3, h4⟩ := h
  refine ⟨H, .inl ⟨hN, rfl⟩, .agg cs, ?_, r', H2, h3, h4⟩
  have : resV P env H (.cell t ty) = some (.agg cs) := by
    simp only [resV, h1, h2, ht, at_obj, hb, obj_box, Nat.zero_le, if_true, List.drop_zero, Option.bind_some, take_tt, hl, Nat.le_refl]
    rw [take_len hl]
  simp [aret, List.mapM_cons, List.mapM_nil, this, oneOf]
theorem foldl_inv {α β : Type} (p : α → Prop) (f : α → β → α) (hf : ∀ a b, p a → p (f a b)) : ∀ (l : List β) (a : α), p a → p (l.foldl f a)
  | [], a, h => h
  | x :: l, a, h => foldl_inv p f hf l (f a x) (hf a x h)
theorem range_fold {α : Type} (f : α → Nat → α) (a : α) (j : Nat) : (List.range (j + 1)).foldl f a = f ((List.range j).foldl f a) j := by
  rw [List.range_succ, List.foldl_append]; rfl
end Go.Lift

set_option linter.unusedSimpArgs false
set_option linter.unusedVariables false
namespace Go.Lift
open Go Go.Proofs
/-- A house within the bounds. -/
structure HOK (h : House) : Prop where
  sm : TSm h.table
  pcs : h.table.pieces.length ≤ 7
  sk : Sm h.sick.length
  others : ∃ n : Nat, h.others = (n : Int) ∧ h.table.pieces.length + n ≤ 10
  last : ∃ n : Nat, h.last = (n : Int) ∧ n ≤ 5
  touches : h.touches.length ≤ 6
  touch : ∀ x ∈ h.touches, ∃ a b : Nat, x.a = (a : Int) ∧ x.b = (b : Int) ∧ a < 10 ∧ b < 10
  boiled : h.boiled.length ≤ 4
  signs : h.signs.length ≤ 5
  sign : ∀ s ∈ h.signs, ∃ k : Nat, s.thing = (k : Int) ∧ k < 10
def nT (h : House) : Nat := h.table.pieces.length + h.others.toNat
theorem nT_le {h : House} (hk : HOK h) : nT h ≤ 10 := by
  obtain ⟨n, h1, h2⟩ := hk.others; simp only [nT, h1, Int.toNat_natCast]; exact h2
theorem thingsW_ok {h : House} (hk : HOK h) : thingsW h = (nT h : Int) := by
  obtain ⟨n, h1, h2⟩ := hk.others
  simp only [thingsW, nT, h1, Int.toNat_natCast]
  rw [w64 (by omega) (by omega)]; simp
def sickAt (h : House) (o : List Int) (c : List Bool) (i : Nat) : List Bool := c.set i (decide (o.getD i 0 ∈ h.sick))
def startOf (h : House) (o : List Int) (j : Nat) : List Bool := (List.range j).foldl (sickAt h o) (List.replicate 10 false)
def boilAt (keys : List (Int × Int)) (k : Int) (c : List Bool) (i : Nat) : List Bool := if ((i : Int), k) ∈ keys then c.set i false else c
def boilOf (keys : List (Int × Int)) (k : Int) (c : List Bool) (j : Nat) : List Bool := (List.range j).foldl (boilAt keys k) c
def touchAt (h : House) (hrs : List Int) (k : Int) (c : List Bool) (i : Nat) : List Bool :=
  if hrs.getD i 0 = k ∧ (c.getD (h.touches.getD i default).a.toNat false || c.getD (h.touches.getD i default).b.toNat false) = true then (c.set (h.touches.getD i default).a.toNat true).set (h.touches.getD i default).b.toNat true else c
def touchOf (h : House) (hrs : List Int) (k : Int) (c : List Bool) (j : Nat) : List Bool := (List.range j).foldl (touchAt h hrs k) c
def hourAt (h : House) (hrs : List Int) (keys : List (Int × Int)) (c : List Bool) (k : Nat) : List Bool := touchOf h hrs k (boilOf keys k c (nT h)) h.touches.length
def hoursOf (h : House) (o hrs : List Int) (keys : List (Int × Int)) (j : Nat) : List Bool := (List.range j).foldl (hourAt h hrs keys) (startOf h o h.table.pieces.length)
def playOf (h : House) (o hrs : List Int) (keys : List (Int × Int)) : List Bool := hoursOf h o hrs keys (h.last.toNat + 1)
theorem sickAt_len (h : House) (o : List Int) (c : List Bool) (i : Nat) (hc : c.length = 10) : (sickAt h o c i).length = 10 := by simp [sickAt, hc]
theorem boilAt_len (keys : List (Int × Int)) (k : Int) (c : List Bool) (i : Nat) (hc : c.length = 10) : (boilAt keys k c i).length = 10 := by
  unfold boilAt; split <;> simp [hc]
theorem touchAt_len (h : House) (hrs : List Int) (k : Int) (c : List Bool) (i : Nat) (hc : c.length = 10) : (touchAt h hrs k c i).length = 10 := by
  unfold touchAt; split <;> simp [hc]
theorem startOf_len (h : House) (o : List Int) (j : Nat) : (startOf h o j).length = 10 := foldl_inv (fun c : List Bool => c.length = 10) _ (fun a b ha => sickAt_len h o a b ha) _ _ (by simp)
theorem boilOf_len (keys : List (Int × Int)) (k : Int) (c : List Bool) (j : Nat) (hc : c.length = 10) : (boilOf keys k c j).length = 10 := foldl_inv (fun c : List Bool => c.length = 10) _ (fun a b ha => boilAt_len keys k a b ha) _ _ hc
theorem touchOf_len (h : House) (hrs : List Int) (k : Int) (c : List Bool) (j : Nat) (hc : c.length = 10) : (touchOf h hrs k c j).length = 10 := foldl_inv (fun c : List Bool => c.length = 10) _ (fun a b ha => touchAt_len h hrs k a b ha) _ _ hc
theorem hoursOf_len (h : House) (o hrs : List Int) (keys : List (Int × Int)) (j : Nat) : (hoursOf h o hrs keys j).length = 10 :=
  foldl_inv (fun c : List Bool => c.length = 10) _ (fun a b ha => touchOf_len _ _ _ _ _ (boilOf_len _ _ _ _ ha)) _ _ (startOf_len h o _)
theorem playOf_len (h : House) (o hrs : List Int) (keys : List (Int × Int)) : (playOf h o hrs keys).length = 10 := hoursOf_len _ _ _ _ _
theorem bget {c : List Bool} {k : Nat} (h : k < c.length) : (c.map AV.bool)[k]? = some (.bool (c.getD k false)) := by
  rw [List.getElem?_map, List.getElem?_eq_getElem h]
  simp [h]
theorem iget {c : List Int} {k : Nat} (h : k < c.length) : (c.map i6)[k]? = some (i6 (c.getD k 0)) := by
  rw [List.getElem?_map, List.getElem?_eq_getElem h]
  simp [h]
theorem bset (c : List Bool) (k : Nat) (b : Bool) (h : k < c.length) : placeAt (c.map AV.bool) k [.bool b] = (c.set k b).map AV.bool := by
  rw [placeAt_set _ _ _ (by simpa using h), List.map_set]
theorem iset (c : List Int) (k : Nat) (b : Int) (h : k < c.length) : placeAt (c.map i6) k [i6 b] = (c.set k b).map i6 := by
  rw [placeAt_set _ _ _ (by simpa using h), List.map_set]
theorem agg148 : isAggB Tryz.prog 148 = some true := by kernel_rfl
theorem sz148 : szB Tryz.prog 148 = some 10 := by kernel_rfl

theorem play_c (h : House) (hk : HOK h) (o hs : List Int) (bm : List Boiling) (ho : o.length = 7) (hhs : hs.length = 6) :
    Pure Tryz.prog 92 [eH h, .agg ((o ++ hs).map i6), .amap (bMap bm)] (.agg ((playOf h o hs (bm.map bKey)).map .bool)) := by
  intro H
  obtain ⟨nl, hl1, hl2⟩ := hk.last
  have hpc := hk.pcs
  have htl := hk.touches
  have hnT := nT_le hk
  refine fn_of hmix fc92 (by simp) ?_
  rw [ienv3]
  simp only [go_sem, reduceIte, reduceCtorEq, Nat.reduceEqDiff, Nat.reduceBEq, Nat.reduceAdd, Nat.reduceMul, Nat.reduceLeDiff, ac92, eH]
  refine v_box _ rfl fun b1 hb1 => ?_
  simp only [go_sem, reduceIte, reduceCtorEq, Nat.reduceEqDiff, Nat.reduceBEq, Nat.reduceAdd, Nat.reduceMul, Nat.reduceLeDiff]
  refine v_box _ rfl fun b2 hb2 => ?_
  have n12 : b1 ≠ b2 := fun h => by subst h; simp at hb2
  simp only [go_sem, reduceIte, reduceCtorEq, Nat.reduceEqDiff, Nat.reduceBEq, Nat.reduceAdd, Nat.reduceMul, Nat.reduceLeDiff]
  refine v_alloc fun b3 hb3 => ?_
  have n13 : b1 ≠ b3 := fun h => by subst h; simp [updH, n12] at hb3
  have n23 : b2 ≠ b3 := fun h => by subst h; simp at hb3
  simp only [go_sem, reduceIte, reduceCtorEq, Nat.reduceEqDiff, Nat.reduceBEq, Nat.reduceAdd, Nat.reduceMul, Nat.reduceLeDiff, updH_ne _ _ n13, updH_ne _ _ n12]
  refine (pieces_c h).go ?_
  simp only [go_sem, reduceIte, reduceCtorEq, Nat.reduceEqDiff, Nat.reduceBEq, Nat.reduceAdd, Nat.reduceMul, Nat.reduceLeDiff]
  have e3 := (((Ext.refl H).new hb1 (.box [.slice (h.table.women.map eW), .slice (h.table.pieces.map eP), i6 h.table.wrong, .slice (eI h.sick), i6 h.others, i6 h.last, .slice (h.touches.map eTo), .slice (h.boiled.map eB), .slice (h.signs.map eS)])).new hb2 (.box ((o ++ hs).map i6)))
  have hH3 := e3.isNone hb3
  refine x_for h.table.pieces.length (fun j env H1 => Ext H H1 ∧ H1 b1 = some (.box [.slice (h.table.women.map eW), .slice (h.table.pieces.map eP), i6 h.table.wrong, .slice (eI h.sick), i6 h.others, i6 h.last, .slice (h.touches.map eTo), .slice (h.boiled.map eB), .slice (h.signs.map eS)]) ∧
      H1 b2 = some (.box ((o ++ hs).map i6)) ∧ H1 b3 = some (.box ((startOf h o j).map .bool)) ∧ env 2 = .amap (bMap bm) ∧ env 3 = .ptr b1 0 ∧ env 4 = .ptr b2 0 ∧ env 6 = .ptr b3 0 ∧ env 13 = i6 h.table.pieces.length ∧ env 14 = i6 j ∧ env 78 = .any)
    ⟨e3.new hb3 _, by rw [updH_ne _ _ n13, updH_ne _ _ n12]; exact updH_same _ _ _, by rw [updH_ne _ _ n23]; exact updH_same _ _ _, updH_same _ _ _, by simp [upd_at], by simp [upd_at], by simp [upd_at], by simp [upd_at], by simp [upd_at], by simp [upd_at], by simp [upd_at]⟩ ?_
  rintro j env H1 hj ⟨hE, hB1, hB2, hB3, g2, g3, g4, g6, g13, g14, hN⟩
  by_cases hlt : (j : Int) < (h.table.pieces.length : Int)
  · have hlt' : j < h.table.pieces.length := by omega
    have h13 : (List.map i6 (o ++ hs)).length = 13 := by simp [ho, hhs]
    simp only [go_sem, reduceIte, reduceCtorEq, Nat.reduceEqDiff, Nat.reduceBEq, Nat.reduceAdd, Nat.reduceMul, Nat.reduceLeDiff, g2, g3, g4, g6, g13, g14, hN, hlt, hB1, hB2, h13, take_len h13, List.length_append, ho, hhs]
    refine (sick_c h o hs j ho hhs (by omega) hk.sk).go ?_
    simp only [go_sem, reduceIte, reduceCtorEq, Nat.reduceEqDiff, Nat.reduceBEq, Nat.reduceAdd, Nat.reduceMul, Nat.reduceLeDiff, g2, g3, g4, g6, g13, g14, hN, show (j : Int) < ((10 : Nat) : Int) by omega, Nat.mul_one]
    rw [v_store]
    refine ⟨rfl, rfl, by simp [AV.cells, AV.isCell], _, hB3, by simp [startOf_len]; omega, ?_⟩
    simp only [go_sem, reduceIte, reduceCtorEq, Nat.reduceEqDiff, Nat.reduceBEq, Nat.reduceAdd, Nat.reduceMul, Nat.reduceLeDiff, g2, g3, g4, g6, g13, g14, hN, wsucc (show j < 4611686018427387904 by omega), hlt', updH_ne _ _ n13, updH_ne _ _ n23, hB1, hB2]
    refine ⟨hE.upd hH3 _, ?_⟩
    rw [bset _ _ _ (by rw [startOf_len]; omega)]
    simp only [startOf, range_fold]; rfl
  have hj' : j = h.table.pieces.length := by omega
  subst hj'
  have hw1 : IntKind.i64.wrap ((nl : Int) + 1) = ((nl + 1 : Nat) : Int) := wsucc (by omega)
  simp only [go_sem, reduceIte, reduceCtorEq, Nat.reduceEqDiff, Nat.reduceBEq, Nat.reduceAdd, Nat.reduceMul, Nat.reduceLeDiff, g2, g3, g4, g6, g13, g14, hN, hlt, hB1, List.length_cons, List.length_nil, hl1, hw1]
  rw [← hl1]
  refine x_for (nl + 1) (fun j env H1 => Ext H H1 ∧ H1 b1 = some (.box [.slice (h.table.women.map eW), .slice (h.table.pieces.map eP), i6 h.table.wrong, .slice (eI h.sick), i6 h.others, i6 h.last, .slice (h.touches.map eTo), .slice (h.boiled.map eB), .slice (h.signs.map eS)]) ∧
      H1 b2 = some (.box ((o ++ hs).map i6)) ∧ H1 b3 = some (.box ((hoursOf h o hs (bm.map bKey) j).map .bool)) ∧ env 2 = .amap (bMap bm) ∧ env 3 = .ptr b1 0 ∧ env 4 = .ptr b2 0 ∧ env 6 = .ptr b3 0 ∧ env 26 = i6 ((nl + 1 : Nat) : Int) ∧ env 27 = i6 j ∧ env 78 = .any)
    ⟨hE, hB1, hB2, by rw [hB3]; rfl, by simp [upd_at, g2], by simp [upd_at, g3], by simp [upd_at, g4], by simp [upd_at, g6], by simp [upd_at], by simp [upd_at], by simp [upd_at, hN]⟩ ?_
  clear hE hB1 hB2 hB3 g2 g3 g4 g6 g13 g14 hN hlt hj env H1
  rintro k env H1 hk1 ⟨hE, hB1, hB2, hB3, g2, g3, g4, g6, g26, g27, hN⟩
  by_cases hlt : (k : Int) < ((nl + 1 : Nat) : Int)
  rotate_left
  · have hk' : k = nl + 1 := by omega
    subst hk'
    have h10 : ((hoursOf h o hs (bm.map bKey) (nl + 1)).map AV.bool).length = 10 := by simp [hoursOf_len]
    simp only [go_sem, reduceIte, reduceCtorEq, Nat.reduceEqDiff, Nat.reduceBEq, Nat.reduceAdd, Nat.reduceMul, Nat.reduceLeDiff, g2, g3, g4, g6, g26, g27, hN, hlt, hB3, h10, take_len h10, hoursOf_len]
    rw [v_store]
    refine ⟨rfl, h10, by intro y hy; simp only [AV.cells, List.mem_map] at hy; obtain ⟨b, _, rfl⟩ := hy; rfl, _, hB3, by simp [hoursOf_len], ?_⟩
    simp only [go_sem, reduceIte, reduceCtorEq, Nat.reduceEqDiff, Nat.reduceBEq, Nat.reduceAdd, Nat.reduceMul, Nat.reduceLeDiff, g2, g3, g4, g6, g26, g27, hN, placeAll _ _ rfl]
    refine fin_cell1 6 10 b3 148 _ (by simp [upd_at, hN]) agg148 sz148 (by simp [upd_at, g6]) (updH_same _ _ _) h10 ⟨_, H, Settle.refl (hE.upd hH3 _), ?_, rfl⟩
    simp only [playOf, hl1, Int.toNat_natCast]
  have hlt' : k < nl + 1 := by omega
  simp only [go_sem, reduceIte, reduceCtorEq, Nat.reduceEqDiff, Nat.reduceBEq, Nat.reduceAdd, Nat.reduceMul, Nat.reduceLeDiff, g2, g3, g4, g6, g26, g27, hN, hlt, hB1]
  refine (things_c h).go ?_
  rw [thingsW_ok hk]
  simp only [go_sem, reduceIte, reduceCtorEq, Nat.reduceEqDiff, Nat.reduceBEq, Nat.reduceAdd, Nat.reduceMul, Nat.reduceLeDiff]
  refine x_for (nT h) (fun j env H1 => Ext H H1 ∧ H1 b1 = some (.box [.slice (h.table.women.map eW), .slice (h.table.pieces.map eP), i6 h.table.wrong, .slice (eI h.sick), i6 h.others, i6 h.last, .slice (h.touches.map eTo), .slice (h.boiled.map eB), .slice (h.signs.map eS)]) ∧
      H1 b2 = some (.box ((o ++ hs).map i6)) ∧ H1 b3 = some (.box ((boilOf (bm.map bKey) k (hoursOf h o hs (bm.map bKey) k) j).map .bool)) ∧ env 2 = .amap (bMap bm) ∧ env 3 = .ptr b1 0 ∧ env 4 = .ptr b2 0 ∧ env 6 = .ptr b3 0 ∧ env 8 = i6 k ∧ env 26 = i6 ((nl + 1 : Nat) : Int) ∧ env 27 = i6 k ∧ env 31 = i6 (nT h) ∧ env 32 = i6 j ∧ env 78 = .any)
    ⟨hE, hB1, hB2, by rw [hB3]; rfl, by simp [upd_at, g2], by simp [upd_at, g3], by simp [upd_at, g4], by simp [upd_at, g6], by simp [upd_at, g27], by simp [upd_at, g26], by simp [upd_at, g27], by simp [upd_at], by simp [upd_at], by simp [upd_at, hN]⟩ ?_
  clear hE hB1 hB2 hB3 g2 g3 g4 g6 g26 g27 hN hlt env H1
  rintro j env H1 hj ⟨hE, hB1, hB2, hB3, g2, g3, g4, g6, g8, g26, g27, g31, g32, hN⟩
  by_cases hlt : (j : Int) < (nT h : Int)
  · have hlt' : j < nT h := by omega
    simp only [go_sem, reduceIte, reduceCtorEq, Nat.reduceEqDiff, Nat.reduceBEq, Nat.reduceAdd, Nat.reduceMul, Nat.reduceLeDiff, g2, g3, g4, g6, g8, g26, g27, g31, g32, hN, hlt, bc2, Option.map_some, d_lookup, bMap_find]
    by_cases hin : ((j : Int), (k : Int)) ∈ bm.map bKey
    · simp only [go_sem, reduceIte, reduceCtorEq, Nat.reduceEqDiff, Nat.reduceBEq, Nat.reduceAdd, Nat.reduceMul, Nat.reduceLeDiff, hin, g2, g3, g4, g6, g8, g26, g27, g31, g32, hN, show (j : Int) < ((10 : Nat) : Int) by omega, Nat.mul_one]
      rw [v_store]
      refine ⟨rfl, rfl, by simp [AV.cells, AV.isCell], _, hB3, by simp [boilOf_len, hoursOf_len]; omega, ?_⟩
      simp only [go_sem, reduceIte, reduceCtorEq, Nat.reduceEqDiff, Nat.reduceBEq, Nat.reduceAdd, Nat.reduceMul, Nat.reduceLeDiff, g2, g3, g4, g6, g8, g26, g27, g31, g32, hN, wsucc (show j < 4611686018427387904 by omega), hlt', updH_ne _ _ n13, updH_ne _ _ n23, hB1, hB2]
      refine ⟨hE.upd hH3 _, ?_⟩
      rw [bset _ _ _ (by rw [boilOf_len _ _ _ _ (hoursOf_len _ _ _ _ _)]; omega)]
      simp only [boilOf, range_fold]
      rw [boilAt, if_pos hin]
    · simp only [go_sem, reduceIte, reduceCtorEq, Nat.reduceEqDiff, Nat.reduceBEq, Nat.reduceAdd, Nat.reduceMul, Nat.reduceLeDiff, hin, g2, g3, g4, g6, g8, g26, g27, g31, g32, hN, wsucc (show j < 4611686018427387904 by omega), hlt']
      refine ⟨hE, hB1, hB2, ?_⟩
      rw [hB3]
      simp only [boilOf, range_fold]
      rw [boilAt, if_neg hin]
  have hj' : j = nT h := by omega
  subst hj'
  simp only [go_sem, reduceIte, reduceCtorEq, Nat.reduceEqDiff, Nat.reduceBEq, Nat.reduceAdd, Nat.reduceMul, Nat.reduceLeDiff, g2, g3, g4, g6, g8, g26, g27, g31, g32, hN, hlt, hB1]
  generalize hcc : boilOf (bm.map bKey) k (hoursOf h o hs (bm.map bKey) k) (nT h) = cc at hB3
  have hccl : cc.length = 10 := by rw [← hcc]; exact boilOf_len _ _ _ _ (hoursOf_len _ _ _ _ _)
  refine x_for h.touches.length (fun j env H1 => Ext H H1 ∧ H1 b1 = some (.box [.slice (h.table.women.map eW), .slice (h.table.pieces.map eP), i6 h.table.wrong, .slice (eI h.sick), i6 h.others, i6 h.last, .slice (h.touches.map eTo), .slice (h.boiled.map eB), .slice (h.signs.map eS)]) ∧
      H1 b2 = some (.box ((o ++ hs).map i6)) ∧ H1 b3 = some (.box ((touchOf h hs k cc j).map .bool)) ∧ env 2 = .amap (bMap bm) ∧ env 3 = .ptr b1 0 ∧ env 4 = .ptr b2 0 ∧ env 6 = .ptr b3 0 ∧ env 8 = i6 k ∧ env 26 = i6 ((nl + 1 : Nat) : Int) ∧ env 27 = i6 k ∧ env 44 = .slice (h.touches.map eTo) ∧ env 45 = i6 h.touches.length ∧ env 46 = i6 j ∧ env 78 = .any)
    ⟨hE, hB1, hB2, hB3, by simp [upd_at, g2], by simp [upd_at, g3], by simp [upd_at, g4], by simp [upd_at, g6], by simp [upd_at, g8], by simp [upd_at, g26], by simp [upd_at, g27], by simp [upd_at], by simp [upd_at], by simp [upd_at], by simp [upd_at, hN]⟩ ?_
  clear hE hB1 hB2 hB3 g2 g3 g4 g6 g8 g26 g27 g31 g32 hN hlt hj env H1
  rintro j env H1 hj ⟨hE, hB1, hB2, hB3, g2, g3, g4, g6, g8, g26, g27, g44, g45, g46, hN⟩
  by_cases hlt : (j : Int) < (h.touches.length : Int)
  rotate_left
  · have hj' : j = h.touches.length := by omega
    subst hj'
    simp only [go_sem, reduceIte, reduceCtorEq, Nat.reduceEqDiff, Nat.reduceBEq, Nat.reduceAdd, Nat.reduceMul, Nat.reduceLeDiff, g2, g3, g4, g6, g8, g26, g27, g44, g45, g46, hN, hlt, wsucc (show k < 4611686018427387904 by omega), hlt']
    refine ⟨hE, hB1, hB2, ?_⟩
    rw [hB3]
    simp only [hoursOf, range_fold]
    rw [← hcc]; rfl
  have hltt : j < h.touches.length := by omega
  have hget : h.touches.getD j default = h.touches[j] := by simp [hltt]
  obtain ⟨a, b, ha, hb, ha10, hb10⟩ := hk.touch _ (List.getElem_mem hltt)
  have htl2 := touchOf_len h hs k cc j hccl
  have hhj : (o ++ hs).getD (7 + j) 0 = hs.getD j 0 := by
    rw [List.getD_eq_getElem?_getD, List.getElem?_append_right (by omega), List.getD_eq_getElem?_getD]
    congr 2; omega
  have hstep : touchOf h hs k cc (j + 1) = if hs.getD j 0 = (k : Int) ∧ ((touchOf h hs k cc j).getD a false || (touchOf h hs k cc j).getD b false) = true then ((touchOf h hs k cc j).set a true).set b true else touchOf h hs k cc j := by
    simp only [touchOf, range_fold]
    rw [touchAt, hget, ha, hb]; simp only [Int.toNat_natCast]; rfl
  obtain ⟨ct, hct⟩ : ∃ ct, ct = touchOf h hs k cc j := ⟨_, rfl⟩
  rw [← hct] at hB3 htl2 hstep
  have hgi := iget (show 7 + j < (o ++ hs).length by simp [ho, hhs]; omega)
  rw [hhj] at hgi
  simp only [go_sem, reduceIte, reduceCtorEq, Nat.reduceEqDiff, Nat.reduceBEq, Nat.reduceAdd, Nat.reduceMul, Nat.reduceLeDiff, g2, g3, g4, g6, g8, g26, g27, g44, g45, g46, hN, hlt, map_get (f := eTo) hltt, eTo, ha, hb]
  refine v_alloc fun b4 hb4 => ?_
  have hn : ∀ {x o}, H1 x = some o → x ≠ b4 := fun hx h => by subst h; rw [hx] at hb4; cases hb4
  have n14 := hn hB1
  have n24 := hn hB2
  have n34 := hn hB3
  simp only [go_sem, reduceIte, reduceCtorEq, Nat.reduceEqDiff, Nat.reduceBEq, Nat.reduceAdd, Nat.reduceMul, Nat.reduceLeDiff]
  rw [v_store]
  refine ⟨rfl, rfl, by simp [AV.cells, AV.isCell], _, updH_same _ _ _, by simp, ?_⟩
  have hE4 : ∀ o1 o2, Ext H (updH (updH H1 b4 o1) b4 o2) := fun o1 o2 => (hE.new hb4 _).upd (hE.isNone hb4) _
  have hga := bget (c := ct) (show a < ct.length by omega)
  have hgb := bget (c := ct) (show b < ct.length by omega)
  by_cases hq : hs.getD j 0 = (k : Int)
  rotate_left
  · simp only [go_sem, reduceIte, reduceCtorEq, Nat.reduceEqDiff, Nat.reduceBEq, Nat.reduceAdd, Nat.reduceMul, Nat.reduceLeDiff, g2, g3, g4, g6, g8, g26, g27, g44, g45, g46, hN, placeAt, List.append_nil, List.nil_append, List.drop_nil, updH_ne _ _ n14, updH_ne _ _ n24, updH_ne _ _ n34, hB1, hB2, hB3, show (j : Int) < ((6 : Nat) : Int) by omega, Nat.mul_one, List.length_append, ho, hhs, show 7 + j ≤ 7 + 6 by omega, take_f', drop_at, hgi, hq, wsucc (show j < 4611686018427387904 by omega), hltt]
    refine ⟨hE4 _ _, ?_⟩
    rw [hstep, if_neg (fun h => hq h.1)]
  cases hA : ct.getD a false <;> cases hBb : ct.getD b false <;> rw [hA] at hga <;> rw [hBb] at hgb
  · simp only [go_sem, reduceIte, reduceCtorEq, Nat.reduceEqDiff, Nat.reduceBEq, Nat.reduceAdd, Nat.reduceMul, Nat.reduceLeDiff, g2, g3, g4, g6, g8, g26, g27, g44, g45, g46, hN, placeAt, List.append_nil, List.nil_append, List.drop_nil, updH_ne _ _ n14, updH_ne _ _ n24, updH_ne _ _ n34, hB1, hB2, hB3, show (j : Int) < ((6 : Nat) : Int) by omega, Nat.mul_one, List.length_append, ho, hhs, show 7 + j ≤ 7 + 6 by omega, take_f', drop_at, hgi, hq, wsucc (show j < 4611686018427387904 by omega), hltt, List.getElem?_cons_zero, List.getElem?_cons_succ, show (a : Int) < ((10 : Nat) : Int) by omega, show (b : Int) < ((10 : Nat) : Int) by omega, htl2, show a ≤ 10 by omega, show b ≤ 10 by omega, hga, hgb]
    refine ⟨hE4 _ _, ?_⟩
    rw [hstep, if_neg (by rw [hA, hBb]; simp)]
  all_goals
    simp only [go_sem, reduceIte, reduceCtorEq, Nat.reduceEqDiff, Nat.reduceBEq, Nat.reduceAdd, Nat.reduceMul, Nat.reduceLeDiff, g2, g3, g4, g6, g8, g26, g27, g44, g45, g46, hN, placeAt, List.append_nil, List.nil_append, List.drop_nil, updH_ne _ _ n14, updH_ne _ _ n24, updH_ne _ _ n34, hB1, hB2, hB3, show (j : Int) < ((6 : Nat) : Int) by omega, Nat.mul_one, List.length_append, ho, hhs, show 7 + j ≤ 7 + 6 by omega, take_f', drop_at, hgi, hq, wsucc (show j < 4611686018427387904 by omega), hltt, List.getElem?_cons_zero, List.getElem?_cons_succ, show (a : Int) < ((10 : Nat) : Int) by omega, show (b : Int) < ((10 : Nat) : Int) by omega, htl2, show a ≤ 10 by omega, show b ≤ 10 by omega, hga, hgb]
    rw [v_store]
    refine ⟨rfl, rfl, by simp [AV.cells, AV.isCell], ct.map .bool, by rw [updH_ne _ _ n34, updH_ne _ _ n34]; exact hB3, by simp [htl2]; omega, ?_⟩
    rw [show (AV.bool true).cells = [.bool true] from rfl, bset _ _ _ (by omega)]
    simp only [go_sem, reduceIte, reduceCtorEq, Nat.reduceEqDiff, Nat.reduceBEq, Nat.reduceAdd, Nat.reduceMul, Nat.reduceLeDiff, g2, g3, g4, g6, g8, g26, g27, g44, g45, g46, hN, updH_ne _ _ n34.symm, show (b : Int) < ((10 : Nat) : Int) by omega, Nat.mul_one, List.getElem?_cons_zero, List.getElem?_cons_succ, take_f', drop_at]
    rw [v_store]
    refine ⟨rfl, rfl, by simp [AV.cells, AV.isCell], _, updH_same _ _ _, by simp [htl2]; omega, ?_⟩
    rw [show (AV.bool true).cells = [.bool true] from rfl, bset _ _ _ (by simp; omega)]
    simp only [go_sem, reduceIte, reduceCtorEq, Nat.reduceEqDiff, Nat.reduceBEq, Nat.reduceAdd, Nat.reduceMul, Nat.reduceLeDiff, g2, g3, g4, g6, g8, g26, g27, g44, g45, g46, hN, updH_ne _ _ n13, updH_ne _ _ n23, updH_ne _ _ n14, updH_ne _ _ n24, hB1, hB2, wsucc (show j < 4611686018427387904 by omega), hltt]
    refine ⟨((hE4 _ _).upd hH3 _).upd hH3 _, ?_⟩
    rw [hstep, if_pos ⟨hq, by rw [hA, hBb]; rfl⟩]
end Go.Lift

set_option linter.unusedSimpArgs false
set_option linter.unusedVariables false
namespace Go.Lift
open Go Go.Proofs
def hoursOK (h : House) (l : List Int) : Bool := decide (l.length = h.touches.length) && (List.range l.length).all fun i => decide ((h.touches.getD i default).lo ≤ l.getD i 0 ∧ l.getD i 0 ≤ (h.touches.getD i default).hi)
def courseOK (h : House) (c : Course) : Bool := isTruthT h.table c.owners && hoursOK h c.hours
def pad6 (l : List Int) : List Int := l ++ List.replicate (6 - l.length) 0
def pad7 (l : List Int) : List Int := padTo l l.length
def sceneOf (h : House) (c : Course) : List Int := if courseOK h c = true then pad7 c.owners ++ pad6 c.hours else List.replicate 13 0
theorem agg144 : isAggB Tryz.prog 144 = some true := by kernel_rfl
theorem sz144 : szB Tryz.prog 144 = some 13 := by kernel_rfl
theorem v_copy {P : Program} {R : AV → AHeap → Prop} {H : AHeap} {b off len cap : Nat} {cs : List AV} {l : List Int} (hb : H b = some (.box cs)) (hl : l.length ≤ len) (ho : off + l.length ≤ cs.length)
    (h : R (i6 l.length) (updH H b (.box (placeAt cs off (l.map i6))))) : aopV P (.copy 1) [.mslice b off len cap, .slice (eI l)] H R := by
  have hf : ((eI l).take len).flatten = l.map i6 := by
    rw [List.take_of_length_le (by simpa using hl)]
    clear hl ho h
    induction l with
    | nil => rfl
    | cons x l ih => simp only [eI, List.map_cons, List.flatten_cons] at ih ⊢; rw [ih]; rfl
  have hf2 : ((eI l).take len).length = l.length := by rw [List.take_of_length_le (by simpa using hl)]; simp
  refine ⟨_, rfl, eI_good l, eI_cell l, ?_⟩
  simp only [hb]
  rw [hf, hf2]
  exact ⟨by simpa using ho, h⟩

theorem place13 (a b : List Int) (ha : a.length ≤ 7) (hb : b.length ≤ 6) : placeAt (placeAt ((List.replicate 13 (0 : Int)).map i6) 0 (a.map i6)) 7 (b.map i6) = (a ++ List.replicate (7 - a.length) 0 ++ (b ++ List.replicate (6 - b.length) 0)).map i6 := by
  have e1 : min (7 - a.length) (13 - a.length) = 7 - a.length := by omega
  have e2 : 13 - a.length - (7 + b.length - a.length) = 6 - b.length := by omega
  have h1 : placeAt ((List.replicate 13 (0 : Int)).map i6) 0 (a.map i6) = (a ++ List.replicate (13 - a.length) 0).map i6 := by
    rw [placeAt, List.take_zero, List.nil_append, Nat.zero_add, List.length_map, ← List.map_drop, List.drop_replicate, ← List.map_append]
  rw [h1]
  simp only [List.nil_append, placeAt, List.length_map, ← List.map_drop, List.drop_replicate, ← List.map_append, ← List.map_take, List.take_append, List.drop_append, List.take_replicate, e1, e2, List.take_of_length_le ha, List.drop_of_length_le (show a.length ≤ 7 + b.length by omega), List.append_assoc]
theorem isTruthT_len {t : Table} {l : List Int} (h : isTruthT t l = true) : l.length = t.pieces.length := by
  simp only [isTruthT, Bool.and_eq_true] at h
  exact (agg_ok_owners t l h.2.1).1
theorem scene_c (h : House) (hk : HOK h) (c : Course) (hc1 : Sm c.owners.length) (hc2 : Sm c.hours.length) :
    Pure Tryz.prog 91 [eH h, eC c] (.tup [.agg ((sceneOf h c).map i6), .bool (courseOK h c)]) := by
  intro H
  have htl := hk.touches
  have hpc := hk.pcs
  unfold Sm at hc2
  refine fn_of hmix fc91 (by simp) ?_
  rw [ienv2]
  simp only [go_sem, reduceIte, reduceCtorEq, Nat.reduceEqDiff, Nat.reduceBEq, Nat.reduceAdd, Nat.reduceMul, Nat.reduceLeDiff, ac91, eH, eC]
  refine v_box _ rfl fun b1 hb1 => ?_
  simp only [go_sem, reduceIte, reduceCtorEq, Nat.reduceEqDiff, Nat.reduceBEq, Nat.reduceAdd, Nat.reduceMul, Nat.reduceLeDiff]
  refine v_box _ rfl fun b2 hb2 => ?_
  have n12 : b1 ≠ b2 := fun h => by subst h; simp at hb2
  simp only [go_sem, reduceIte, reduceCtorEq, Nat.reduceEqDiff, Nat.reduceBEq, Nat.reduceAdd, Nat.reduceMul, Nat.reduceLeDiff]
  refine v_alloc fun b3 hb3 => ?_
  have n13 : b1 ≠ b3 := fun h => by subst h; simp [updH, n12] at hb3
  have n23 : b2 ≠ b3 := fun h => by subst h; simp at hb3
  have e2 := (((Ext.refl H).new hb1 (.box [.slice (h.table.women.map eW), .slice (h.table.pieces.map eP), i6 h.table.wrong, .slice (eI h.sick), i6 h.others, i6 h.last, .slice (h.touches.map eTo), .slice (h.boiled.map eB), .slice (h.signs.map eS)])).new hb2 (.box [.slice (eI c.owners), .slice (eI c.hours)]))
  have hH3 := e2.isNone hb3
  simp only [go_sem, reduceIte, reduceCtorEq, Nat.reduceEqDiff, Nat.reduceBEq, Nat.reduceAdd, Nat.reduceMul, Nat.reduceLeDiff, updH_ne _ _ n13, updH_ne _ _ n23, updH_ne _ _ n12]
  refine (proveTruth_c h.table c.owners hk.sm hc1).go ?_
  have hz : ([.int .i64 0, .int .i64 0, .int .i64 0, .int .i64 0, .int .i64 0, .int .i64 0, .int .i64 0, .int .i64 0, .int .i64 0, .int .i64 0, .int .i64 0, .int .i64 0, .int .i64 0] : List AV) = (List.replicate 13 (0 : Int)).map i6 := rfl
  have hzl : ((List.replicate 13 (0 : Int)).map i6).length = 13 := rfl
  rw [hz]
  have hE3 : ∀ o1 o2, Ext H (updH (updH (updH (updH H b1 (.box [.slice (h.table.women.map eW), .slice (h.table.pieces.map eP), i6 h.table.wrong, .slice (eI h.sick), i6 h.others, i6 h.last, .slice (h.touches.map eTo), .slice (h.boiled.map eB), .slice (h.signs.map eS)])) b2 (.box [.slice (eI c.owners), .slice (eI c.hours)])) b3 o1) b3 o2) := fun o1 o2 => (e2.new hb3 _).upd hH3 _
  cases c1 : isTruthT h.table c.owners
  · simp only [go_sem, reduceIte, reduceCtorEq, Nat.reduceEqDiff, Nat.reduceBEq, Nat.reduceAdd, Nat.reduceMul, Nat.reduceLeDiff, hzl, take_len hzl, List.length_replicate]
    rw [v_store]
    refine ⟨rfl, rfl, by simp [AV.cells, AV.isCell], _, updH_same _ _ _, by simp, ?_⟩
    simp only [go_sem, reduceIte, reduceCtorEq, Nat.reduceEqDiff, Nat.reduceBEq, Nat.reduceAdd, Nat.reduceMul, Nat.reduceLeDiff, placeAll _ _ rfl]
    refine fin_cell 4 5 13 b3 144 _ (by simp [upd_at]) agg144 sz144 (by simp [upd_at]) (updH_same _ _ _) hzl ⟨_, H, Settle.refl (hE3 _ _), ?_, rfl⟩
    simp [upd_at, courseOK, c1, sceneOf]
  by_cases c2 : (c.hours.length : Int) = (h.touches.length : Int)
  rotate_left
  · have hbad : courseOK h c = false := by
      simp only [courseOK, hoursOK, show ¬ c.hours.length = h.touches.length by omega, decide_false, Bool.false_and, Bool.and_false]
    simp only [go_sem, reduceIte, reduceCtorEq, Nat.reduceEqDiff, Nat.reduceBEq, Nat.reduceAdd, Nat.reduceMul, Nat.reduceLeDiff, hzl, take_len hzl, List.length_replicate, updH_ne _ _ n13, updH_ne _ _ n23, updH_ne _ _ n12, c2]
    rw [v_store]
    refine ⟨rfl, rfl, by simp [AV.cells, AV.isCell], _, updH_same _ _ _, by simp, ?_⟩
    simp only [go_sem, reduceIte, reduceCtorEq, Nat.reduceEqDiff, Nat.reduceBEq, Nat.reduceAdd, Nat.reduceMul, Nat.reduceLeDiff, placeAll _ _ rfl]
    refine fin_cell 4 5 13 b3 144 _ (by simp [upd_at]) agg144 sz144 (by simp [upd_at]) (updH_same _ _ _) hzl ⟨_, H, Settle.refl (hE3 _ _), ?_, rfl⟩
    simp [upd_at, hbad, sceneOf]
  have c2' : c.hours.length = h.touches.length := by omega
  simp only [go_sem, reduceIte, reduceCtorEq, Nat.reduceEqDiff, Nat.reduceBEq, Nat.reduceAdd, Nat.reduceMul, Nat.reduceLeDiff, updH_ne _ _ n13, updH_ne _ _ n23, updH_ne _ _ n12, c2]
  refine x_for c.hours.length (fun j env H1 => Ext H H1 ∧ H1 b1 = some (.box [.slice (h.table.women.map eW), .slice (h.table.pieces.map eP), i6 h.table.wrong, .slice (eI h.sick), i6 h.others, i6 h.last, .slice (h.touches.map eTo), .slice (h.boiled.map eB), .slice (h.signs.map eS)]) ∧ H1 b2 = some (.box [.slice (eI c.owners), .slice (eI c.hours)]) ∧ H1 b3 = some (.box ((List.replicate 13 (0 : Int)).map i6)) ∧ env 2 = .ptr b1 0 ∧ env 3 = .ptr b2 0 ∧ env 4 = .ptr b3 0 ∧ env 25 = .slice (eI c.hours) ∧ env 26 = i6 c.hours.length ∧ env 27 = i6 j ∧ env 62 = .any ∧ ∀ i, i < j → ((h.touches.getD i default).lo ≤ c.hours.getD i 0 ∧ c.hours.getD i 0 ≤ (h.touches.getD i default).hi))
    ⟨e2.new hb3 _, by rw [updH_ne _ _ n13, updH_ne _ _ n12]; exact updH_same _ _ _, by rw [updH_ne _ _ n23]; exact updH_same _ _ _, updH_same _ _ _, by simp [upd_at], by simp [upd_at], by simp [upd_at], by simp [upd_at], by simp [upd_at, c2], by simp [upd_at], by simp [upd_at], by simp⟩ ?_
  rintro j env H1 hj ⟨hE, hB1, hB2, hB3, g2, g3, g4, g25, g26, g27, hN, hq⟩
  by_cases hlt : (j : Int) < (c.hours.length : Int)
  · have hlt' : j < c.hours.length := by omega
    have hltt : j < h.touches.length := by omega
    have hget : h.touches.getD j default = h.touches[j] := by simp [hltt]
    have hgl : c.hours.getD j 0 = c.hours[j] := by simp [hlt']
    simp only [go_sem, reduceIte, reduceCtorEq, Nat.reduceEqDiff, Nat.reduceBEq, Nat.reduceAdd, Nat.reduceMul, Nat.reduceLeDiff, g2, g3, g4, g25, g26, g27, hN, hlt, eI_get hlt', hB1, map_get (f := eTo) hltt, eTo]
    refine pgo_call (within_c c.hours[j] _ _) ?_
    by_cases hm : h.touches[j].lo ≤ c.hours[j] ∧ c.hours[j] ≤ h.touches[j].hi
    · simp only [go_sem, reduceIte, reduceCtorEq, Nat.reduceEqDiff, Nat.reduceBEq, Nat.reduceAdd, Nat.reduceMul, Nat.reduceLeDiff, hm, g2, g3, g4, g25, g26, g27, hN, wsucc (show j < 4611686018427387904 by omega), hlt']
      refine ⟨hE, hB1, hB2, hB3, ?_⟩
      intro i hi
      rcases Nat.lt_or_ge i j with h | h
      · exact hq i h
      · have : i = j := by omega
        subst this; rw [hgl, hget]; exact hm
    · have hbad : courseOK h c = false := by
        have : hoursOK h c.hours = false := by
          simp only [hoursOK, Bool.and_eq_false_iff, List.all_eq_false]
          exact .inr ⟨j, by simp [hlt'], by rw [hgl, hget]; simp only [hm, decide_false, Bool.false_eq_true, not_false_eq_true]⟩
        simp [courseOK, this]
      simp only [go_sem, reduceIte, reduceCtorEq, Nat.reduceEqDiff, Nat.reduceBEq, Nat.reduceAdd, Nat.reduceMul, Nat.reduceLeDiff, hm, g2, g3, g4, g25, g26, g27, hN, hB3, hzl, take_len hzl, List.length_replicate]
      rw [v_store]
      refine ⟨rfl, rfl, by simp [AV.cells, AV.isCell], _, hB3, by simp, ?_⟩
      simp only [go_sem, reduceIte, reduceCtorEq, Nat.reduceEqDiff, Nat.reduceBEq, Nat.reduceAdd, Nat.reduceMul, Nat.reduceLeDiff, hN, g4, placeAll _ _ rfl]
      refine fin_cell 4 5 13 b3 144 _ (by simp [upd_at, hN]) agg144 sz144 (by simp [upd_at, g4]) (updH_same _ _ _) hzl ⟨_, H, Settle.refl (hE.upd hH3 _), ?_, rfl⟩
      simp [upd_at, hbad, sceneOf]
  have hj' : j = c.hours.length := by omega
  subst hj'
  have hok : courseOK h c = true := by
    simp only [courseOK, c1, hoursOK, Bool.true_and, Bool.and_eq_true, decide_eq_true_eq, List.all_eq_true, List.mem_range]
    exact ⟨c2', hq⟩
  have hol := isTruthT_len c1
  simp only [go_sem, reduceIte, reduceCtorEq, Nat.reduceEqDiff, Nat.reduceBEq, Nat.reduceAdd, Nat.reduceMul, Nat.reduceLeDiff, g2, g3, g4, g25, g26, g27, hN, hlt, hB1, hB2]
  refine v_copy hB3 (by omega) (by simp; omega) ?_
  simp only [go_sem, reduceIte, reduceCtorEq, Nat.reduceEqDiff, Nat.reduceBEq, Nat.reduceAdd, Nat.reduceMul, Nat.reduceLeDiff, g2, g3, g4, hN, updH_ne _ _ n13, updH_ne _ _ n23, hB2]
  refine v_copy (updH_same _ _ _) (by omega) (by simp [placeAt]; omega) ?_
  have hres : placeAt (placeAt ((List.replicate 13 (0 : Int)).map i6) 0 (c.owners.map i6)) 7 (c.hours.map i6) = (sceneOf h c).map i6 := by
    rw [place13 _ _ (by omega) (by omega)]
    simp only [sceneOf, hok, if_true, pad7, padTo, List.take_length, pad6]
  have hl13 : ((sceneOf h c).map i6).length = 13 := by
    simp only [sceneOf, hok, if_true, pad7, padTo, pad6, List.take_length, List.length_map, List.length_append, List.length_replicate]; omega
  have hl13' : (sceneOf h c).length = 13 := by simpa using hl13
  rw [hres]
  simp only [go_sem, reduceIte, reduceCtorEq, Nat.reduceEqDiff, Nat.reduceBEq, Nat.reduceAdd, Nat.reduceMul, Nat.reduceLeDiff, g2, g3, g4, hN, hl13, take_len hl13, hl13']
  rw [v_store]
  refine ⟨rfl, hl13, by simp [AV.cells, AV.isCell], _, updH_same _ _ _, by simp [hl13'], ?_⟩
  simp only [go_sem, reduceIte, reduceCtorEq, Nat.reduceEqDiff, Nat.reduceBEq, Nat.reduceAdd, Nat.reduceMul, Nat.reduceLeDiff, hN, g4, placeAll _ _ rfl]
  refine fin_cell 4 5 13 b3 144 _ (by simp [upd_at, hN]) agg144 sz144 (by simp [upd_at, g4]) (updH_same _ _ _) hl13 ⟨_, H, Settle.refl (((hE.upd hH3 _).upd hH3 _).upd hH3 _), ?_, rfl⟩
  simp [upd_at, hok]
end Go.Lift

set_option linter.unusedSimpArgs false
set_option linter.unusedVariables false
namespace Go.Lift
open Go Go.Proofs
def timesUpto (h : House) (m : Int) : Nat → Int
  | 0 => m
  | j + 1 => if 2001 < timesUpto h m j * ((h.touches.getD j default).hi - (h.touches.getD j default).lo + 1) then 2001 else timesUpto h m j * ((h.touches.getD j default).hi - (h.touches.getD j default).lo + 1)
def manyH (h : House) : Int := timesUpto h (manyUpto h.table h.table.pieces.length) h.touches.length
theorem times_bound {h : House} (ht : ∀ x ∈ h.touches, 0 ≤ x.lo ∧ x.lo ≤ x.hi ∧ x.hi ≤ 5) {m : Int} (hm : 0 ≤ m ∧ m ≤ 2001) : ∀ j, j ≤ h.touches.length → 0 ≤ timesUpto h m j ∧ timesUpto h m j ≤ 2001
  | 0, _ => hm
  | j + 1, hj => by
    have ih := times_bound ht hm j (by omega)
    have hlt : j < h.touches.length := by omega
    have hget : h.touches.getD j default = h.touches[j] := by simp [hlt]
    have h1 := ht _ (List.getElem_mem hlt)
    have : 0 ≤ timesUpto h m j * (h.touches[j].hi - h.touches[j].lo + 1) := Int.mul_nonneg ih.1 (by omega)
    simp only [timesUpto, hget]
    split <;> omega
theorem many_c (h : House) (hs : TSm h.table) (htl : Sm h.touches.length) (ht : ∀ x ∈ h.touches, 0 ≤ x.lo ∧ x.lo ≤ x.hi ∧ x.hi ≤ 5) : Pure Tryz.prog 121 [eH h] (i6 (manyH h)) := by
  intro H
  have h1 := hs.women
  have h2 := hs.pieces
  unfold Sm at h1 h2 htl
  refine fn_of hmix fc121 (by simp) ?_
  rw [ienv1]
  simp only [go_sem, reduceIte, reduceCtorEq, Nat.reduceEqDiff, Nat.reduceBEq, Nat.reduceAdd, Nat.reduceMul, Nat.reduceLeDiff, ac121, eH]
  refine v_box _ rfl fun b1 hb1 => ?_
  simp only [go_sem, reduceIte, reduceCtorEq, Nat.reduceEqDiff, Nat.reduceBEq, Nat.reduceAdd, Nat.reduceMul, Nat.reduceLeDiff]
  refine x_for h.table.pieces.length (fun j env H1 => Ext H H1 ∧ H1 b1 = some (.box [.slice (h.table.women.map eW), .slice (h.table.pieces.map eP), i6 h.table.wrong, .slice (eI h.sick), i6 h.others, i6 h.last, .slice (h.touches.map eTo), .slice (h.boiled.map eB), .slice (h.signs.map eS)]) ∧ env 1 = .ptr b1 0 ∧ env 3 = i6 (manyUpto h.table j) ∧ env 13 = .slice (h.table.pieces.map eP) ∧ env 14 = i6 h.table.pieces.length ∧ env 15 = i6 j ∧ env 62 = .any)
    ⟨(Ext.refl H).new hb1 _, updH_same _ _ _, by simp [upd_at], by simp [upd_at, manyUpto], by simp [upd_at], by simp [upd_at], by simp [upd_at], by simp [upd_at]⟩ ?_
  rintro j env H1 hj ⟨hE, hB, g1, g3, g13, g14, g15, hN⟩
  by_cases hlt : (j : Int) < (h.table.pieces.length : Int)
  · have hlt' : j < h.table.pieces.length := by omega
    have hget : h.table.pieces.getD j default = h.table.pieces[j] := by simp [hlt']
    simp only [go_sem, reduceIte, reduceCtorEq, Nat.reduceEqDiff, Nat.reduceBEq, Nat.reduceAdd, Nat.reduceMul, Nat.reduceLeDiff, g1, g3, g13, g14, g15, hN, hlt, map_get (f := eP) hlt', eP]
    refine v_alloc fun b3 hb3 => ?_
    have hne3 : b1 ≠ b3 := fun h => by subst h; rw [hB] at hb3; cases hb3
    simp only [go_sem, reduceIte, reduceCtorEq, Nat.reduceEqDiff, Nat.reduceBEq, Nat.reduceAdd, Nat.reduceMul, Nat.reduceLeDiff, g1, g3, g13, g14, g15, hN]
    rw [v_store]
    refine ⟨rfl, rfl, by simp [AV.cells, AV.isCell], _, updH_same _ _ _, by simp, ?_⟩
    simp only [go_sem, reduceIte, reduceCtorEq, Nat.reduceEqDiff, Nat.reduceBEq, Nat.reduceAdd, Nat.reduceMul, Nat.reduceLeDiff, g1, g3, g13, g14, g15, hN, updH_ne _ _ hne3, hB, placeAt, List.append_nil, List.nil_append, List.drop_nil]
    have hE2 : ∀ o1 o2, Ext H (updH (updH H1 b3 o1) b3 o2) := fun o1 o2 => (hE.new hb3 _).upd (hE.isNone hb3) _
    generalize hwm : h.table.pieces[j].marks = marks
    have hmk : Sm marks.length := by rw [← hwm]; exact hs.marks _ (List.getElem_mem _)
    refine x_for h.table.women.length (fun m env H2 => Ext H H2 ∧ H2 b1 = some (.box [.slice (h.table.women.map eW), .slice (h.table.pieces.map eP), i6 h.table.wrong, .slice (eI h.sick), i6 h.others, i6 h.last, .slice (h.touches.map eTo), .slice (h.boiled.map eB), .slice (h.signs.map eS)]) ∧ H2 b3 = some (.box [.slice (eI marks), i6 h.table.pieces[j].bundle]) ∧ env 1 = .ptr b1 0 ∧ env 3 = i6 (manyUpto h.table j) ∧ env 5 = .ptr b3 0 ∧ env 6 = i6 (womenUpto h.table.women marks m).length ∧ env 13 = .slice (h.table.pieces.map eP) ∧ env 14 = i6 h.table.pieces.length ∧ env 15 = i6 j ∧ env 21 = .slice (h.table.women.map eW) ∧ env 22 = i6 h.table.women.length ∧ env 23 = i6 m ∧ env 62 = .any)
      ⟨hE2 _ _, by rw [updH_ne _ _ hne3, updH_ne _ _ hne3]; exact hB, updH_same _ _ _, by simp [upd_at, g1], by simp [upd_at, g3], by simp [upd_at], by simp [upd_at, womenUpto], by simp [upd_at, g13], by simp [upd_at, g14], by simp [upd_at, g15], by simp [upd_at], by simp [upd_at], by simp [upd_at], by simp [upd_at, hN]⟩ ?_
    clear hE hB hb3 g1 g3 g13 g14 g15 hN hlt hE2 env H1
    rintro m env H1 hm ⟨hE, hB, hB3, g1, g3, g5, g6, g13, g14, g15, g21, g22, g23, hN⟩
    have hwl := womenUpto_len h.table.women marks m
    by_cases hlt : (m : Int) < (h.table.women.length : Int)
    · have hltw : m < h.table.women.length := by omega
      have hgw : h.table.women.getD m default = h.table.women[m] := by simp [hltw]
      simp only [go_sem, reduceIte, reduceCtorEq, Nat.reduceEqDiff, Nat.reduceBEq, Nat.reduceAdd, Nat.reduceMul, Nat.reduceLeDiff, g1, g3, g5, g6, g13, g14, g15, g21, g22, g23, hN, hlt, map_get (f := eW) hltw, eW]
      refine v_alloc fun b4 hb4 => ?_
      have n14 : b1 ≠ b4 := fun h => by subst h; rw [hB] at hb4; cases hb4
      have n34 : b3 ≠ b4 := fun h => by subst h; rw [hB3] at hb4; cases hb4
      simp only [go_sem, reduceIte, reduceCtorEq, Nat.reduceEqDiff, Nat.reduceBEq, Nat.reduceAdd, Nat.reduceMul, Nat.reduceLeDiff, g1, g3, g5, g6, g13, g14, g15, g21, g22, g23, hN]
      rw [v_store]
      refine ⟨rfl, rfl, by simp [AV.cells, AV.isCell], _, updH_same _ _ _, by simp, ?_⟩
      have hE2 : ∀ o1 o2, Ext H (updH (updH H1 b4 o1) b4 o2) := fun o1 o2 => (hE.new hb4 _).upd (hE.isNone hb4) _
      simp only [go_sem, reduceIte, reduceCtorEq, Nat.reduceEqDiff, Nat.reduceBEq, Nat.reduceAdd, Nat.reduceMul, Nat.reduceLeDiff, g1, g3, g5, g6, g13, g14, g15, g21, g22, g23, hN, updH_ne _ _ n14, updH_ne _ _ n34, hB, hB3, placeAt, List.append_nil, List.nil_append, List.drop_nil]
      refine (contains_c marks h.table.women[m].mark hmk).go ?_
      by_cases hin : h.table.women[m].mark ∈ marks
      · simp only [go_sem, reduceIte, reduceCtorEq, Nat.reduceEqDiff, Nat.reduceBEq, Nat.reduceAdd, Nat.reduceMul, Nat.reduceLeDiff, hin, g1, g3, g5, g6, g13, g14, g15, g21, g22, g23, hN, wsucc (show m < 4611686018427387904 by omega), wsucc (show (womenUpto h.table.women marks m).length < 4611686018427387904 by omega), hltw, updH_ne _ _ n14, updH_ne _ _ n34, hB, hB3]
        refine ⟨hE2 _ _, ?_⟩
        rw [womenUpto_succ, hgw, if_pos hin]; simp
      · simp only [go_sem, reduceIte, reduceCtorEq, Nat.reduceEqDiff, Nat.reduceBEq, Nat.reduceAdd, Nat.reduceMul, Nat.reduceLeDiff, hin, g1, g3, g5, g6, g13, g14, g15, g21, g22, g23, hN, wsucc (show m < 4611686018427387904 by omega), hltw, updH_ne _ _ n14, updH_ne _ _ n34, hB, hB3]
        refine ⟨hE2 _ _, ?_⟩
        rw [womenUpto_succ, hgw, if_neg hin]; simp
    · have hm' : m = h.table.women.length := by omega
      subst hm'
      have hmb := many_bound h.table j
      have hmul : 0 ≤ manyUpto h.table j * ((womenOf h.table.women marks).length : Int) ∧ manyUpto h.table j * ((womenOf h.table.women marks).length : Int) ≤ 2001 * 2147483648 := by
        constructor
        · exact Int.mul_nonneg hmb.1 (by omega)
        · refine Int.mul_le_mul hmb.2 ?_ (by omega) (by omega)
          simp only [womenOf]; omega
      have hw := w64 (x := manyUpto h.table j * ((womenOf h.table.women marks).length : Int)) (by omega) (by omega)
      rw [show womenUpto h.table.women marks h.table.women.length = womenOf h.table.women marks from rfl] at g6
      simp only [go_sem, reduceIte, reduceCtorEq, Nat.reduceEqDiff, Nat.reduceBEq, Nat.reduceAdd, Nat.reduceMul, Nat.reduceLeDiff, g1, g3, g5, g6, g13, g14, g15, g21, g22, g23, hN, hlt, hw]
      refine (minimumS_c _ _).go ?_
      simp only [go_sem, reduceIte, reduceCtorEq, Nat.reduceEqDiff, Nat.reduceBEq, Nat.reduceAdd, Nat.reduceMul, Nat.reduceLeDiff, g1, g3, g5, g6, g13, g14, g15, g21, g22, g23, hN, wsucc (show j < 4611686018427387904 by omega), hlt', hB, manyUpto, hget, hwm]
      exact hE
  have hj' : j = h.table.pieces.length := by omega
  subst hj'
  simp only [go_sem, reduceIte, reduceCtorEq, Nat.reduceEqDiff, Nat.reduceBEq, Nat.reduceAdd, Nat.reduceMul, Nat.reduceLeDiff, g1, g3, g13, g14, g15, hN, hlt, hB]
  refine x_for h.touches.length (fun j env H1 => Ext H H1 ∧ H1 b1 = some (.box [.slice (h.table.women.map eW), .slice (h.table.pieces.map eP), i6 h.table.wrong, .slice (eI h.sick), i6 h.others, i6 h.last, .slice (h.touches.map eTo), .slice (h.boiled.map eB), .slice (h.signs.map eS)]) ∧ env 1 = .ptr b1 0 ∧ env 3 = i6 (timesUpto h (manyUpto h.table h.table.pieces.length) j) ∧ env 42 = .slice (h.touches.map eTo) ∧ env 43 = i6 h.touches.length ∧ env 44 = i6 j ∧ env 62 = .any)
    ⟨hE, hB, by simp [upd_at, g1], by simp [upd_at, g3, timesUpto], by simp [upd_at], by simp [upd_at], by simp [upd_at], by simp [upd_at, hN]⟩ ?_
  clear hE hB g1 g3 g13 g14 g15 hN hlt hj env H1
  rintro j env H1 hj ⟨hE, hB, g1, g3, g42, g43, g44, hN⟩
  by_cases hlt : (j : Int) < (h.touches.length : Int)
  · have hlt' : j < h.touches.length := by omega
    have hget : h.touches.getD j default = h.touches[j] := by simp [hlt']
    have hx := ht _ (List.getElem_mem hlt')
    have hb := times_bound ht (many_bound h.table h.table.pieces.length) j hj
    simp only [go_sem, reduceIte, reduceCtorEq, Nat.reduceEqDiff, Nat.reduceBEq, Nat.reduceAdd, Nat.reduceMul, Nat.reduceLeDiff, g1, g3, g42, g43, g44, hN, hlt, map_get (f := eTo) hlt', eTo]
    refine v_alloc fun b3 hb3 => ?_
    have hne3 : b1 ≠ b3 := fun h => by subst h; rw [hB] at hb3; cases hb3
    simp only [go_sem, reduceIte, reduceCtorEq, Nat.reduceEqDiff, Nat.reduceBEq, Nat.reduceAdd, Nat.reduceMul, Nat.reduceLeDiff, g1, g3, g42, g43, g44, hN]
    rw [v_store]
    refine ⟨rfl, rfl, by simp [AV.cells, AV.isCell], _, updH_same _ _ _, by simp, ?_⟩
    have hw1 := w64 (x := h.touches[j].hi - h.touches[j].lo) (by omega) (by omega)
    have hw2 := w64 (x := h.touches[j].hi - h.touches[j].lo + 1) (by omega) (by omega)
    have hmul : 0 ≤ timesUpto h (manyUpto h.table h.table.pieces.length) j * (h.touches[j].hi - h.touches[j].lo + 1) ∧ timesUpto h (manyUpto h.table h.table.pieces.length) j * (h.touches[j].hi - h.touches[j].lo + 1) ≤ 2001 * 6 :=
      ⟨Int.mul_nonneg hb.1 (by omega), Int.mul_le_mul hb.2 (by omega) (by omega) (by omega)⟩
    have hw3 := w64 (x := timesUpto h (manyUpto h.table h.table.pieces.length) j * (h.touches[j].hi - h.touches[j].lo + 1)) (by omega) (by omega)
    simp only [go_sem, reduceIte, reduceCtorEq, Nat.reduceEqDiff, Nat.reduceBEq, Nat.reduceAdd, Nat.reduceMul, Nat.reduceLeDiff, g1, g3, g42, g43, g44, hN, updH_ne _ _ hne3, hB, placeAt, List.append_nil, List.nil_append, List.drop_nil, hw1, hw2, hw3]
    refine (minimumS_c _ _).go ?_
    simp only [go_sem, reduceIte, reduceCtorEq, Nat.reduceEqDiff, Nat.reduceBEq, Nat.reduceAdd, Nat.reduceMul, Nat.reduceLeDiff, g1, g3, g42, g43, g44, hN, wsucc (show j < 4611686018427387904 by omega), hlt', updH_ne _ _ hne3, hB, timesUpto, hget]
    exact (hE.new hb3 _).upd (hE.isNone hb3) _
  · simp only [go_sem, reduceIte, reduceCtorEq, Nat.reduceEqDiff, Nat.reduceBEq, Nat.reduceAdd, Nat.reduceMul, Nat.reduceLeDiff, g1, g3, g42, g43, g44, hN, hlt]
    have : j = h.touches.length := by omega
    subst this
    refine fin_ret 2 (by simp [upd_at, hN]) ⟨_, H, Settle.refl hE, ?_, rfl⟩
    simp [upd_at, manyH]
end Go.Lift

set_option linter.unusedSimpArgs false
set_option linter.unusedVariables false
namespace Go.Lift
open Go Go.Proofs
/-- The heap outside of a footprint. -/
noncomputable def outer (F : Nat → Prop) (H : AHeap) : AHeap := fun x => @ite _ (F x) (Classical.propDecidable _) none (H x)
theorem outer_in {F : Nat → Prop} {H : AHeap} {x : Nat} (h : F x) : outer F H x = none := by simp [outer, h]
theorem outer_out {F : Nat → Prop} {H : AHeap} {x : Nat} (h : ¬ F x) : outer F H x = H x := by simp [outer, h]
theorem outer_none {F : Nat → Prop} {H : AHeap} {x : Nat} (h : outer F H x = none) : F x ∨ H x = none := by
  by_cases hF : F x
  · exact .inl hF
  · rw [outer_out hF] at h; exact .inr h
theorem ext_outer (F : Nat → Prop) (H : AHeap) : Ext (outer F H) H := fun x o h => by
  by_cases hF : F x
  · rw [outer_in hF] at h; cases h
  · rw [outer_out hF] at h; exact h
theorem Ext.kept {F : Nat → Prop} {H H' : AHeap} (e : Ext (outer F H) H') : ∀ x, ¬ F x → (∃ o, H x = some o) → H' x = H x := fun x hF ⟨o, ho⟩ => by
  rw [ho]; exact e x o (by rw [outer_out hF]; exact ho)
theorem Grown.len {sz : Nat} {H0 H : AHeap} {v : AV} {es : List (List AV)} (g : Grown sz H0 H v es) (H' : AHeap) : detV .len [v] H' = some (i6 es.length) := by
  rcases g with ⟨rfl, rfl⟩ | ⟨b, cap, rfl, _⟩ <;> rfl
theorem Grown.idx {sz : Nat} {H0 H : AHeap} {v : AV} {es : List (List AV)} (g : Grown sz H0 H v es) (H' : AHeap) (n : Nat) (i : Int) : detV (.idxaddr n) [v, .int .i64 i] H' = if 0 ≤ i then elemO n es[i.toNat]? else none := by
  rcases g with ⟨rfl, rfl⟩ | ⟨b, cap, rfl, _⟩
  · show (if 0 ≤ i then ([] : List (List AV))[i.toNat]?.bind fun e => if e.length = n then some (.elem e) else none else none) = _
    simp [elemO]
  · exact d_idxaddr_g ..
theorem Grown.cellv {sz : Nat} {H0 H : AHeap} {v : AV} {es : List (List AV)} (g : Grown sz H0 H v es) : v.ok = true ∧ v.cells = [v] ∧ v.isCell = true := by
  rcases g with ⟨rfl, rfl⟩ | ⟨b, cap, rfl, _⟩ <;> exact ⟨rfl, rfl, rfl⟩
theorem Grown.to {sz : Nat} {H0 H1 H : AHeap} {v : AV} {es : List (List AV)} (g : Grown sz H0 H v es) (h : ∀ b cap es', v = .grow b cap es' → H1 b = none) : Grown sz H1 H v es := by
  rcases g with ⟨rfl, rfl⟩ | ⟨b, cap, rfl, h0, h1⟩
  · exact .inl ⟨rfl, rfl⟩
  · exact .inr ⟨b, cap, rfl, h b cap es rfl, h1⟩
theorem Kept.other {sz : Nat} {H0 H H' : AHeap} {v : AV} {es : List (List AV)} (k : Kept H H' v) (g : Grown sz H0 H v es) {b : Nat} {o : AObj} (h : H b = some o) (ho : ∀ n s c, o ≠ .tail n s c) : H' b = some o := by
  refine k b _ h ?_
  rintro b' cap es' rfl rfl
  rcases g with ⟨h1, _⟩ | ⟨b', cap', h1, hb0, hb1⟩
  · cases h1
  · cases h1; rw [h] at hb1; cases hb1; exact ho _ _ _ rfl
theorem v_mapent {P : Program} {R : AV → AHeap → Prop} {H : AHeap} {b : Nat} {x y : Int} {z : AV} {es : List ((Int × Int) × AV)} (hb : H b = some (.map es none))
    (h : ∀ n : Nat, R (.tup [(findKey' (x, y) es).getD z, .int .i64 (n : Int)]) (updH H b (.map (setKey (x, y) ((findKey' (x, y) es).getD z) es) (some (n, (x, y)))))) : aopV P (.mapent z) [.mptr b, .agg [.int .i64 x, .int .i64 y]] H R := by
  simp only [aopV, pairOf, hb]; exact h
theorem v_entstore {P : Program} {R : AV → AHeap → Prop} {H : AHeap} {b n : Nat} {q : Int × Int} {v : AV} {es : List ((Int × Int) × AV)} (hb : H b = some (.map es (some (n, q)))) (h : R .any (updH H b (.map (setKey q v es) none))) :
    aopV P .entstore [.mptr b, .int .i64 (n : Int), v] H R := by
  simp only [aopV, hb]; exact ⟨trivial, h⟩
def lookO (z : AV) (q : Int × Int) : Option AObj → Option AV
  | some (.map es _) => some ((findKey' q es).getD z)
  | _ => none
theorem d_lookup_m {H : AHeap} (z : AV) (b : Nat) (x y : Int) : detV (.lookup z) [.mptr b, .agg [.int .i64 x, .int .i64 y]] H = lookO z (x, y) (H b) := by
  simp only [detV, pairOf, lookO]
  cases H b with
  | none => rfl
  | some o => cases o <;> rfl
theorem look_map (z : AV) (q : Int × Int) (es : List ((Int × Int) × AV)) (st : Option (Nat × (Int × Int))) : lookO z q (some (.map es st)) = some ((findKey' q es).getD z) := _root_.id rfl
theorem eqCells_int : ∀ xs ys : List Int, xs.length = ys.length → eqCells true (xs.map i6) (ys.map i6) = some (decide (xs = ys))
  | [], [], _ => rfl
  | x :: xs, y :: ys, h => by
    have ih := eqCells_int xs ys (by simpa using h)
    simp only [List.map_cons, eqCells, and_self, if_true, ih, Option.map_some, Option.some.injEq]
    by_cases h1 : x = y <;> by_cases h2 : xs = ys <;> simp [h1, h2]

theorem mem_enumO (t : Table) : ∀ (k : Nat) (pre o : List Int), o ∈ enumO t k pre ↔ ∃ suf, o = pre ++ suf ∧ suf.length = k ∧ ∀ i, i < k → suf.getD i 0 ∈ womenOf t.women (t.pieces.getD (pre.length + i) default).marks
  | 0, pre, o => by
    simp only [enumO, List.mem_singleton]
    constructor
    · rintro rfl; exact ⟨[], by simp, rfl, fun i h => by omega⟩
    · rintro ⟨suf, rfl, h, _⟩
      rw [List.length_eq_zero_iff.1 h]; simp
  | k + 1, pre, o => by
    simp only [enumO, List.mem_flatMap]
    constructor
    · rintro ⟨w, hw, ho⟩
      obtain ⟨suf, rfl, hl, hi⟩ := (mem_enumO t k _ o).1 ho
      refine ⟨w :: suf, by simp, by simp [hl], fun i h => ?_⟩
      cases i with
      | zero => simpa using hw
      | succ i =>
        have := hi i (by omega)
        simp only [List.length_append, List.length_singleton] at this
        rw [show pre.length + (i + 1) = pre.length + 1 + i by omega]
        simpa using this
    · rintro ⟨suf, rfl, hl, hi⟩
      cases suf with
      | nil => simp at hl
      | cons w suf =>
        refine ⟨w, by simpa using hi 0 (by omega), (mem_enumO t k _ _).2 ⟨suf, by simp, by simpa using hl, fun i h => ?_⟩⟩
        have := hi (i + 1) (by omega)
        simp only [List.length_append, List.length_singleton]
        rw [show pre.length + 1 + i = pre.length + (i + 1) by omega]
        simpa using this
/-- All owners. -/
def allO (t : Table) : List (List Int) := enumO t t.pieces.length []
theorem mem_allO (t : Table) (o : List Int) : o ∈ allO t ↔ ownersOK t o = true := by
  simp only [allO, mem_enumO, ownersOK, Bool.and_eq_true, decide_eq_true_eq, List.all_eq_true, List.mem_range]
  constructor
  · rintro ⟨suf, rfl, hl, hi⟩
    refine ⟨by simpa using hl, fun i h => ?_⟩
    simpa using hi i (by simpa [hl] using h)
  · rintro ⟨hl, hi⟩
    exact ⟨o, by simp, hl, fun i h => by simpa using hi i (by omega)⟩
theorem enumO_len (t : Table) (hw : t.women.length ≤ 5) : ∀ k pre, (enumO t k pre).length ≤ 5 ^ k
  | 0, pre => by simp [enumO]
  | k + 1, pre => by
    simp only [enumO, List.length_flatMap]
    have h1 := womenUpto_len t.women (t.pieces.getD pre.length default).marks t.women.length
    rw [show womenUpto t.women (t.pieces.getD pre.length default).marks t.women.length = womenOf t.women (t.pieces.getD pre.length default).marks from rfl] at h1
    generalize womenOf t.women (t.pieces.getD pre.length default).marks = l at h1
    have h2 : ∀ l : List Int, (l.map fun w => (enumO t k (pre ++ [w])).length).sum ≤ l.length * 5 ^ k := by
      intro l
      induction l with
      | nil => simp
      | cons w l ih =>
        have := enumO_len t hw k (pre ++ [w])
        simp only [List.map_cons, List.sum_cons, List.length_cons, Nat.add_mul, Nat.one_mul]
        omega
    have h3 := h2 l
    have h4 : l.length * 5 ^ k ≤ 5 * 5 ^ k := Nat.mul_le_mul_right _ (by omega)
    rw [Nat.pow_succ, Nat.mul_comm (5 ^ k) 5]
    omega
theorem allO_len (t : Table) (hc : checkTable t = 0) : (allO t).length ≤ 78125 := by
  obtain ⟨h1, h2⟩ := checkTable_len hc
  have := enumO_len t h1 t.pieces.length []
  have h3 : 5 ^ t.pieces.length ≤ 5 ^ 7 := Nat.pow_le_pow_right (by omega) h2
  simp only [allO]
  omega
theorem pad7_len (o : List Int) (h : o.length ≤ 7) : (pad7 o).length = 7 := padTo_len o o.length (Nat.le_refl _) h
theorem pad7_get (o : List Int) (i : Nat) (h : i < o.length) : (pad7 o).getD i 0 = o.getD i 0 := padTo_get o i h
theorem allO_owner {t : Table} (hp : t.pieces.length ≤ 7) {o : List Int} (ho : o ∈ allO t) : o.length = t.pieces.length ∧ (pad7 o).length = 7 ∧ ∀ i, i < t.pieces.length → ∃ w : Nat, (pad7 o).getD i 0 = (w : Int) ∧ w < t.women.length := by
  obtain ⟨h1, h2⟩ := agg_ok_owners t o ((mem_allO t o).1 ho)
  exact ⟨h1, pad7_len o (by omega), fun i hi => by rw [pad7_get o i (by omega)]; exact womenOf_mem (h2 i hi)⟩

def addTruth (t : Table) (acc : List (List Int)) (o : List Int) : List (List Int) := if t.wrong < ((wrongOf t (pad7 o)).length : Int) ∨ acc.getLast? = some (pad7 o) then acc else acc ++ [pad7 o]
def truthsUpto (t : Table) (s : List (List Int)) : List (List Int) := s.foldl (addTruth t) []
theorem truthsUpto_snoc (t : Table) (s : List (List Int)) (o : List Int) : truthsUpto t (s ++ [o]) = addTruth t (truthsUpto t s) o := by simp [truthsUpto]
def truthsT (t : Table) : List (List Int) := truthsUpto t (allO t)
theorem addTruth_mem (t : Table) (acc : List (List Int)) (o q : List Int) : q ∈ addTruth t acc o ↔ q ∈ acc ∨ (q = pad7 o ∧ ((wrongOf t (pad7 o)).length : Int) ≤ t.wrong) := by
  unfold addTruth
  split
  · rename_i h
    constructor
    · exact .inl
    · rintro (h1 | ⟨rfl, h1⟩)
      · exact h1
      · rcases h with h | h
        · omega
        · exact List.mem_of_getLast? h
  · rename_i h
    simp only [not_or] at h
    simp only [List.mem_append, List.mem_singleton]
    constructor
    · rintro (h1 | rfl)
      · exact .inl h1
      · exact .inr ⟨rfl, by omega⟩
    · rintro (h1 | ⟨rfl, _⟩)
      · exact .inl h1
      · exact .inr rfl
theorem truthsUpto_mem (t : Table) (s : List (List Int)) (q : List Int) : q ∈ truthsUpto t s ↔ ∃ o ∈ s, q = pad7 o ∧ ((wrongOf t (pad7 o)).length : Int) ≤ t.wrong := by
  have : ∀ (s acc : List (List Int)), q ∈ s.foldl (addTruth t) acc ↔ q ∈ acc ∨ ∃ o ∈ s, q = pad7 o ∧ ((wrongOf t (pad7 o)).length : Int) ≤ t.wrong := by
    intro s
    induction s with
    | nil => intro acc; simp
    | cons o s ih =>
      intro acc
      simp only [List.foldl_cons]
      rw [ih, addTruth_mem]
      simp only [List.mem_cons, exists_eq_or_imp, or_assoc]
  simpa [truthsUpto] using this s []
theorem truthsUpto_len (t : Table) (s : List (List Int)) : (truthsUpto t s).length ≤ s.length := by
  have : ∀ (s acc : List (List Int)), (s.foldl (addTruth t) acc).length ≤ acc.length + s.length := by
    intro s
    induction s with
    | nil => intro acc; simp
    | cons o s ih =>
      intro acc
      simp only [List.foldl_cons, List.length_cons]
      refine Nat.le_trans (ih _) ?_
      have : (addTruth t acc o).length ≤ acc.length + 1 := by unfold addTruth; split <;> simp
      omega
  simpa [truthsUpto] using this s []
def eTr (s : List (List Int)) : List (List AV) := s.map fun p => p.map i6
theorem eTr_good {s : List (List Int)} (h : ∀ p ∈ s, p.length = 7) : goodEls 7 (eTr s) := by
  intro e he
  simp only [eTr, List.mem_map] at he
  obtain ⟨p, hp, rfl⟩ := he
  simp [h p hp]
theorem map_i6_cell (p : List Int) : ∀ x ∈ p.map i6, AV.isCell x = true := by
  intro x hx; simp only [List.mem_map] at hx; obtain ⟨n, _, rfl⟩ := hx; rfl
/-- What a map of counts says: how many truths have an owner of a piece, and one more for the first j pieces of p. -/
def CntOK (n : Nat) (es : List ((Int × Int) × AV)) (tr : List (List Int)) (p : List Int) (j : Nat) : Prop :=
  ∀ i : Nat, i < n → ∀ k : Int, (findKey' ((i : Int), k) es).getD (i6 0) = i6 ((tr.countP fun q => decide (q.getD i 0 = k)) + (if i < j ∧ p.getD i 0 = k then 1 else 0) : Nat)
theorem CntOK.next {n : Nat} {es : List ((Int × Int) × AV)} {tr : List (List Int)} {p : List Int} {j : Nat} (hj : j < n) (h : CntOK n es tr p j) (v : AV) :
    CntOK n (setKey ((j : Int), p.getD j 0) (i6 ((tr.countP fun q => decide (q.getD j 0 = p.getD j 0)) + 1 : Nat)) (setKey ((j : Int), p.getD j 0) v es)) tr p (j + 1) := by
  intro i hi k
  rw [findKey_set, findKey_set]
  by_cases hij : i = j
  · subst hij
    by_cases hk : k = p.getD i 0
    · subst hk; simp
    · have h1 : ¬ ((i : Int), k) = ((i : Int), p.getD i 0) := fun h => hk (Prod.mk.inj h).2
      rw [if_neg h1, if_neg h1, h i hi k]
      have : ¬ (p.getD i 0 = k) := fun h => hk h.symm
      simp only [this, and_false, if_false]
  · have h1 : ¬ ((i : Int), k) = ((j : Int), p.getD j 0) := by simp; intro h; omega
    rw [if_neg h1, if_neg h1, h i hi k]
    have : (i < j + 1 ∧ p.getD i 0 = k) ↔ (i < j ∧ p.getD i 0 = k) := by constructor <;> rintro ⟨a, b⟩ <;> exact ⟨by omega, b⟩
    simp only [this]
theorem CntOK.val {n : Nat} {es : List ((Int × Int) × AV)} {tr : List (List Int)} {p : List Int} {j : Nat} (hj : j < n) (h : CntOK n es tr p j) : (findKey' ((j : Int), p.getD j 0) es).getD (i6 0) = i6 (tr.countP fun q => decide (q.getD j 0 = p.getD j 0)) := by
  rw [h j hj]; simp
theorem CntOK.done {n : Nat} {es : List ((Int × Int) × AV)} {tr : List (List Int)} {p : List Int} (h : CntOK n es tr p n) : CntOK n es (tr ++ [p]) [] 0 := by
  intro i hi k
  rw [h i hi k]
  by_cases hk : p.getD i 0 = k <;> simp [hi, hk, List.countP_append, List.countP_cons]
theorem CntOK.start {n : Nat} {es : List ((Int × Int) × AV)} {tr : List (List Int)} (p : List Int) (h : CntOK n es tr [] 0) : CntOK n es tr p 0 := by
  intro i hi k; rw [h i hi k]; simp
end Go.Lift

set_option linter.unusedSimpArgs false
set_option linter.unusedVariables false
namespace Go.Lift
open Go Go.Proofs
/-- What has been taken. -/
structure JA (t : Table) (ga gb : Code) (env0 : Env) (r l b1 b5 bw bm : Nat) (s : List (List Int)) (F : Nat → Prop) (H : AHeap) : Prop where
  dom : ∀ x, F x → ∃ o, H x = some o
  fl : F l
  fr : F r
  f1 : F b1
  f5 : F b5
  fw : F bw
  fm : F bm
  hl : H l = some (.loop .ready none 88 env0 #[19] ga gb r)
  hr : H r = some .deferd
  h1 : H b1 = some (.box [.slice (t.women.map eW), .slice (t.pieces.map eP), i6 t.wrong])
  h5 : H b5 = some (.box [.ptr bw 0])
  rest : ∃ v es, H bw = some (.box [.slice (t.women.map eW), .slice (t.pieces.map eP), i6 t.wrong, v, .mptr bm]) ∧ Grown 7 (fun _ => none) H v (eTr (truthsUpto t s)) ∧ (∀ b cap es', v = .grow b cap es' → F b) ∧
    H bm = some (.map es none) ∧ CntOK t.pieces.length es (truthsUpto t s) [] 0

theorem ask_taker (t : Table) (hs : TSm t) (hc : checkTable t = 0) (env0 : Env) (r l b1 b5 bw bm : Nat) (g1 : env0 1 = .ptr b1 0) (g5 : env0 5 = .ptr b5 0) :
    Taker Tryz.prog (.func (.yield l) [] []) eO (allO t) (JA t (rangeF Tryz.f103).1 (rangeF Tryz.f103).2 env0 r l b1 b5 bw bm) (fun _ _ _ => False) where
  dom := fun s F H J => J.dom
  edom := fun _ _ _ h => h.elim
  stable := fun s F H H' J h => by
    obtain ⟨v, es, k1, k2, k3, k4, k5⟩ := J.rest
    exact ⟨fun x hx => by rw [h x hx]; exact J.dom x hx, J.fl, J.fr, J.f1, J.f5, J.fw, J.fm, (h _ J.fl).trans J.hl, (h _ J.fr).trans J.hr, (h _ J.f1).trans J.h1, (h _ J.f5).trans J.h5, v, es, (h _ J.fw).trans k1,
      (by rcases k2 with ⟨rfl, h2⟩ | ⟨b, cap, rfl, h2, h3⟩
          · exact .inl ⟨rfl, h2⟩
          · exact .inr ⟨b, cap, rfl, rfl, (h b (k3 b _ _ rfl)).trans h3⟩), k3, (h _ J.fm).trans k4, k5⟩
  estable := fun _ _ _ _ h => h.elim
  step := by
    intro s F H o hpre J
    obtain ⟨hw5, hp7⟩ := checkTable_len hc
    have hmem : o ∈ allO t := hpre.subset (by simp)
    obtain ⟨hol, hp, hown⟩ := allO_owner hp7 hmem
    have hsl : s.length ≤ 78125 := by
      have h1 := hpre.length_le; have h2 := allO_len t hc; simp only [List.length_append, List.length_singleton] at h1; omega
    have htl := truthsUpto_len t s
    have htr7 : ∀ q ∈ truthsUpto t s, q.length = 7 := fun q hq => by
      obtain ⟨o', ho', rfl, _⟩ := (truthsUpto_mem t s q).1 hq
      exact (allO_owner hp7 (hpre.subset (by simp [ho']))).2.1
    obtain ⟨v, es, k1, k2, k3, k4, k5⟩ := J.rest
    generalize htr : truthsUpto t s = tr at *
    have hlw : l ≠ bw := fun h => by have := J.hl; rw [h, k1] at this; cases this
    have hl1 : l ≠ b1 := fun h => by have := J.hl; rw [h, J.h1] at this; cases this
    have hl5 : l ≠ b5 := fun h => by have := J.hl; rw [h, J.h5] at this; cases this
    have hlm : l ≠ bm := fun h => by have := J.hl; rw [h, k4] at this; cases this
    have hlr : l ≠ r := fun h => by have := J.hl; rw [h, J.hr] at this; cases this
    have h1w : b1 ≠ bw := fun h => by have := J.h1; rw [h, k1] at this; cases this
    have h5w : b5 ≠ bw := fun h => by have := J.h5; rw [h, k1] at this; cases this
    have hmw : bm ≠ bw := fun h => by have := k4; rw [h, k1] at this; cases this
    have hrw : r ≠ bw := fun h => by have := J.hr; rw [h, k1] at this; cases this
    have hrm : r ≠ bm := fun h => by have := J.hr; rw [h, k4] at this; cases this
    have h1m : b1 ≠ bm := fun h => by have := J.h1; rw [h, k4] at this; cases this
    have h5m : b5 ≠ bm := fun h => by have := J.h5; rw [h, k4] at this; cases this
    have hE0 := ext_outer F H
    have hG0 : Grown 7 (outer F H) H v (eTr tr) := k2.to fun b cap es' h => outer_in (k3 b cap es' h)
    -- how a round ends
    have close : ∀ (H' : AHeap) (v' : AV) (es' : List ((Int × Int) × AV)), Ext (outer F H) H' → H' l = some (.loop .busy none 88 env0 #[19] (rangeF Tryz.f103).1 (rangeF Tryz.f103).2 r) → H' r = some .deferd →
        H' b1 = some (.box [.slice (t.women.map eW), .slice (t.pieces.map eP), i6 t.wrong]) → H' b5 = some (.box [.ptr bw 0]) → H' bw = some (.box [.slice (t.women.map eW), .slice (t.pieces.map eP), i6 t.wrong, v', .mptr bm]) →
        Grown 7 (outer F H) H' v' (eTr (addTruth t tr o)) → H' bm = some (.map es' none) → CntOK t.pieces.length es' (addTruth t tr o) [] 0 →
        ∀ env, rfin 88 l (fun r_1 H_1 => ∃ F', (∀ x, F' x → F x ∨ H x = none) ∧ (∀ x, ¬ F x → (∃ o, H x = some o) → H_1 x = H x) ∧
          ((r_1 = .bool true ∧ JA t (rangeF Tryz.f103).1 (rangeF Tryz.f103).2 env0 r l b1 b5 bw bm (s ++ [o]) F' H_1) ∨ (r_1 = .bool false ∧ False))) .norm env H' := by
      intro H' v' es' e1 e2 e3 e4 e5 e6 e7 e8 e9 env
      refine ⟨_, _, _, _, _, _, _, e2, ?_⟩
      have eE := e1.upd (outer_in J.fl) (.loop .ready none 88 env0 #[19] (rangeF Tryz.f103).1 (rangeF Tryz.f103).2 r)
      refine ⟨fun x => (F x ∨ H x = none) ∧ ∃ o, updH H' l (.loop .ready none 88 env0 #[19] (rangeF Tryz.f103).1 (rangeF Tryz.f103).2 r) x = some o, fun x h => h.1, eE.kept, .inl ⟨rfl, ?_⟩⟩
      have m1 : updH H' l (.loop .ready none 88 env0 #[19] (rangeF Tryz.f103).1 (rangeF Tryz.f103).2 r) l = _ := updH_same _ _ _
      have m2 := (updH_ne H' (.loop .ready none 88 env0 #[19] (rangeF Tryz.f103).1 (rangeF Tryz.f103).2 r) hlr.symm).trans e3
      have m3 := (updH_ne H' (.loop .ready none 88 env0 #[19] (rangeF Tryz.f103).1 (rangeF Tryz.f103).2 r) hl1.symm).trans e4
      have m4 := (updH_ne H' (.loop .ready none 88 env0 #[19] (rangeF Tryz.f103).1 (rangeF Tryz.f103).2 r) hl5.symm).trans e5
      have m5 := (updH_ne H' (.loop .ready none 88 env0 #[19] (rangeF Tryz.f103).1 (rangeF Tryz.f103).2 r) hlw.symm).trans e6
      have m6 := (updH_ne H' (.loop .ready none 88 env0 #[19] (rangeF Tryz.f103).1 (rangeF Tryz.f103).2 r) hlm.symm).trans e8
      have m7 : Grown 7 (outer F H) (updH H' l (.loop .ready none 88 env0 #[19] (rangeF Tryz.f103).1 (rangeF Tryz.f103).2 r)) v' (eTr (addTruth t tr o)) := e7.of fun b n sz cap hb => by
        rw [updH_ne _ _ (fun h => by rw [h, e2] at hb; cases hb)]; exact hb
      refine ⟨fun x h => h.2, ⟨.inl J.fl, _, m1⟩, ⟨.inl J.fr, _, m2⟩, ⟨.inl J.f1, _, m3⟩, ⟨.inl J.f5, _, m4⟩, ⟨.inl J.fw, _, m5⟩, ⟨.inl J.fm, _, m6⟩, m1, m2, m3, m4, v', es', m5, ?_, ?_, m6, ?_⟩
      · rw [truthsUpto_snoc, htr]; exact m7.to fun _ _ _ _ => rfl
      · rintro b cap es'' rfl
        rcases m7 with ⟨h, _⟩ | ⟨b', cap', h, h0, h2⟩
        · cases h
        · cases h; exact ⟨outer_none h0, _, h2⟩
      · rw [truthsUpto_snoc, htr]; exact e9
    refine yield_of hmix cert103 J.hl rfl (by decide) tga103 tgb103 ?_
    simp only [setPs]
    have hp' : ((pad7 o).map i6).length = 7 := by simp [hp]
    simp only [go_sem, reduceIte, reduceCtorEq, Nat.reduceEqDiff, Nat.reduceBEq, Nat.reduceAdd, Nat.reduceMul, Nat.reduceLeDiff, aga103]
    refine v_alloc fun b6 hb6 => ?_
    simp only [go_sem, reduceIte, reduceCtorEq, Nat.reduceEqDiff, Nat.reduceBEq, Nat.reduceAdd, Nat.reduceMul, Nat.reduceLeDiff]
    rw [v_store]
    refine ⟨rfl, hp', map_i6_cell _, _, updH_same _ _ _, by simp, ?_⟩
    have n6 : ∀ {x o}, H x = some o → x ≠ b6 := fun hx h => by subst h; rw [hx] at hb6; cases hb6
    rw [show (eO o).cells = (pad7 o).map i6 from rfl, placeAll _ _ (by rw [hp']; rfl)]
    simp only [go_sem, reduceIte, reduceCtorEq, Nat.reduceEqDiff, Nat.reduceBEq, Nat.reduceAdd, Nat.reduceMul, Nat.reduceLeDiff]
    refine ⟨none, env0, _, _, _, r, by rw [updH_ne _ _ (n6 J.hl), updH_ne _ _ (n6 J.hl)]; exact J.hl, ?_⟩
    generalize hHH : updH (updH (updH H b6 (.box [AV.int .i64 0, AV.int .i64 0, AV.int .i64 0, AV.int .i64 0, AV.int .i64 0, AV.int .i64 0, AV.int .i64 0])) b6 (.box ((pad7 o).map i6))) l (.loop .busy none 88 env0 #[19] (rangeF Tryz.f103).1 (rangeF Tryz.f103).2 r) = HH
    have q1 : ∀ x o, x ≠ l → H x = some o → HH x = some o := fun x o hx h => by subst hHH; rw [updH_ne _ _ hx, updH_ne _ _ (n6 h), updH_ne _ _ (n6 h)]; exact h
    have q2 : HH l = some (.loop .busy none 88 env0 #[19] (rangeF Tryz.f103).1 (rangeF Tryz.f103).2 r) := by subst hHH; exact updH_same _ _ _
    have q6 : HH b6 = some (.box ((pad7 o).map i6)) := by subst hHH; rw [updH_ne _ _ (n6 J.hl).symm]; exact updH_same _ _ _
    have hEH : Ext (outer F H) HH := by subst hHH; exact ((hE0.new hb6 _).upd (hE0.isNone hb6) _).upd (outer_in J.fl) _
    have hB1 := q1 _ _ hl1.symm J.h1
    have hB5 := q1 _ _ hl5.symm J.h5
    have hBw := q1 _ _ hlw.symm k1
    have hBm := q1 _ _ hlm.symm k4
    have hBr := q1 _ _ hlr.symm J.hr
    have hGH : Grown 7 (outer F H) HH v (eTr tr) := hG0.of fun b n sz cap hb => q1 _ _ (fun h => by rw [h, J.hl] at hb; cases hb) hb
    clear hHH q1
    have hetl : (eTr tr).length = tr.length := by simp [eTr]
    have hlenv : ∀ H', detV .len [v] H' = some (i6 tr.length) := fun H' => by rw [hG0.len H', hetl]
    simp only [go_sem, reduceIte, reduceCtorEq, Nat.reduceEqDiff, Nat.reduceBEq, Nat.reduceAdd, Nat.reduceMul, Nat.reduceLeDiff, agb103, g1, g5, hB1, hB5, q6, hp', take_len hp', hp]
    refine pgo_call (wrong_c t (pad7 o) hs hp hp7 hown) ?_
    simp only [go_sem, reduceIte, reduceCtorEq, Nat.reduceEqDiff, Nat.reduceBEq, Nat.reduceAdd, Nat.reduceMul, Nat.reduceLeDiff, g1, hB1, take_f', List.getElem?_cons_zero, List.drop_succ_cons, List.drop_zero]
    by_cases c1 : t.wrong < ((wrongOf t (pad7 o)).length : Int)
    · simp only [go_sem, reduceIte, reduceCtorEq, Nat.reduceEqDiff, Nat.reduceBEq, Nat.reduceAdd, Nat.reduceMul, Nat.reduceLeDiff, c1, and_self, decide_true, decide_false, Bool.or_true, Bool.true_or, Bool.true_and, Bool.and_true, Bool.or_false, Bool.false_or, Bool.not_false, Bool.not_true, Bool.and_false, Bool.false_and, not_true_eq_false, not_false_eq_true, if_true, if_false, reduceIte, Bool.false_eq_true, eq_self, true_and, and_true]
      exact close HH v es hEH q2 hBr hB1 hB5 hBw (by rw [addTruth, if_pos (.inl c1)]; exact hGH) hBm (by rw [addTruth, if_pos (.inl c1)]; exact k5) _
    by_cases c2 : (0 : Int) < (tr.length : Int)
    have hm : tr.length - 1 < tr.length := by omega
    have hlast : tr.getLast? = some tr[tr.length - 1] := by rw [List.getLast?_eq_getElem?]; simp [hm]
    have hl7 : tr[tr.length - 1].length = 7 := htr7 _ (List.getElem_mem hm)
    have hidx : ∀ H', detV (.idxaddr 7) [v, .int .i64 ((tr.length - 1 : Nat) : Int)] H' = some (.elem (tr[tr.length - 1].map i6)) := fun H' => by
      rw [hG0.idx, if_pos (by omega), Int.toNat_natCast, eTr, map_get (f := fun p : List Int => p.map i6) hm, elemO_some, if_pos (by simp [hl7])]
    have heq := eqCells_int tr[tr.length - 1] (pad7 o) (by rw [hl7, hp])
    have hwp := wpred (show tr.length < 4611686018427387904 by omega) (show 0 < tr.length by omega)
    have hl7' : (tr[tr.length - 1].map i6).length = 7 := by simp [hl7]
    by_cases c3 : tr[tr.length - 1] = pad7 o
    · have heq' := eqCells_int (pad7 o) (pad7 o) rfl
      simp only [go_sem, reduceIte, reduceCtorEq, Nat.reduceEqDiff, Nat.reduceBEq, Nat.reduceAdd, Nat.reduceMul, Nat.reduceLeDiff, heq', c1, g1, g5, hB1, hB5, hBw, q6, hp', take_len hp', hp, take_f', drop_at, List.getElem?_cons_zero, List.getElem?_cons_succ, hlenv, c2, hwp, hidx, hl7, hl7', take_len hl7', heq, c3, Option.map_some]
      have hc : t.wrong < ((wrongOf t (pad7 o)).length : Int) ∨ tr.getLast? = some (pad7 o) := .inr (by rw [hlast, c3])
      exact close HH v es hEH q2 hBr hB1 hB5 hBw (by rw [addTruth, if_pos hc]; exact hGH) hBm (by rw [addTruth, if_pos hc]; exact k5) _
    have hadd : addTruth t tr o = tr ++ [pad7 o] := by
      rw [addTruth, if_neg]
      rintro (h | h)
      · exact c1 h
      · rw [hlast] at h; exact c3 (Option.some.inj h)
    simp only [go_sem, reduceIte, reduceCtorEq, Nat.reduceEqDiff, Nat.reduceBEq, Nat.reduceAdd, Nat.reduceMul, Nat.reduceLeDiff, c1, g1, g5, hB1, hB5, hBw, q6, hp', take_len hp', hp, take_f', drop_at, List.getElem?_cons_zero, List.getElem?_cons_succ, hlenv, c2, hwp, hidx, hl7, hl7', take_len hl7', heq, c3, Option.map_some, go_sem]
    rotate_left
    have hadd : addTruth t tr o = tr ++ [pad7 o] := by
      have : tr = [] := List.length_eq_zero_iff.1 (by omega)
      rw [addTruth, if_neg]
      rintro (h | h)
      · exact c1 h
      · rw [this] at h; simp at h
    simp only [go_sem, reduceIte, reduceCtorEq, Nat.reduceEqDiff, Nat.reduceBEq, Nat.reduceAdd, Nat.reduceMul, Nat.reduceLeDiff, c1, g1, g5, hB1, hB5, hBw, q6, hp', take_len hp', hp, take_f', drop_at, List.getElem?_cons_zero, List.getElem?_cons_succ, hlenv, c2, Option.map_some, go_sem]
    all_goals
      refine v_append hGH hEH rfl (eTr_good htr7) (by intro e he; simp at he; subst he; exact hp') (by intro e he; simp at he; subst he; exact map_i6_cell _) (by simp [hetl]; omega) (by simp [hetl]; omega) ?_
      intro v' H2 hg' he' hk'
      have B1 := hk'.box hGH hB1
      have B5 := hk'.box hGH hB5
      have Bw := hk'.box hGH hBw
      have B6 := hk'.box hGH q6
      have Bm := hk'.other hGH hBm (by intros; simp)
      have Br := hk'.other hGH hBr (by intros; simp)
      have Bl := hk'.other hGH q2 (by intros; simp)
      have nw6 : b6 ≠ bw := (n6 k1).symm
      have h56 : b5 ≠ b6 := n6 J.h5
      have h6m : b6 ≠ bm := (n6 k4).symm
      simp only [go_sem, reduceIte, reduceCtorEq, Nat.reduceEqDiff, Nat.reduceBEq, Nat.reduceAdd, Nat.reduceMul, Nat.reduceLeDiff, g1, g5, B1, B5, Bw, take_f', drop_at, List.getElem?_cons_zero, List.getElem?_cons_succ]
      rw [v_store]
      refine ⟨hg'.cellv.1, by rw [hg'.cellv.2.1]; rfl, by rw [hg'.cellv.2.1]; intro y hy; simp at hy; subst hy; exact hg'.cellv.2.2, _, Bw, by simp, ?_⟩
      rw [hg'.cellv.2.1, show placeAt [.slice (t.women.map eW), .slice (t.pieces.map eP), i6 t.wrong, v, .mptr bm] (0 + 3) [v'] = [.slice (t.women.map eW), .slice (t.pieces.map eP), i6 t.wrong, v', .mptr bm] from rfl]
      have hg2 : Grown 7 (outer F H) (updH H2 bw (.box [.slice (t.women.map eW), .slice (t.pieces.map eP), i6 t.wrong, v', .mptr bm])) v' (eTr (tr ++ [pad7 o])) := by
        rw [show eTr (tr ++ [pad7 o]) = eTr tr ++ [(pad7 o).map i6] by simp [eTr]]; exact hg'.store Bw _
      have hE2 := he'.upd (outer_in J.fw) (.box [.slice (t.women.map eW), .slice (t.pieces.map eP), i6 t.wrong, v', .mptr bm])
      simp only [go_sem, reduceIte, reduceCtorEq, Nat.reduceEqDiff, Nat.reduceBEq, Nat.reduceAdd, Nat.reduceMul, Nat.reduceLeDiff, g1, g5, updH_ne _ _ h1w, updH_ne _ _ h5w, B1, B5, take_f', drop_at, List.getElem?_cons_zero, List.getElem?_cons_succ]
      refine x_for t.pieces.length (fun j env H1 => Ext (outer F H) H1 ∧ H1 l = some (.loop .busy none 88 env0 #[19] (rangeF Tryz.f103).1 (rangeF Tryz.f103).2 r) ∧ H1 r = some .deferd ∧ H1 b1 = some (.box [.slice (t.women.map eW), .slice (t.pieces.map eP), i6 t.wrong]) ∧ H1 b5 = some (.box [.ptr bw 0]) ∧
          H1 bw = some (.box [.slice (t.women.map eW), .slice (t.pieces.map eP), i6 t.wrong, v', .mptr bm]) ∧ H1 b6 = some (.box ((pad7 o).map i6)) ∧ Grown 7 (outer F H) H1 v' (eTr (tr ++ [pad7 o])) ∧ (∃ es', H1 bm = some (.map es' none) ∧ CntOK t.pieces.length es' tr (pad7 o) j) ∧
          env 5 = .ptr b5 0 ∧ env 6 = .ptr b6 0 ∧ env 63 = i6 t.pieces.length ∧ env 64 = i6 j)
        ⟨hE2, by rw [updH_ne _ _ hlw]; exact Bl, by rw [updH_ne _ _ hrw]; exact Br, by rw [updH_ne _ _ h1w]; exact B1, by rw [updH_ne _ _ h5w]; exact B5, updH_same _ _ _, by rw [updH_ne _ _ nw6]; exact B6, hg2, ⟨es, by rw [updH_ne _ _ hmw]; exact Bm, k5.start _⟩, by simp [upd_at, g5], by simp [upd_at], by simp [upd_at], by simp [upd_at]⟩ ?_
      clear hE2 hg2 Bl Br B1 B5 Bw B6 Bm hk' he' hg' H2
      rintro j env H2 hj ⟨hE2, Bl, Br, B1, B5, Bw, B6, hg', ⟨es', Bm, hcnt⟩, f5, f6, f63, f64⟩
      by_cases hlt : (j : Int) < (t.pieces.length : Int)
      · have hlt' : j < t.pieces.length := by omega
        have hval := hcnt.val hlt'
        have hcl : (tr.countP fun q => decide (q.getD j 0 = (pad7 o).getD j 0)) ≤ tr.length := List.countP_le_length
        generalize hcc : (tr.countP fun q => decide (q.getD j 0 = (pad7 o).getD j 0)) = cc at hval hcl
        have hnext := fun v => hcnt.next hlt' v
        rw [hcc] at hnext
        have hget := iget (show j < (pad7 o).length by omega)
        simp only [go_sem, reduceIte, reduceCtorEq, Nat.reduceEqDiff, Nat.reduceBEq, Nat.reduceAdd, Nat.reduceMul, Nat.reduceLeDiff, f5, f6, f63, f64, hlt, B5, Bw, B6, hp', hp, take_f', drop_at, List.getElem?_cons_zero, List.getElem?_cons_succ, show (j : Int) < ((7 : Nat) : Int) by omega, Nat.mul_one, show j ≤ 7 by omega, hget, bc2, Option.map_some, d_lookup_m, Bm, look_map, hval, wsucc (show cc < 4611686018427387904 by omega)]
        refine v_mapent Bm fun n => ?_
        simp only [go_sem, reduceIte, reduceCtorEq, Nat.reduceEqDiff, Nat.reduceBEq, Nat.reduceAdd, Nat.reduceMul, Nat.reduceLeDiff, d_lookup_m, look_map, updH_same, findKey_set, if_true, Option.getD_some, hval, List.getElem?_cons_zero, List.getElem?_cons_succ]
        refine v_entstore (updH_same _ _ _) ?_
        simp only [go_sem, reduceIte, reduceCtorEq, Nat.reduceEqDiff, Nat.reduceBEq, Nat.reduceAdd, Nat.reduceMul, Nat.reduceLeDiff, f5, f6, f63, f64, wsucc (show j < 4611686018427387904 by omega), hlt', updH_ne _ _ hlm, updH_ne _ _ hrm, updH_ne _ _ h1m, updH_ne _ _ h5m, updH_ne _ _ hmw.symm, updH_ne _ _ h6m, Bl, Br, B1, B5, Bw, B6]
        refine ⟨(hE2.upd (outer_in J.fm) _).upd (outer_in J.fm) _, ?_, _, rfl, hnext _⟩
        refine hg'.of fun b n sz cap hb => ?_
        have : b ≠ bm := fun h => by rw [h, Bm] at hb; cases hb
        rw [updH_ne _ _ this, updH_ne _ _ this]; exact hb
      · have hj' : j = t.pieces.length := by omega
        subst hj'
        simp only [go_sem, reduceIte, reduceCtorEq, Nat.reduceEqDiff, Nat.reduceBEq, Nat.reduceAdd, Nat.reduceMul, Nat.reduceLeDiff, f5, f6, f63, f64, hlt]
        refine close H2 v' es' hE2 Bl Br B1 B5 Bw (by rw [hadd]; exact hg') Bm (by rw [hadd]; exact hcnt.done) _
end Go.Lift

set_option linter.unusedSimpArgs false
set_option linter.unusedVariables false
namespace Go.Lift
open Go Go.Proofs
theorem x_range {P : Program} {N : Nat} {Q : AEx → Env → AHeap → Prop} {env : Env} {H : AHeap} (g : Opd) (ps : Array Tmp) (ga gb : Code) : aexec P N (.range g ps ga gb) Q env H = arange P N g ps ga gb Q env H := _root_.id rfl
theorem fin_def2 {P : Program} {N : Nat} {env : Env} {H : AHeap} (t s r : Nat) (hN : env N = .ptr r 0) (hr : H r = some .deferd) {Rr : AV → AHeap → Prop} (h : ∃ r' H2, Settle (delH H r) (.tup [env t, env s]) H2 r' ∧ Rr r' H2) : fin P [.tmp t, .tmp s] N Rr .ret env H := by
  obtain ⟨r', H2, h1, h2⟩ := h
  exact ⟨delH H r, .inr ⟨r, hN, hr, rfl⟩, _, rfl, r', H2, h1, h2⟩
theorem rep_elem' {H1 H2 : AHeap} {w : World} {v : Value} {b : Nat} {cs cs' : List AV} (hH : HRel H1 w) (hb : H1 b = some (.box cs)) (hn : H2 b = none) (hl : cs'.length = cs.length)
    (hcs : ∀ (i : Nat) (x x' : AV), cs[i]? = some x → cs'[i]? = some x' → ∀ u, Rep H1 w u x → Rep H2 w u x') (hr : Rep H1 w v (.ptr b 0)) : Rep H2 w v (.elem cs') := by
  obtain ⟨b', off', hv, vs, hvs⟩ := cellsAt_rep hH hr (at_ptr hb (Nat.zero_le _))
  cases hr
  cases hv
  refine Rep.elem b 0 cs' vs (fun j hj => ?_) (fun j x hx => ?_)
  · have := (hvs j cs[j] (by simp [show j < cs.length by omega])).1
    exact ⟨.inl hn, this⟩
  · have hj : j < cs.length := by
      rcases Nat.lt_or_ge j cs.length with h | h
      · exact h
      · rw [List.getElem?_eq_none (by omega)] at hx; cases hx
    exact hcs j cs[j] x (by simp [hj]) hx _ ((hvs j cs[j] (by simp [hj])).2)
theorem settle_tup {H1 H2 : AHeap} {x x' : AV} {n : Int} (e : Ext H2 H1) (h : ∀ w v, HRel H1 w → Rep H1 w v x → Rep H2 w v x') : Settle H1 (.tup [x, i6 n]) H2 (.tup [x', i6 n]) := by
  refine ⟨e, fun w v hH hr => ?_⟩
  cases hr with
  | tup arr cs hs hx =>
    refine .tup arr _ (by simpa using hs) (fun i y hi => ?_)
    match i, hi with
    | 0, hi => cases hi; exact h w _ hH (hx 0 _ rfl)
    | 1, hi => cases hi; exact (hx 1 _ rfl).mono (Evolve.drop e)
def wCells (t : Table) (tr : List (List Int)) (es : List ((Int × Int) × AV)) : List AV := [.slice (t.women.map eW), .slice (t.pieces.map eP), i6 t.wrong, .slice (eTr tr), .amap es]
def askErr (t : Table) : Int := if checkTable t = 0 then (if truthsT t = [] then 11 else 0) else checkTable t
theorem bc103 (a b c : AV) (m : Nat) : buildCells [.emp, .emp, .int .i64 0, .emp, .any] [(0, 3), (3, 1), (4, 1)] [.agg [a, b, c], .emp, .mptr m] = some [a, b, c, .emp, .mptr m] := by
  simp [buildCells, placeAt, AV.ok, AV.cells]
theorem asked_c (t : Table) (hs : TSm t) (H : AHeap) : ACalls Tryz.prog 103 [eT t] H fun r H' => H' = H ∧ ((askErr t ≠ 0 ∧ r = .tup [.nilp, i6 (askErr t)]) ∨
    (askErr t = 0 ∧ ∃ es, CntOK t.pieces.length es (truthsT t) [] 0 ∧ r = .tup [.elem (wCells t (truthsT t) es), i6 0])) := by
  refine fn_of hmix fc103 (by simp) ?_
  rw [ienv1]
  simp only [go_sem, reduceIte, reduceCtorEq, Nat.reduceEqDiff, Nat.reduceBEq, Nat.reduceAdd, Nat.reduceMul, Nat.reduceLeDiff, ac103, eT]
  refine v_box _ rfl fun b1 hb1 => ?_
  simp only [go_sem, reduceIte, reduceCtorEq, Nat.reduceEqDiff, Nat.reduceBEq, Nat.reduceAdd, Nat.reduceMul, Nat.reduceLeDiff]
  refine (checkTable_c t hs).go ?_
  by_cases c1 : checkTable t = 0
  rotate_left
  · simp only [go_sem, reduceIte, reduceCtorEq, Nat.reduceEqDiff, Nat.reduceBEq, Nat.reduceAdd, Nat.reduceMul, Nat.reduceLeDiff, c1]
    refine fin_ret2 2 3 (by simp [upd_at]) ⟨_, H, Settle.refl ((Ext.refl H).new hb1 _), rfl, .inl ⟨by simp [askErr, c1], ?_⟩⟩
    simp [upd_at, askErr, c1]
  obtain ⟨hw5, hp7⟩ := checkTable_len c1
  simp only [go_sem, reduceIte, reduceCtorEq, Nat.reduceEqDiff, Nat.reduceBEq, Nat.reduceAdd, Nat.reduceMul, Nat.reduceLeDiff, c1]
  refine v_mkmap fun bm hbm => ?_
  have n1m : b1 ≠ bm := fun h => by subst h; simp at hbm
  simp only [go_sem, reduceIte, reduceCtorEq, Nat.reduceEqDiff, Nat.reduceBEq, Nat.reduceAdd, Nat.reduceMul, Nat.reduceLeDiff, bc103, Option.map_some]
  refine v_box _ rfl fun bw hbw => ?_
  have n1w : b1 ≠ bw := fun h => by subst h; simp [updH, n1m] at hbw
  have nmw : bm ≠ bw := fun h => by subst h; simp at hbw
  simp only [go_sem, reduceIte, reduceCtorEq, Nat.reduceEqDiff, Nat.reduceBEq, Nat.reduceAdd, Nat.reduceMul, Nat.reduceLeDiff]
  refine v_alloc fun b5 hb5 => ?_
  have n15 : b1 ≠ b5 := fun h => by subst h; simp [updH, n1m, n1w] at hb5
  have nm5 : bm ≠ b5 := fun h => by subst h; simp [updH, nmw] at hb5
  have nw5 : bw ≠ b5 := fun h => by subst h; simp at hb5
  simp only [go_sem, reduceIte, reduceCtorEq, Nat.reduceEqDiff, Nat.reduceBEq, Nat.reduceAdd, Nat.reduceMul, Nat.reduceLeDiff]
  rw [v_store]
  refine ⟨rfl, rfl, by simp [AV.cells, AV.isCell], _, updH_same _ _ _, by simp, ?_⟩
  rw [show (AV.ptr bw 0).cells = [.ptr bw 0] from rfl, placeAll [.nilp] [.ptr bw 0] rfl]
  simp only [go_sem, reduceIte, reduceCtorEq, Nat.reduceEqDiff, Nat.reduceBEq, Nat.reduceAdd, Nat.reduceMul, Nat.reduceLeDiff, updH_ne _ _ n1m, updH_ne _ _ n1w, updH_ne _ _ n15]
  have z1 : H b1 = none := hb1
  have e1 := (Ext.refl H).new hb1 (.box [.slice (t.women.map eW), .slice (t.pieces.map eP), i6 t.wrong])
  have zm : H bm = none := e1.isNone hbm
  have e2 := e1.new hbm (.map [] none)
  have zw : H bw = none := e2.isNone hbw
  have e3 := e2.new hbw (.box [.slice (t.women.map eW), .slice (t.pieces.map eP), i6 t.wrong, .emp, .mptr bm])
  have z5 : H b5 = none := e3.isNone hb5
  have e5 := (e3.new hb5 (.box [.nilp])).upd z5 (.box [.ptr bw 0])
  refine (lists_c t).go ?_
  simp only [go_sem, reduceIte, reduceCtorEq, Nat.reduceEqDiff, Nat.reduceBEq, Nat.reduceAdd, Nat.reduceMul, Nat.reduceLeDiff, x_range]
  generalize hHH : updH (updH (updH (updH (updH H b1 (.box [.slice (t.women.map eW), .slice (t.pieces.map eP), i6 t.wrong])) bm (.map [] none)) bw (.box [.slice (t.women.map eW), .slice (t.pieces.map eP), i6 t.wrong, .emp, .mptr bm])) b5 (.box [.nilp])) b5 (.box [.ptr bw 0]) = HH at e5 ⊢
  have B1 : HH b1 = some (.box [.slice (t.women.map eW), .slice (t.pieces.map eP), i6 t.wrong]) := by subst hHH; simp [updH, n1m, n1w, n15]
  have Bm : HH bm = some (.map [] none) := by subst hHH; simp [updH, nmw, nm5]
  have Bw : HH bw = some (.box [.slice (t.women.map eW), .slice (t.pieces.map eP), i6 t.wrong, .emp, .mptr bm]) := by subst hHH; simp [updH, nw5]
  have B5 : HH b5 = some (.box [.ptr bw 0]) := by subst hHH; simp [updH]
  clear hHH
  refine ⟨by simp [upd_at], 165, [], [.elem (tCells t)], by simp [upd_at, ev], fun r l hr hl hlr => ?_⟩
  have n1r : b1 ≠ r := fun h => by subst h; rw [B1] at hr; cases hr
  have nmr : bm ≠ r := fun h => by subst h; rw [Bm] at hr; cases hr
  have nwr : bw ≠ r := fun h => by subst h; rw [Bw] at hr; cases hr
  have n5r : b5 ≠ r := fun h => by subst h; rw [B5] at hr; cases hr
  have n1l : b1 ≠ l := fun h => by subst h; rw [B1] at hl; cases hl
  have nml : bm ≠ l := fun h => by subst h; rw [Bm] at hl; cases hl
  have nwl : bw ≠ l := fun h => by subst h; rw [Bw] at hl; cases hl
  have n5l : b5 ≠ l := fun h => by subst h; rw [B5] at hl; cases hl
  have zr : H r = none := e5.isNone hr
  have zl : H l = none := e5.isNone hl
  generalize henv : upd (upd _ _ _) 18 _ = env0
  have g1 : env0 1 = .ptr b1 0 := by subst henv; simp [upd_at]
  have g5 : env0 5 = .ptr b5 0 := by subst henv; simp [upd_at]
  have J0 : JA t (rangeF Tryz.f103).1 (rangeF Tryz.f103).2 env0 r l b1 b5 bw bm [] (fun x => x = l ∨ x = r ∨ x = b1 ∨ x = b5 ∨ x = bw ∨ x = bm) (updH (updH HH r .deferd) l (.loop .ready none 88 env0 #[19] (rangeF Tryz.f103).1 (rangeF Tryz.f103).2 r)) := by
    have m1 := (updH_ne (updH HH r .deferd) (.loop .ready none 88 env0 #[19] (rangeF Tryz.f103).1 (rangeF Tryz.f103).2 r) hlr.symm).trans (updH_same HH r .deferd)
    have m2 : ∀ x, x ≠ l → x ≠ r → updH (updH HH r .deferd) l (.loop .ready none 88 env0 #[19] (rangeF Tryz.f103).1 (rangeF Tryz.f103).2 r) x = HH x := fun x h1 h2 => by rw [updH_ne _ _ h1, updH_ne _ _ h2]
    refine ⟨?_, .inl rfl, .inr (.inl rfl), .inr (.inr (.inl rfl)), .inr (.inr (.inr (.inl rfl))), .inr (.inr (.inr (.inr (.inl rfl)))), .inr (.inr (.inr (.inr (.inr rfl)))), updH_same _ _ _, m1, (m2 _ n1l n1r).trans B1, (m2 _ n5l n5r).trans B5, .emp, [], (m2 _ nwl nwr).trans Bw, .inl ⟨rfl, rfl⟩, (by intro b cap es' h; cases h), (m2 _ nml nmr).trans Bm, ?_⟩
    · rintro x (rfl | rfl | rfl | rfl | rfl | rfl)
      · exact ⟨_, updH_same _ _ _⟩
      · exact ⟨_, m1⟩
      · exact ⟨_, (m2 _ n1l n1r).trans B1⟩
      · exact ⟨_, (m2 _ n5l n5r).trans B5⟩
      · exact ⟨_, (m2 _ nwl nwr).trans Bw⟩
      · exact ⟨_, (m2 _ nml nmr).trans Bm⟩
    · intro i hi k; simp [findKey', truthsUpto]
  have hcall := listsGo_c t hs hp7 (ask_taker t hs c1 env0 r l b1 b5 bw bm g1 g5) _ _ J0
  refine hcall.mono ?_
  rintro _ H2 ⟨rfl, F', hF, hkeep, hcase⟩
  rcases hcase with J | ⟨l1, l2, _, hf⟩
  rotate_left
  · exact hf.elim
  refine ⟨_, _, _, _, _, _, _, J.hl, by simp, .norm, rfl, ?_⟩
  have hFn : ∀ x, F' x → H x = none := fun x hx => by
    rcases hF x hx with h | h
    · rcases h with rfl | rfl | rfl | rfl | rfl | rfl <;> assumption
    · have h1 : x ≠ l := fun h' => by rw [h', updH_same] at h; cases h
      rw [updH_ne _ _ h1] at h
      have h2 : x ≠ r := fun h' => by rw [h', updH_same] at h; cases h
      rw [updH_ne _ _ h2] at h
      exact e5.isNone h
  have hExt : ∀ x o, H x = some o → H2 x = some o := fun x o hx => by
    have hne : ∀ y, H y = none → x ≠ y := fun y hy h => by rw [h, hy] at hx; cases hx
    rw [hkeep x (by rintro (h | h | h | h | h | h) <;> exact hne _ (by assumption) h) ⟨o, by rw [updH_ne _ _ (hne _ zl), updH_ne _ _ (hne _ zr)]; exact e5 x o hx⟩, updH_ne _ _ (hne _ zl), updH_ne _ _ (hne _ zr)]
    exact e5 x o hx
  have hExt2 : Ext H (delH (delH H2 l) r) := fun x o hx => by
    rw [delH_ne _ (fun h => by rw [h, zr] at hx; cases hx), delH_ne _ (fun h => by rw [h, zl] at hx; cases hx)]
    exact hExt x o hx
  obtain ⟨v, es, k1, k2, k3, k4, k5⟩ := J.rest
  have K5 : delH H2 l b5 = some (.box [.ptr bw 0]) := (delH_ne _ n5l).trans J.h5
  have Kw : delH H2 l bw = some (.box [.slice (t.women.map eW), .slice (t.pieces.map eP), i6 t.wrong, v, .mptr bm]) := (delH_ne _ nwl).trans k1
  have Kr : delH H2 l r = some .deferd := (delH_ne _ hlr.symm).trans J.hr
  have hlenv : ∀ H', detV .len [v] H' = some (i6 (truthsT t).length) := fun H' => by rw [k2.len H']; simp [eTr, truthsT, allO]
  have hz : askErr t = 0 ↔ (truthsT t).length ≠ 0 := by
    simp only [askErr, c1, if_true]
    by_cases h : truthsT t = []
    · simp [h]
    · simp [h, List.length_eq_zero_iff]
  by_cases c2 : ((truthsT t).length : Int) = 0
  · have hne : askErr t = 11 := by
      have : truthsT t = [] := List.length_eq_zero_iff.1 (by omega)
      simp [askErr, c1, this]
    simp only [go_sem, reduceIte, reduceCtorEq, Nat.reduceEqDiff, Nat.reduceBEq, Nat.reduceAdd, Nat.reduceMul, Nat.reduceLeDiff, g1, g5, K5, Kw, take_f', drop_at, List.getElem?_cons_zero, List.getElem?_cons_succ, hlenv, c2]
    refine fin_def2 2 3 r (by simp [upd_at]) Kr ⟨_, H, Settle.refl hExt2, rfl, .inl ⟨by rw [hne]; omega, ?_⟩⟩
    simp [upd_at, hne]
  · have hne : askErr t = 0 := hz.2 (by omega)
    simp only [go_sem, reduceIte, reduceCtorEq, Nat.reduceEqDiff, Nat.reduceBEq, Nat.reduceAdd, Nat.reduceMul, Nat.reduceLeDiff, g1, g5, K5, Kw, take_f', drop_at, List.getElem?_cons_zero, List.getElem?_cons_succ, hlenv, c2]
    refine fin_def2 2 3 r (by simp [upd_at]) Kr ⟨.tup [.elem (wCells t (truthsT t) es), i6 0], H, ?_, rfl, .inr ⟨hne, es, k5, rfl⟩⟩
    simp only [upd_at, if_true, Nat.reduceEqDiff, if_false]
    refine settle_tup hExt2 fun w u hH hr => ?_
    have Kw' : delH (delH H2 l) r bw = some (.box [.slice (t.women.map eW), .slice (t.pieces.map eP), i6 t.wrong, v, .mptr bm]) := (delH_ne _ nwr).trans Kw
    have Km' : delH (delH H2 l) r bm = some (.map es none) := ((delH_ne _ nmr).trans (delH_ne _ nml)).trans k4
    have hG : Grown 7 H (delH (delH H2 l) r) v (eTr (truthsT t)) := by
      have h1 : Grown 7 H H2 v (eTr (truthsT t)) := k2.to fun b cap es' h => hFn b (k3 b cap es' h)
      refine h1.of fun b n sz cap hb => ?_
      rw [delH_ne _ (fun h => by rw [h, J.hr] at hb; cases hb), delH_ne _ (fun h => by rw [h, J.hl] at hb; cases hb)]; exact hb
    refine rep_elem' hH Kw' zw rfl (fun i x x' hx hx' u hu => ?_) hr
    match i, hx, hx' with
    | 0, hx, hx' => cases hx; cases hx'; exact hu.mono (Evolve.drop hExt2)
    | 1, hx, hx' => cases hx; cases hx'; exact hu.mono (Evolve.drop hExt2)
    | 2, hx, hx' => cases hx; cases hx'; exact hu.mono (Evolve.drop hExt2)
    | 3, hx, hx' => cases hx; cases hx'; exact (hG.weaken hExt2).2 w u hH hu
    | 4, hx, hx' => cases hx; cases hx'; exact (settle_map Km' hExt2 zm).2 w u hH hu
end Go.Lift

set_option linter.unusedSimpArgs false
set_option linter.unusedVariables false
namespace Go.Lift
open Go Go.Proofs
/-- Rows that grow, each in a place of its own. -/
structure Rows (H0 H : AHeap) (vs : List AV) (rows : Nat → List Int) : Prop where
  row : ∀ (i : Nat) (v : AV), vs[i]? = some v → Grown 1 H0 H v (eI (rows i))
  apart : ∀ (i j b b' c c' : Nat) (e e' : List (List AV)), i ≠ j → vs[i]? = some (.grow b c e) → vs[j]? = some (.grow b' c' e') → b ≠ b'
theorem Rows.of {H0 H H' : AHeap} {vs : List AV} {rows : Nat → List Int} (r : Rows H0 H vs rows) (h : ∀ b n s c, H b = some (.tail n s c) → H' b = some (.tail n s c)) : Rows H0 H' vs rows :=
  ⟨fun i v hi => (r.row i v hi).of h, r.apart⟩
theorem v_append_row {P : Program} {R : AV → AHeap → Prop} {H0 H : AHeap} {vs : List AV} {rows : Nat → List Int} (r : Rows H0 H vs rows) (e : Ext H0 H) (i : Nat) (v : AV) (k : Int) (hv : vs[i]? = some v) (hl : (rows i).length ≤ 2147483648)
    (h : ∀ v' H', Rows H0 H' (vs.set i v') (fun j => if j = i then rows i ++ [k] else rows j) → Ext H0 H' → (∀ x o, H x = some o → (∀ n s c, o ≠ .tail n s c) → H' x = some o) → v'.ok = true ∧ v'.cells = [v'] ∧ v'.isCell = true → R v' H') : aopV P (.append 1 8) [v, .slice [[i6 k]]] H R := by
  have hg := r.row i v hv
  have hi : i < vs.length := by
    rcases Nat.lt_or_ge i vs.length with h | h
    · exact h
    · rw [List.getElem?_eq_none h] at hv; cases hv
  have hg2 : Grown 1 (outer (fun x => ∃ cap es, v = .grow x cap es) H) H v (eI (rows i)) := hg.to fun b cap es' h => outer_in ⟨cap, es', h⟩
  refine v_append hg2 (ext_outer _ _) rfl (eI_good _) (one_good k) (one_cell k) (by simp; omega) (by simp; omega) fun v' H' g' e' _ => ?_
  have keep : ∀ x o, H x = some o → (∀ n s c, o ≠ .tail n s c) → H' x = some o := fun x o hx ho => e' x o (by
    rw [outer_out]; exact hx
    rintro ⟨cap, es, rfl⟩
    rcases hg with ⟨h1, _⟩ | ⟨b', cap', h1, _, h3⟩
    · cases h1
    · cases h1; rw [hx] at h3; cases h3; exact ho _ _ _ rfl)
  have hE : Ext H0 H' := fun x o hx => e' x o (by
    rw [outer_out]; exact e x o hx
    rintro ⟨cap, es, rfl⟩
    rcases hg with ⟨h1, _⟩ | ⟨b', cap', h1, h2, _⟩
    · cases h1
    · cases h1; rw [hx] at h2; cases h2)
  have other : ∀ (j b c : Nat) (e : List (List AV)), j ≠ i → vs[j]? = some (.grow b c e) → H b = some (.tail e.length 1 c) ∧ outer (fun x => ∃ cap es, v = .grow x cap es) H b = H b := fun j b c e hj hb => by
    have h1 := r.row j _ hb
    rcases h1 with ⟨h1, _⟩ | ⟨b', cap', h1, h2, h3⟩
    · cases h1
    · cases h1
      refine ⟨h3, outer_out ?_⟩
      rintro ⟨cap, es, rfl⟩
      exact r.apart j i _ _ _ _ _ _ hj hb hv rfl
  refine h v' H' ⟨fun j u hu => ?_, fun j1 j2 b b' c c' e1 e2 hne h1 h2 => ?_⟩ hE keep g'.cellv
  · by_cases hj : j = i
    · subst hj
      rw [List.getElem?_set_self hi, Option.some.injEq] at hu
      subst hu
      simp only [if_true]
      rw [eI_app]
      refine Grown.to (H0 := outer (fun x => ∃ cap es, v = .grow x cap es) H) (show Grown 1 _ H' v' (eI (rows j) ++ eI [k]) from g') fun b cap es' hb => ?_
      subst hb
      rcases g' with ⟨h1, _⟩ | ⟨b', cap', h1, h2, _⟩
      · cases h1
      · cases h1
        rcases outer_none h2 with ⟨cap, es, rfl⟩ | h3
        · rcases hg with ⟨h4, _⟩ | ⟨b5, cap5, h4, h5, _⟩
          · cases h4
          · cases h4; exact h5
        · exact e.isNone h3
    · rw [List.getElem?_set_ne (fun h => hj h.symm)] at hu
      simp only [hj, if_false]
      rcases r.row j u hu with ⟨h1, h2⟩ | ⟨b, cap, rfl, h2, h3⟩
      · exact .inl ⟨h1, h2⟩
      · have := other j b cap _ hj hu
        exact .inr ⟨b, cap, rfl, h2, e' b _ (by rw [this.2]; exact h3)⟩
  · have fresh : ∀ (j b c b' c' : Nat) (e e1 : List (List AV)), j ≠ i → vs[j]? = some (.grow b c e) → v' = .grow b' c' e1 → b' ≠ b := by
      intro j b c b' c' e e1 hj hb hv' hbb
      subst hbb
      have ho := other j b' c e hj hb
      rcases g' with ⟨h1, _⟩ | ⟨b2, cap2, h1, h2, _⟩
      · rw [hv'] at h1; cases h1
      · rw [hv'] at h1; cases h1
        rw [ho.2, ho.1] at h2; cases h2
    by_cases hj1 : j1 = i
    · subst hj1
      rw [List.getElem?_set_self hi, Option.some.injEq] at h1
      rw [List.getElem?_set_ne hne] at h2
      exact fresh j2 b' c' b c e2 e1 (Ne.symm hne) h2 h1
    · by_cases hj2 : j2 = i
      · subst hj2
        rw [List.getElem?_set_self hi, Option.some.injEq] at h2
        rw [List.getElem?_set_ne (fun h => hj1 h.symm)] at h1
        exact (fresh j1 b c b' c' e1 e2 hj1 h1 h2).symm
      · rw [List.getElem?_set_ne (fun h => hj1 h.symm)] at h1
        rw [List.getElem?_set_ne (fun h => hj2 h.symm)] at h2
        exact r.apart j1 j2 b b' c c' e1 e2 hne h1 h2

/-- Who owns a piece in some truth, of the first so many women. -/
def whoIs (t : Table) (i m : Nat) : List Int := ((List.range m).filter fun k : Nat => (truthsT t).any fun q => decide (q.getD i 0 = (k : Int))).map Int.ofNat
theorem whoIs_succ (t : Table) (i m : Nat) : whoIs t i (m + 1) = whoIs t i m ++ (if ((truthsT t).any fun q => decide (q.getD i 0 = (m : Int))) = true then [(m : Int)] else []) := by
  simp only [whoIs, List.range_succ, List.filter_append, List.map_append]
  congr 1
  cases h : (truthsT t).any fun q => decide (q.getD i 0 = (m : Int)) <;> simp only [List.filter_cons, h, List.filter_nil] <;> simp
theorem whoIs_len (t : Table) (i m : Nat) : (whoIs t i m).length ≤ m := by
  simp only [whoIs, List.length_map]
  exact Nat.le_trans (List.length_filter_le _ _) (by simp)
def whoseT (t : Table) : List (List Int) := (List.range t.pieces.length).map fun i => whoIs t i t.women.length
def eII (l : List (List Int)) : AV := .slice (l.map fun x => [.slice (eI x)])
def whoseR (t : Table) : AV := if askErr t = 0 then .tup [eII (whoseT t), i6 0] else .tup [.emp, i6 (askErr t)]
def rowsAt (t : Table) (i j : Nat) : Nat → List Int := fun i' => if i' < i then whoIs t i' t.women.length else if i' = i then whoIs t i j else []
theorem settle_mslice' {H1 H2 : AHeap} {b n cap : Nat} {cs cs' : List AV} (hb : H1 b = some (.box cs)) (e : Ext H2 H1) (hn : H2 b = none) (hl : cs.length = n) (hl' : cs'.length = n) (hc : n ≤ cap)
    (hcs : ∀ (i : Nat) (x x' : AV), cs[i]? = some x → cs'[i]? = some x' → ∀ w u, HRel H1 w → Rep H1 w u x → Rep H2 w u x') :
    ∀ w v, HRel H1 w → Rep H1 w v (.mslice b 0 n cap) → Rep H2 w v (.slice (cs'.map fun x => [x])) := by
  intro w v hH hr
  cases hr
  obtain ⟨b', off', hv, vs, hvs⟩ := cellsAt_rep hH (Rep.ptr (w := w) b 0) (at_ptr hb (Nat.zero_le _))
  cases hv
  have hlen : n = (cs'.map fun x => [x]).length := by simp [hl']
  rw [hlen]
  refine Rep.slice b 0 cap 1 (cs'.map fun x => [x]) (fun i j => vs i) (by simp [hl', hc]) (by simp) (fun i j hi hj => ?_) (fun i j e' x he hx => ?_)
  · simp only [List.length_map] at hi
    have hj0 : j = 0 := by omega
    subst hj0
    have := (hvs i cs[i] (by simp [show i < cs.length by omega])).1
    refine ⟨.inl hn, ?_⟩
    simpa using this
  · rw [List.getElem?_map] at he
    cases hci : cs'[i]? with
    | none => rw [hci] at he; simp at he
    | some y =>
      rw [hci] at he
      simp only [Option.map_some, Option.some.injEq] at he
      subst he
      cases j with
      | zero =>
        simp only [List.getElem?_cons_zero, Option.some.injEq] at hx
        subst hx
        have hi : i < cs.length := by
          rcases Nat.lt_or_ge i cs.length with h | h
          · exact h
          · rw [List.getElem?_eq_none (by omega)] at hci; cases hci
        exact hcs i cs[i] y (by simp [hi]) hci w _ hH ((hvs i cs[i] (by simp [hi])).2)
      | succ j => simp at hx
end Go.Lift

set_option linter.unusedSimpArgs false
set_option linter.unusedVariables false
namespace Go.Lift
open Go Go.Proofs
theorem rowsAt_add {t : Table} {i j : Nat} (h : ((truthsT t).any fun q => decide (q.getD i 0 = (j : Int))) = true) : (fun i' => if i' = i then rowsAt t i j i ++ [(j : Int)] else rowsAt t i j i') = rowsAt t i (j + 1) := by
  funext i'
  by_cases h1 : i' = i
  · subst h1; simp only [if_true, rowsAt, Nat.lt_irrefl, if_false]; rw [whoIs_succ, if_pos h]
  · simp only [h1, if_false, rowsAt]
theorem rowsAt_same {t : Table} {i j : Nat} (h : ((truthsT t).any fun q => decide (q.getD i 0 = (j : Int))) = false) : rowsAt t i j = rowsAt t i (j + 1) := by
  funext i'
  by_cases h1 : i' = i
  · subst h1; simp only [if_true, rowsAt, Nat.lt_irrefl, if_false]; rw [whoIs_succ, if_neg (by rw [h]; simp), List.append_nil]
  · simp only [h1, if_false, rowsAt]
theorem rowsAt_next {t : Table} {i : Nat} : rowsAt t i t.women.length = rowsAt t (i + 1) 0 := by
  funext i'
  simp only [rowsAt]
  by_cases h1 : i' < i
  · rw [if_pos h1, if_pos (by omega)]
  · by_cases h2 : i' = i
    · subst h2; rw [if_neg h1, if_pos rfl, if_pos (by omega)]
    · rw [if_neg h1, if_neg h2, if_neg (by omega)]
      by_cases h3 : i' = i + 1
      · rw [if_pos h3]; simp [whoIs]
      · rw [if_neg h3]
theorem any_count (tr : List (List Int)) (i : Nat) (k : Int) : (0 : Int) < ((tr.countP fun q => decide (q.getD i 0 = k) : Nat) : Int) ↔ (tr.any fun q => decide (q.getD i 0 = k)) = true := by
  rw [List.any_eq_true]
  have : 0 < (tr.countP fun q => decide (q.getD i 0 = k)) ↔ ∃ x ∈ tr, decide (x.getD i 0 = k) = true := List.countP_pos_iff
  rw [← this]; omega
theorem whose_c (t : Table) (hs : TSm t) : Pure Tryz.prog 45 [eT t] (whoseR t) := by
  intro H
  refine fn_of hmix fc45 (by simp) ?_
  rw [ienv1]
  simp only [go_sem, reduceIte, reduceCtorEq, Nat.reduceEqDiff, Nat.reduceBEq, Nat.reduceAdd, Nat.reduceMul, Nat.reduceLeDiff, ac45, eT]
  refine v_box _ rfl fun b1 hb1 => ?_
  simp only [go_sem, reduceIte, reduceCtorEq, Nat.reduceEqDiff, Nat.reduceBEq, Nat.reduceAdd, Nat.reduceMul, Nat.reduceLeDiff]
  have e1 := (Ext.refl H).new hb1 (.box [.slice (t.women.map eW), .slice (t.pieces.map eP), i6 t.wrong])
  refine (asked_c t hs _).mono ?_
  rintro _ _ ⟨rfl, ⟨hne, rfl⟩ | ⟨heq, es, hcnt, rfl⟩⟩
  · simp only [go_sem, reduceIte, reduceCtorEq, Nat.reduceEqDiff, Nat.reduceBEq, Nat.reduceAdd, Nat.reduceMul, Nat.reduceLeDiff, List.getElem?_cons_zero, List.getElem?_cons_succ, hne]
    refine fin_ret2 2 3 (by simp [upd_at]) ⟨_, H, Settle.refl e1, ?_, rfl⟩
    simp [upd_at, whoseR, hne]
  have hc0 : checkTable t = 0 := by
    by_cases h : checkTable t = 0
    · exact h
    · simp only [askErr, h, if_false] at heq
  obtain ⟨hw5, hp7⟩ := checkTable_len hc0
  simp only [go_sem, reduceIte, reduceCtorEq, Nat.reduceEqDiff, Nat.reduceBEq, Nat.reduceAdd, Nat.reduceMul, Nat.reduceLeDiff, List.getElem?_cons_zero, List.getElem?_cons_succ, heq, wCells]
  refine ⟨by omega, by omega, by omega, fun b3 hb3 => ?_⟩
  have n13 : b1 ≠ b3 := fun h => by subst h; simp at hb3
  have z3 : H b3 = none := e1.isNone hb3
  simp only [go_sem, reduceIte, reduceCtorEq, Nat.reduceEqDiff, Nat.reduceBEq, Nat.reduceAdd, Nat.reduceMul, Nat.reduceLeDiff]
  have hfl : (List.replicate t.pieces.length [AV.emp]).flatten = List.replicate t.pieces.length AV.emp := by
    generalize t.pieces.length = n
    induction n with
    | zero => rfl
    | succ n ih => rw [List.replicate_succ, List.flatten_cons, ih]; rfl
  rw [hfl]
  refine x_for t.pieces.length (fun i env H1 => Ext H H1 ∧ H1 b1 = some (.box [.slice (t.women.map eW), .slice (t.pieces.map eP), i6 t.wrong]) ∧ (∃ vs, H1 b3 = some (.box vs) ∧ vs.length = t.pieces.length ∧ Rows H H1 vs (rowsAt t i 0)) ∧
      env 1 = .ptr b1 0 ∧ env 4 = .elem [.slice (t.women.map eW), .slice (t.pieces.map eP), i6 t.wrong, .slice (eTr (truthsT t)), .amap es] ∧ env 6 = .mslice b3 0 t.pieces.length t.pieces.length ∧ env 22 = i6 t.pieces.length ∧ env 23 = i6 i ∧ env 54 = .any)
    ⟨e1.new hb3 _, by rw [updH_ne _ _ n13]; exact updH_same _ _ _, ⟨_, updH_same _ _ _, by simp, ⟨fun i v hi => ?_, fun i j b b' c c' e e' _ hi => ?_⟩⟩, by simp [upd_at], by simp [upd_at], by simp [upd_at], by simp [upd_at], by simp [upd_at], by simp [upd_at]⟩ ?_
  · rw [List.getElem?_replicate] at hi
    split at hi
    · cases hi; refine .inl ⟨rfl, ?_⟩
      simp only [rowsAt, Nat.not_lt_zero, if_false, whoIs, List.range_zero, List.filter_nil, List.map_nil]; split <;> rfl
    · cases hi
  · rw [List.getElem?_replicate] at hi
    split at hi <;> cases hi
  rintro i env H1 hi ⟨hE, hB1, ⟨vs, hB3, hvl, hR⟩, g1, g4, g6, g22, g23, hN⟩
  by_cases hlt : (i : Int) < (t.pieces.length : Int)
  rotate_left
  · have hi' : i = t.pieces.length := by omega
    subst hi'
    simp only [go_sem, reduceIte, reduceCtorEq, Nat.reduceEqDiff, Nat.reduceBEq, Nat.reduceAdd, Nat.reduceMul, Nat.reduceLeDiff, g1, g4, g6, g22, g23, hN, hlt]
    refine fin_ret2 2 3 (by simp [upd_at, hN]) ⟨_, H, ?_, rfl, rfl⟩
    simp only [upd_at, if_true, Nat.reduceEqDiff, if_false, whoseR, heq]
    refine settle_tup hE fun w u hH hr => ?_
    have hcs := settle_mslice' (cs' := (whoseT t).map fun l => .slice (eI l)) hB3 hE z3 hvl (by simp [whoseT]) (Nat.le_refl _) (fun i x x' hx hx' w u hH hu => by
      have hi : i < t.pieces.length := by
        rcases Nat.lt_or_ge i t.pieces.length with h | h
        · exact h
        · rw [List.getElem?_eq_none (by omega)] at hx; cases hx
      simp only [whoseT, List.map_map, List.getElem?_map, List.getElem?_range hi, Option.map_some, Option.some.injEq] at hx'
      subst hx'
      have := hR.row i x hx
      simp only [rowsAt, hi, if_true] at this
      exact (this.weaken hE).2 w u hH hu) w u hH hr
    simpa [eII, List.map_map, Function.comp_def] using hcs
  have hlti : i < t.pieces.length := by omega
  simp only [go_sem, reduceIte, reduceCtorEq, Nat.reduceEqDiff, Nat.reduceBEq, Nat.reduceAdd, Nat.reduceMul, Nat.reduceLeDiff, g1, g4, g6, g22, g23, hN, hlt, hB1]
  refine x_for t.women.length (fun j env H1 => Ext H H1 ∧ H1 b1 = some (.box [.slice (t.women.map eW), .slice (t.pieces.map eP), i6 t.wrong]) ∧ (∃ vs, H1 b3 = some (.box vs) ∧ vs.length = t.pieces.length ∧ Rows H H1 vs (rowsAt t i j)) ∧
      env 1 = .ptr b1 0 ∧ env 4 = .elem [.slice (t.women.map eW), .slice (t.pieces.map eP), i6 t.wrong, .slice (eTr (truthsT t)), .amap es] ∧ env 6 = .mslice b3 0 t.pieces.length t.pieces.length ∧ env 7 = i6 i ∧ env 22 = i6 t.pieces.length ∧ env 23 = i6 i ∧ env 28 = i6 t.women.length ∧ env 29 = i6 j ∧ env 54 = .any)
    ⟨hE, hB1, ⟨vs, hB3, hvl, hR⟩, by simp [upd_at, g1], by simp [upd_at, g4], by simp [upd_at, g6], by simp [upd_at, g23], by simp [upd_at, g22], by simp [upd_at, g23], by simp [upd_at], by simp [upd_at], by simp [upd_at, hN]⟩ ?_
  clear hE hB1 hB3 hvl hR vs g1 g4 g6 g22 g23 hN hlt hi env H1
  rintro j env H1 hj ⟨hE, hB1, ⟨vs, hB3, hvl, hR⟩, g1, g4, g6, g7, g22, g23, g28, g29, hN⟩
  by_cases hlt : (j : Int) < (t.women.length : Int)
  rotate_left
  · have hj' : j = t.women.length := by omega
    subst hj'
    simp only [go_sem, reduceIte, reduceCtorEq, Nat.reduceEqDiff, Nat.reduceBEq, Nat.reduceAdd, Nat.reduceMul, Nat.reduceLeDiff, g1, g4, g6, g7, g22, g23, g28, g29, hN, hlt, wsucc (show i < 4611686018427387904 by omega), hlti]
    exact ⟨hE, hB1, vs, hB3, hvl, by rw [← rowsAt_next]; exact hR⟩
  have hltj : j < t.women.length := by omega
  have hval := hcnt i hlti (j : Int)
  have hany := any_count (truthsT t) i (j : Int)
  have h0 : (if i < 0 ∧ ([] : List Int).getD i 0 = (j : Int) then 1 else 0) = 0 := by simp
  rw [h0, Nat.add_zero] at hval
  cases hex : (truthsT t).any fun q => decide (q.getD i 0 = (j : Int))
  · have hnp : ¬ ((0 : Int) < ((truthsT t).countP fun q => decide (q.getD i 0 = (j : Int)) : Nat)) := fun h => by rw [hany.1 h] at hex; cases hex
    simp only [go_sem, reduceIte, reduceCtorEq, Nat.reduceEqDiff, Nat.reduceBEq, Nat.reduceAdd, Nat.reduceMul, Nat.reduceLeDiff, g1, g4, g6, g7, g22, g23, g28, g29, hN, hlt, bc2, Option.map_some, d_lookup, hval, hnp, wsucc (show j < 4611686018427387904 by omega), hltj, take_f', List.getElem?_cons_zero]
    exact ⟨hE, hB1, vs, hB3, hvl, by rw [← rowsAt_same hex]; exact hR⟩
  · have hnp : ((0 : Int) < ((truthsT t).countP fun q => decide (q.getD i 0 = (j : Int)) : Nat)) := hany.2 hex
    have hgv : vs[i]? = some (vs.getD i .any) := by simp [show i < vs.length by omega]
    simp only [go_sem, reduceIte, reduceCtorEq, Nat.reduceEqDiff, Nat.reduceBEq, Nat.reduceAdd, Nat.reduceMul, Nat.reduceLeDiff, g1, g4, g6, g7, g22, g23, g28, g29, hN, hlt, bc2, Option.map_some, d_lookup, hval, hnp, take_f', List.getElem?_cons_zero, show (i : Int) < (t.pieces.length : Int) by omega, Nat.mul_one, hB3, hvl, show i ≤ t.pieces.length by omega, drop_at, hgv]
    have hrl : (rowsAt t i j i).length ≤ 2147483648 := by
      have := whoIs_len t i j
      simp only [rowsAt, Nat.lt_irrefl, if_false, if_true]; omega
    refine v_append_row hR hE i _ j hgv hrl ?_
    intro v' H2 hR' hE' hkeep hcv
    have K1 := hkeep b1 _ hB1 (by intros; simp)
    have K3 := hkeep b3 _ hB3 (by intros; simp)
    simp only [go_sem, reduceIte, reduceCtorEq, Nat.reduceEqDiff, Nat.reduceBEq, Nat.reduceAdd, Nat.reduceMul, Nat.reduceLeDiff, g1, g4, g6, g7, g22, g23, g28, g29, hN, show (i : Int) < (t.pieces.length : Int) by omega, Nat.mul_one]
    rw [v_store]
    refine ⟨hcv.1, by rw [hcv.2.1]; rfl, by rw [hcv.2.1]; intro y hy; simp at hy; subst hy; exact hcv.2.2, _, K3, by omega, ?_⟩
    rw [hcv.2.1, placeAt_set _ _ _ (by omega)]
    simp only [go_sem, reduceIte, reduceCtorEq, Nat.reduceEqDiff, Nat.reduceBEq, Nat.reduceAdd, Nat.reduceMul, Nat.reduceLeDiff, g1, g4, g6, g7, g22, g23, g28, g29, hN, wsucc (show j < 4611686018427387904 by omega), hltj, updH_ne _ _ n13, K1]
    refine ⟨hE'.upd z3 _, _, rfl, by simp [hvl], ?_⟩
    rw [← rowsAt_add hex]
    refine hR'.of fun b n s c hb => ?_
    rw [updH_ne _ _ (fun h => by rw [h, K3] at hb; cases hb)]; exact hb
end Go.Lift

set_option linter.unusedSimpArgs false
set_option linter.unusedVariables false
namespace Go.Lift
open Go Go.Proofs
def bigH (h : House) : Prop := 5 < h.last ∨ 10 < h.others ∨ 6 < (h.touches.length : Int) ∨ 4 < (h.boiled.length : Int) ∨ 5 < (h.signs.length : Int)
instance (h : House) : Decidable (bigH h) := by unfold bigH; infer_instance
def badH (h : House) : Prop := h.last < 0 ∨ h.others < 0 ∨ 10 < thingsW h ∨ risingOK h.sick h.table.women.length = false
instance (h : House) : Decidable (badH h) := by unfold badH; infer_instance
def boilOK (h : House) (x : Boiling) : Bool := thingOK h x.thing && hourOK h x.hour
def allH (h : House) : Prop := h.touches.all (touchOK h) = true ∧ h.boiled.all (boilOK h) = true ∧ (h.signs.all fun s => thingOK h s.thing) = true
instance (h : House) : Decidable (allH h) := by unfold allH; infer_instance
def checkHouse (h : House) : Int :=
  if bigH h then 3 else if askErr h.table ≠ 0 then askErr h.table else if badH h then 1 else if ¬ allH h then 1 else if 2000 < manyH h then 3 else 0
theorem touches_ok {h : House} (h1 : h.touches.all (touchOK h) = true) (h2 : h.last ≤ 5) : ∀ x ∈ h.touches, 0 ≤ x.lo ∧ x.lo ≤ x.hi ∧ x.hi ≤ 5 := fun x hx => by
  have := List.all_eq_true.1 h1 x hx
  simp only [touchOK, hourOK, Bool.and_eq_true, decide_eq_true_eq] at this
  omega
theorem checkHouse_c (h : House) (hs : TSm h.table) (hsk : Sm h.sick.length) : Pure Tryz.prog 66 [eH h] (i6 (checkHouse h)) := by
  intro H
  refine fn_of hmix fc66 (by simp) ?_
  rw [ienv1]
  simp only [go_sem, reduceIte, reduceCtorEq, Nat.reduceEqDiff, Nat.reduceBEq, Nat.reduceAdd, Nat.reduceMul, Nat.reduceLeDiff, ac66, eH]
  refine v_box _ rfl fun b1 hb1 => ?_
  have e1 := (Ext.refl H).new hb1 (.box [.slice (h.table.women.map eW), .slice (h.table.pieces.map eP), i6 h.table.wrong, .slice (eI h.sick), i6 h.others, i6 h.last, .slice (h.touches.map eTo), .slice (h.boiled.map eB), .slice (h.signs.map eS)])
  simp only [go_sem, reduceIte, reduceCtorEq, Nat.reduceEqDiff, Nat.reduceBEq, Nat.reduceAdd, Nat.reduceMul, Nat.reduceLeDiff]
  by_cases c1 : bigH h
  · have hres : checkHouse h = 3 := by rw [checkHouse, if_pos c1]
    unfold bigH at c1
    by_cases d1 : 5 < h.last
    · simp only [go_sem, reduceIte, reduceCtorEq, Nat.reduceEqDiff, Nat.reduceBEq, Nat.reduceAdd, Nat.reduceMul, Nat.reduceLeDiff, d1]
      refine fin_ret 2 (by simp [upd_at]) ⟨_, H, Settle.refl e1, by simp [upd_at, hres], rfl⟩
    by_cases d2 : 10 < h.others
    · simp only [go_sem, reduceIte, reduceCtorEq, Nat.reduceEqDiff, Nat.reduceBEq, Nat.reduceAdd, Nat.reduceMul, Nat.reduceLeDiff, d1, d2]
      refine fin_ret 2 (by simp [upd_at]) ⟨_, H, Settle.refl e1, by simp [upd_at, hres], rfl⟩
    by_cases d3 : 6 < (h.touches.length : Int)
    · simp only [go_sem, reduceIte, reduceCtorEq, Nat.reduceEqDiff, Nat.reduceBEq, Nat.reduceAdd, Nat.reduceMul, Nat.reduceLeDiff, d1, d2, d3]
      refine fin_ret 2 (by simp [upd_at]) ⟨_, H, Settle.refl e1, by simp [upd_at, hres], rfl⟩
    by_cases d4 : 4 < (h.boiled.length : Int)
    · simp only [go_sem, reduceIte, reduceCtorEq, Nat.reduceEqDiff, Nat.reduceBEq, Nat.reduceAdd, Nat.reduceMul, Nat.reduceLeDiff, d1, d2, d3, d4]
      refine fin_ret 2 (by simp [upd_at]) ⟨_, H, Settle.refl e1, by simp [upd_at, hres], rfl⟩
    have d5 : 5 < (h.signs.length : Int) := by
      rcases c1 with c | c | c | c | c
      · exact absurd c d1
      · exact absurd c d2
      · exact absurd c d3
      · exact absurd c d4
      · exact c
    simp only [go_sem, reduceIte, reduceCtorEq, Nat.reduceEqDiff, Nat.reduceBEq, Nat.reduceAdd, Nat.reduceMul, Nat.reduceLeDiff, d1, d2, d3, d4, d5]
    refine fin_ret 2 (by simp [upd_at]) ⟨_, H, Settle.refl e1, by simp [upd_at, hres], rfl⟩
  have hc1 := c1
  unfold bigH at c1
  simp only [not_or] at c1
  obtain ⟨d1, d2, d3, d4, d5⟩ := c1
  simp only [go_sem, reduceIte, reduceCtorEq, Nat.reduceEqDiff, Nat.reduceBEq, Nat.reduceAdd, Nat.reduceMul, Nat.reduceLeDiff, d1, d2, d3, d4, d5]
  refine (whose_c h.table hs).go ?_
  by_cases c2 : askErr h.table = 0
  rotate_left
  · have hres : checkHouse h = askErr h.table := by rw [checkHouse, if_neg hc1, if_pos c2]
    simp only [go_sem, reduceIte, reduceCtorEq, Nat.reduceEqDiff, Nat.reduceBEq, Nat.reduceAdd, Nat.reduceMul, Nat.reduceLeDiff, whoseR, c2, List.getElem?_cons_zero, List.getElem?_cons_succ]
    refine fin_ret 2 (by simp [upd_at]) ⟨_, H, Settle.refl e1, by simp [upd_at, hres], rfl⟩
  simp only [go_sem, reduceIte, reduceCtorEq, Nat.reduceEqDiff, Nat.reduceBEq, Nat.reduceAdd, Nat.reduceMul, Nat.reduceLeDiff, whoseR, c2, List.getElem?_cons_zero, List.getElem?_cons_succ, List.drop_nil]
  have hc2 : ¬ (askErr h.table ≠ 0) := fun h => h c2
  by_cases c3 : badH h
  · have hres : checkHouse h = 1 := by rw [checkHouse, if_neg hc1, if_neg hc2, if_pos c3]
    unfold badH at c3
    by_cases f1 : h.last < 0
    · simp only [go_sem, reduceIte, reduceCtorEq, Nat.reduceEqDiff, Nat.reduceBEq, Nat.reduceAdd, Nat.reduceMul, Nat.reduceLeDiff, f1]
      refine fin_ret 2 (by simp [upd_at]) ⟨_, H, Settle.refl e1, by simp [upd_at, hres], rfl⟩
    by_cases f2 : h.others < 0
    · simp only [go_sem, reduceIte, reduceCtorEq, Nat.reduceEqDiff, Nat.reduceBEq, Nat.reduceAdd, Nat.reduceMul, Nat.reduceLeDiff, f1, f2]
      refine fin_ret 2 (by simp [upd_at]) ⟨_, H, Settle.refl e1, by simp [upd_at, hres], rfl⟩
    simp only [go_sem, reduceIte, reduceCtorEq, Nat.reduceEqDiff, Nat.reduceBEq, Nat.reduceAdd, Nat.reduceMul, Nat.reduceLeDiff, f1, f2]
    refine (things_c h).go ?_
    by_cases f3 : 10 < thingsW h
    · simp only [go_sem, reduceIte, reduceCtorEq, Nat.reduceEqDiff, Nat.reduceBEq, Nat.reduceAdd, Nat.reduceMul, Nat.reduceLeDiff, f3]
      refine fin_ret 2 (by simp [upd_at]) ⟨_, H, Settle.refl e1, by simp [upd_at, hres], rfl⟩
    have f4 : risingOK h.sick h.table.women.length = false := by
      rcases c3 with c | c | c | c
      · exact absurd c f1
      · exact absurd c f2
      · exact absurd c f3
      · exact c
    simp only [go_sem, reduceIte, reduceCtorEq, Nat.reduceEqDiff, Nat.reduceBEq, Nat.reduceAdd, Nat.reduceMul, Nat.reduceLeDiff, f3]
    refine (rising_c h.sick _ hsk).go ?_
    simp only [go_sem, reduceIte, reduceCtorEq, Nat.reduceEqDiff, Nat.reduceBEq, Nat.reduceAdd, Nat.reduceMul, Nat.reduceLeDiff, f4]
    refine fin_ret 2 (by simp [upd_at]) ⟨_, H, Settle.refl e1, by simp [upd_at, hres], rfl⟩
  have hc3 := c3
  unfold badH at c3
  simp only [not_or, Bool.not_eq_false] at c3
  obtain ⟨f1, f2, f3, f4⟩ := c3
  simp only [go_sem, reduceIte, reduceCtorEq, Nat.reduceEqDiff, Nat.reduceBEq, Nat.reduceAdd, Nat.reduceMul, Nat.reduceLeDiff, f1, f2]
  refine (things_c h).go ?_
  simp only [go_sem, reduceIte, reduceCtorEq, Nat.reduceEqDiff, Nat.reduceBEq, Nat.reduceAdd, Nat.reduceMul, Nat.reduceLeDiff, f3]
  refine (rising_c h.sick _ hsk).go ?_
  simp only [go_sem, reduceIte, reduceCtorEq, Nat.reduceEqDiff, Nat.reduceBEq, Nat.reduceAdd, Nat.reduceMul, Nat.reduceLeDiff, f4]
  refine (all_touch eTo (fun _ => rfl) h.touches (touchOK h) 115 [eH h] [] (by unfold Sm; omega) _ (fun x _ H1 _ => touch_c h x H1)).mono ?_
  rintro _ H' ⟨rfl, rfl⟩
  cases k1 : h.touches.all (touchOK h)
  · have hres : checkHouse h = 1 := by rw [checkHouse, if_neg hc1, if_neg hc2, if_neg hc3, if_pos]; rw [allH, k1]; simp
    simp only [go_sem, reduceIte, reduceCtorEq, Nat.reduceEqDiff, Nat.reduceBEq, Nat.reduceAdd, Nat.reduceMul, Nat.reduceLeDiff]
    refine fin_ret 2 (by simp [upd_at]) ⟨_, H, Settle.refl e1, by simp [upd_at, hres], rfl⟩
  simp only [go_sem, reduceIte, reduceCtorEq, Nat.reduceEqDiff, Nat.reduceBEq, Nat.reduceAdd, Nat.reduceMul, Nat.reduceLeDiff]
  refine (all_boiling eB (fun _ => rfl) h.boiled (boilOK h) 116 [eH h] [] (by unfold Sm; omega) _ (fun x _ H1 _ => boiling_c h x H1)).mono ?_
  rintro _ H' ⟨rfl, rfl⟩
  cases k2 : h.boiled.all (boilOK h)
  · have hres : checkHouse h = 1 := by rw [checkHouse, if_neg hc1, if_neg hc2, if_neg hc3, if_pos]; rw [allH, k2]; simp
    simp only [go_sem, reduceIte, reduceCtorEq, Nat.reduceEqDiff, Nat.reduceBEq, Nat.reduceAdd, Nat.reduceMul, Nat.reduceLeDiff]
    refine fin_ret 2 (by simp [upd_at]) ⟨_, H, Settle.refl e1, by simp [upd_at, hres], rfl⟩
  simp only [go_sem, reduceIte, reduceCtorEq, Nat.reduceEqDiff, Nat.reduceBEq, Nat.reduceAdd, Nat.reduceMul, Nat.reduceLeDiff]
  refine (all_sign eS (fun _ => rfl) h.signs (fun s => thingOK h s.thing) 117 [eH h] [] (by unfold Sm; omega) _ (fun x _ H1 _ => sign_c h x H1)).mono ?_
  rintro _ H' ⟨rfl, rfl⟩
  cases k3 : h.signs.all fun s => thingOK h s.thing
  · have hres : checkHouse h = 1 := by rw [checkHouse, if_neg hc1, if_neg hc2, if_neg hc3, if_pos]; rw [allH, k3]; simp
    simp only [go_sem, reduceIte, reduceCtorEq, Nat.reduceEqDiff, Nat.reduceBEq, Nat.reduceAdd, Nat.reduceMul, Nat.reduceLeDiff]
    refine fin_ret 2 (by simp [upd_at]) ⟨_, H, Settle.refl e1, by simp [upd_at, hres], rfl⟩
  simp only [go_sem, reduceIte, reduceCtorEq, Nat.reduceEqDiff, Nat.reduceBEq, Nat.reduceAdd, Nat.reduceMul, Nat.reduceLeDiff]
  have hc4 : ¬ ¬ allH h := fun h' => h' ⟨k1, k2, k3⟩
  refine (many_c h hs (by unfold Sm; omega) (touches_ok k1 (by omega))).go ?_
  by_cases c5 : 2000 < manyH h
  · have hres : checkHouse h = 3 := by rw [checkHouse, if_neg hc1, if_neg hc2, if_neg hc3, if_neg hc4, if_pos c5]
    simp only [go_sem, reduceIte, reduceCtorEq, Nat.reduceEqDiff, Nat.reduceBEq, Nat.reduceAdd, Nat.reduceMul, Nat.reduceLeDiff, c5]
    refine fin_ret 2 (by simp [upd_at]) ⟨_, H, Settle.refl e1, by simp [upd_at, hres], rfl⟩
  · have hres : checkHouse h = 0 := by rw [checkHouse, if_neg hc1, if_neg hc2, if_neg hc3, if_neg hc4, if_neg c5]
    simp only [go_sem, reduceIte, reduceCtorEq, Nat.reduceEqDiff, Nat.reduceBEq, Nat.reduceAdd, Nat.reduceMul, Nat.reduceLeDiff, c5]
    refine fin_ret 2 (by simp [upd_at]) ⟨_, H, Settle.refl e1, by simp [upd_at, hres], rfl⟩
end Go.Lift

set_option linter.unusedSimpArgs false
set_option linter.unusedVariables false
namespace Go.Lift
open Go Go.Proofs
theorem rep_lent {H : AHeap} {w : World} {v : Value} {b n cap : Nat} {l : List Int} (hH : HRel H w) (hb : H b = some (.box (l.map i6))) (hn : n ≤ l.length) (hc : n ≤ cap) (hr : Rep H w v (.mslice b 0 n cap)) : Rep (fun _ => none) w v (.slice (eI (l.take n))) := by
  cases hr
  obtain ⟨b', off', hv, vs, hvs⟩ := cellsAt_rep hH (Rep.ptr (w := w) b 0) (at_ptr hb (Nat.zero_le _))
  cases hv
  have hlen : n = (eI (l.take n)).length := by simp [hn]
  have key : Rep (fun _ => none) w (.slice (some ⟨b, 0, none⟩) (eI (l.take n)).length cap) (.slice (eI (l.take n))) := by
    refine Rep.slice b 0 cap 1 (eI (l.take n)) (fun i j => vs i) (by omega) (eI_good _) (fun i j hi hj => ?_) (fun i j e' x he hx => ?_)
    · have hj0 : j = 0 := by omega
      subst hj0
      have hi' : i < l.length := by omega
      have := (hvs i (i6 l[i]) (by simp [hi'])).1
      exact ⟨.inl rfl, by simpa using this⟩
    · have hi : i < n := by
        rcases Nat.lt_or_ge i n with h | h
        · exact h
        · rw [List.getElem?_eq_none (by omega)] at he; cases he
      have hi' : i < l.length := by omega
      rw [eI_get (by simp; omega), Option.some.injEq] at he
      subst he
      cases j with
      | zero =>
        simp only [List.getElem?_cons_zero, Option.some.injEq, List.getElem_take] at hx
        subst hx
        have := (hvs i (i6 l[i]) (by simp [hi'])).2
        generalize vs i = u at this ⊢
        cases this
        exact .int _ _
      | succ j => simp at hx
  rw [← hlen] at key
  exact key
theorem borrow {P : Program} {f : FuncId} {x : AV} {H : AHeap} {b n cap : Nat} {l : List Int} {r : Bool} (hb : H b = some (.box (l.map i6))) (hn : n ≤ l.length) (hc : n ≤ cap) (hp : Pure P f [x, .slice (eI (l.take n))] (.bool r)) :
    ACalls P f [x, .mslice b 0 n cap] H fun r' H' => r' = .bool r ∧ H' = H := by
  obtain ⟨h1, h2⟩ := hp (fun _ => none)
  refine ⟨h1, fun w vs hH hv => ?_⟩
  have hsub : ∀ (c : Nat) (o : AObj), (fun _ => none : AHeap) c = some o → H c = some o := fun c o h => by cases h
  have hv' : Reps (fun _ => none) w vs [x, .slice (eI (l.take n))] := by
    refine ⟨hv.1, fun i y hi => ?_⟩
    match i, hi with
    | 0, hi => cases hi; exact (hv.2 0 _ rfl).mono (Evolve.drop hsub)
    | 1, hi => cases hi; exact rep_lent hH hb hn hc (hv.2 1 _ rfl)
  refine (h2 w vs (hH.drop hsub) hv').mono ?_
  rintro e w' ⟨v, rfl, _, _, ⟨rfl, rfl⟩, g1, g2, g3⟩
  have hE : Evolve H w H w' := by
    refine ⟨g3.os, g3.tape, g3.output, g3.size, fun c hc hn => ⟨hn, (g3.block c hc rfl).2⟩, fun c n' sz cp off u hcH ho hu => ?_⟩
    exact ⟨.inr ⟨n', sz, cp, hcH, ho⟩, by rw [cell_congr (a := ⟨c, off, none⟩) (g3.block c (hH.lt hcH) rfl).2]; exact hu⟩
  refine ⟨v, rfl, .bool r, H, ⟨rfl, rfl⟩, hH.keep hE (fun c hc => (g3.block c hc rfl).2), ?_, hE⟩
  cases g2; exact .bool _

/-- A house without an error. -/
structure HV (h : House) : Prop where
  ok : HOK h
  tab : checkTable h.table = 0
  ask : askErr h.table = 0
  tim : ∀ x ∈ h.touches, 0 ≤ x.lo ∧ x.lo ≤ x.hi ∧ x.hi ≤ 5
  many : manyH h ≤ 2000
theorem hv_of {h : House} (hs : TSm h.table) (hsk : Sm h.sick.length) (hc : checkHouse h = 0) : HV h := by
  unfold checkHouse at hc
  by_cases c1 : bigH h
  · rw [if_pos c1] at hc; cases hc
  rw [if_neg c1] at hc
  by_cases c2 : askErr h.table = 0
  rotate_left
  · rw [if_pos c2] at hc; exact absurd hc c2
  rw [if_neg (fun h => h c2)] at hc
  by_cases c3 : badH h
  · rw [if_pos c3] at hc; cases hc
  rw [if_neg c3] at hc
  by_cases c4 : allH h
  rotate_left
  · rw [if_pos c4] at hc; cases hc
  rw [if_neg (fun h => h c4)] at hc
  have c5 : manyH h ≤ 2000 := by
    by_cases h1 : 2000 < manyH h
    · rw [if_pos h1] at hc; cases hc
    · omega
  have hc0 : checkTable h.table = 0 := by
    by_cases h1 : checkTable h.table = 0
    · exact h1
    · simp only [askErr, h1, if_false] at c2
  obtain ⟨hw5, hp7⟩ := checkTable_len hc0
  unfold bigH at c1
  unfold badH at c3
  simp only [not_or, Bool.not_eq_false] at c1 c3
  obtain ⟨d1, d2, d3, d4, d5⟩ := c1
  obtain ⟨f1, f2, f3, f4⟩ := c3
  obtain ⟨k1, k2, k3⟩ := c4
  have ht : thingsW h = (h.table.pieces.length : Int) + h.others := by rw [thingsW, w64 (by omega) (by omega)]
  have thing : ∀ n, thingOK h n = true → ∃ k : Nat, n = (k : Int) ∧ k < 10 := fun n hn => by
    simp only [thingOK, decide_eq_true_eq] at hn
    rw [w64 (by omega) (by omega)] at hn
    exact ⟨n.toNat, by omega, by omega⟩
  refine ⟨⟨hs, hp7, hsk, ⟨h.others.toNat, by omega, by omega⟩, ⟨h.last.toNat, by omega, by omega⟩, by omega, fun x hx => ?_, by omega, by omega, fun s hs => thing _ (List.all_eq_true.1 k3 s hs)⟩, hc0, c2, touches_ok k1 (by omega), c5⟩
  have := List.all_eq_true.1 k1 x hx
  simp only [touchOK, Bool.and_eq_true] at this
  obtain ⟨a, ha, ha'⟩ := thing _ this.1.1.1.1.1
  obtain ⟨b, hb, hb'⟩ := thing _ this.1.1.1.1.2
  exact ⟨a, b, ha, hb, ha', hb'⟩

/-- All owners out of lists, so many more behind the first ones. -/
def enumW (wh : List (List Int)) : Nat → List Int → List (List Int)
  | 0, pre => [pre]
  | k + 1, pre => (wh.getD pre.length []).flatMap fun w => enumW wh k (pre ++ [w])
/-- All hours of so many more touches. -/
def enumH (h : House) : Nat → List Int → List (List Int)
  | 0, pre => [pre]
  | k + 1, pre => ((List.range ((h.touches.getD pre.length default).hi - (h.touches.getD pre.length default).lo + 1).toNat).map fun j : Nat => (h.touches.getD pre.length default).lo + (j : Int)).flatMap fun n => enumH h k (pre ++ [n])
def coursesOf (h : House) (o : List Int) : List Course := if isTruthT h.table o = true then (enumH h h.touches.length []).map fun hs => ⟨o, hs⟩ else []
def allC (h : House) : List Course := (enumW (whoseT h.table) h.table.pieces.length []).flatMap (coursesOf h)
def eSc (c : Course) : AV := .agg ((pad7 c.owners ++ pad6 c.hours).map i6)
def hCells (h : House) : List AV := [.slice (h.table.women.map eW), .slice (h.table.pieces.map eP), i6 h.table.wrong, .slice (eI h.sick), i6 h.others, i6 h.last, .slice (h.touches.map eTo), .slice (h.boiled.map eB), .slice (h.signs.map eS)]
end Go.Lift

set_option linter.unusedSimpArgs false
set_option linter.unusedVariables false
namespace Go.Lift
open Go Go.Proofs
section
variable {yv : AV} {full : List Course} {J E : List Course → (Nat → Prop) → AHeap → Prop}
theorem touchGo_c (h : House) (hv : HV h) (T : Taker Tryz.prog yv eSc full J E) (by_ bs bt : Nat) (h1 : by_ ≠ bs) (h2 : bt ≠ bs) (o : List Int) (ho7 : (pad7 o).length = 7) :
    ∀ (k : Nat) (pre : List Int) (s : List Course) (F : Nat → Prop) (H : AHeap) (hs : List Int), pre.length + k = h.touches.length → hs.length = 6 → hs.take pre.length = pre → hs.drop h.touches.length = List.replicate (6 - h.touches.length) 0 →
      s ++ (enumH h k pre).map (fun x => ⟨o, x⟩) <+: full → J s F H → ¬ F by_ → ¬ F bs → ¬ F bt → H by_ = some (.box [yv]) → H bs = some (.box ((pad7 o ++ hs).map i6)) → H bt = some (.box [.func (.func 154) [] [.elem (hCells h), .ptr by_ 0, .ptr bs 0, .ptr bt 0]]) →
      ACalls Tryz.prog 154 [i6 pre.length, .elem (hCells h), .ptr by_ 0, .ptr bs 0, .ptr bt 0] H fun r H' => ∃ F' hs', Frame0 F H bs F' H' ∧ H' bs = some (.box (List.map i6 (pad7 o ++ hs'))) ∧ hs'.length = 6 ∧ hs'.take pre.length = pre ∧ hs'.drop h.touches.length = List.replicate (6 - h.touches.length) 0 ∧
        ((r = .bool true ∧ J (s ++ (enumH h k pre).map (fun x => ⟨o, x⟩)) F' H') ∨ (r = .bool false ∧ ∃ l1 l2, (enumH h k pre).map (fun x => (⟨o, x⟩ : Course)) = l1 ++ l2 ∧ E (s ++ l1) F' H')) := by
  have hm6 := hv.ok.touches
  intro k
  induction k with
  | zero =>
    intro pre s F H hs hk hs6 htake hdrop hfull hJ n1 n2 n3 hy hbo hbc
    refine fn_of hmix fc154 (by simp) ?_
    rw [ienv5]
    have hpl : pre.length = h.touches.length := by omega
    have hl13 : ((pad7 o ++ hs).map i6).length = 13 := by simp [ho7, hs6]
    simp only [go_sem, reduceIte, reduceCtorEq, Nat.reduceEqDiff, Nat.reduceBEq, Nat.reduceAdd, Nat.reduceMul, Nat.reduceLeDiff, ac154, hCells, hpl, hy, hbo, hl13, take_len hl13, take_f', List.getElem?_cons_zero, List.length_append, ho7, hs6]
    have hoe : AV.agg ((pad7 o ++ hs).map i6) = eSc ⟨o, pre⟩ := by
      simp only [eSc, AV.agg.injEq, pad6]
      congr 2
      conv => lhs; rw [← List.take_append_drop h.touches.length hs]
      rw [hdrop, ← hpl, htake]
    rw [hoe]
    refine aopV_mono ?_ (T.step s F H ⟨o, pre⟩ (by simpa [enumH] using hfull) hJ)
    rintro r H' ⟨F', hF, hK, hcase⟩
    simp only [go_sem, reduceIte, reduceCtorEq, Nat.reduceEqDiff, Nat.reduceBEq, Nat.reduceAdd, Nat.reduceMul, Nat.reduceLeDiff]
    refine fin_ret' 6 (by simp [upd_at]) ?_
    simp only [upd_at, if_true]
    refine ⟨F', hs, ⟨hF, fun x hx _ hh => hK x hx hh⟩, by rw [hK bs n2 ⟨_, hbo⟩]; exact hbo, hs6, by rw [← hpl]; exact htake, hdrop, ?_⟩
    rcases hcase with ⟨rfl, h⟩ | ⟨rfl, h⟩
    · exact .inl ⟨rfl, h⟩
    · exact .inr ⟨rfl, [⟨o, pre⟩], [], rfl, h⟩
  | succ k ih =>
    intro pre s F H hs hk hs6 htake hdrop hfull hJ n1 n2 n3 hy hbo hbc
    refine fn_of hmix fc154 (by simp) ?_
    rw [ienv5]
    have hpl : pre.length < h.touches.length := by omega
    have hne : ¬ ((pre.length : Int) = (h.touches.length : Int)) := by omega
    have hgp : h.touches.getD pre.length default = h.touches[pre.length] := by simp [hpl]
    obtain ⟨t1, t2, t3⟩ := hv.tim _ (List.getElem_mem hpl)
    have hcnt : ∃ cnt, cnt = (h.touches[pre.length].hi - h.touches[pre.length].lo + 1).toNat := ⟨_, rfl⟩
    obtain ⟨cnt, hcnt⟩ := hcnt
    obtain ⟨wl, hwl⟩ : ∃ wl, wl = (List.range cnt).map fun j : Nat => h.touches[pre.length].lo + (j : Int) := ⟨_, rfl⟩
    have hwll : wl.length = cnt := by simp [hwl]
    have henum : enumH h (k + 1) pre = wl.flatMap fun n => enumH h k (pre ++ [n]) := by simp only [enumH, hgp, hwl, hcnt]
    simp only [go_sem, reduceIte, reduceCtorEq, Nat.reduceEqDiff, Nat.reduceBEq, Nat.reduceAdd, Nat.reduceMul, Nat.reduceLeDiff, ac154, hCells, hne, map_get (f := eTo) hpl, eTo, take_f', List.getElem?_cons_zero]
    refine x_for cnt (fun m env H' => ∃ F' hs', Frame0 F H bs F' H' ∧ H' bs = some (.box (List.map i6 (pad7 o ++ hs'))) ∧ hs'.length = 6 ∧ hs'.take pre.length = pre ∧ hs'.drop h.touches.length = List.replicate (6 - h.touches.length) 0 ∧ J (s ++ (((wl.take m).flatMap fun n => enumH h k (pre ++ [n])).map fun x => ⟨o, x⟩)) F' H' ∧
        env 0 = i6 pre.length ∧ env 1 = .elem [.slice (h.table.women.map eW), .slice (h.table.pieces.map eP), i6 h.table.wrong, .slice (eI h.sick), i6 h.others, i6 h.last, .slice (h.touches.map eTo), .slice (h.boiled.map eB), .slice (h.signs.map eS)] ∧ env 3 = .ptr bs 0 ∧ env 4 = .ptr bt 0 ∧ env 7 = i6 (h.touches[pre.length].lo + (m : Int)) ∧ env 43 = .any)
      ⟨F, hs, Frame0.refl _ _ _, hbo, hs6, htake, hdrop, by simpa using hJ, by simp [upd_at], by simp [upd_at], by simp [upd_at], by simp [upd_at], by simp [upd_at], by simp [upd_at]⟩ ?_
    rintro m env H1 hm ⟨F1, hs1, hfr, hbo1, hs61, htake1, hdrop1, hJ1, g0, g1, g3, g4, g7, hN⟩
    have hy1 : H1 by_ = some (.box [yv]) := by rw [hfr.kept by_ n1 h1 ⟨_, hy⟩]; exact hy
    have hbc1 := (hfr.kept bt n3 h2 ⟨_, hbc⟩).trans hbc
    have m1 := hfr.out n1 ⟨_, hy⟩
    have m2 := hfr.out n2 ⟨_, hbo⟩
    have m3 := hfr.out n3 ⟨_, hbc⟩
    by_cases hlt : h.touches[pre.length].lo + (m : Int) ≤ h.touches[pre.length].hi
    · have hlt' : m < wl.length := by omega
      have hltc : m < cnt := by omega
      have hwm : wl[m] = h.touches[pre.length].lo + (m : Int) := by simp [hwl]
      have hinc := w64 (x := h.touches[pre.length].lo + (m : Int) + 1) (by omega) (by omega)
      have hinc2 : h.touches[pre.length].lo + (m : Int) + 1 = h.touches[pre.length].lo + ((m + 1 : Nat) : Int) := by omega
      simp only [go_sem, reduceIte, reduceCtorEq, Nat.reduceEqDiff, Nat.reduceBEq, Nat.reduceAdd, Nat.reduceMul, Nat.reduceLeDiff, g0, g1, g3, g4, g7, hN, hlt, map_get (f := eTo) hpl, eTo, take_f', List.getElem?_cons_zero, show (pre.length : Int) < ((6 : Nat) : Int) by omega, Nat.mul_one]
      rw [v_store]
      refine ⟨rfl, rfl, by simp [AV.cells, AV.isCell], _, hbo1, by simp [ho7, hs61]; omega, ?_⟩
      rw [show (AV.int .i64 (h.touches[pre.length].lo + (m : Int))).cells = [i6 (h.touches[pre.length].lo + (m : Int))] from rfl, iset _ _ _ (by simp [ho7, hs61]; omega)]
      have hset : (pad7 o ++ hs1).set (7 + pre.length) (h.touches[pre.length].lo + (m : Int)) = pad7 o ++ hs1.set pre.length (h.touches[pre.length].lo + (m : Int)) := by
        rw [List.set_append_right _ _ (by omega)]; congr 2; omega
      simp only [go_sem, reduceIte, reduceCtorEq, Nat.reduceEqDiff, Nat.reduceBEq, Nat.reduceAdd, Nat.reduceMul, Nat.reduceLeDiff, g0, g1, g3, g4, g7, hN, updH_ne _ _ h2, hbc1, wsucc (show pre.length < 4611686018427387904 by omega), List.nil_append, List.cons_append, hset, take_f', List.getElem?_cons_zero]
      have hlen : (pre ++ [wl[m]]).length = pre.length + 1 := by simp
      have hJ2 : J (s ++ (((wl.take m).flatMap fun n => enumH h k (pre ++ [n])).map fun x => ⟨o, x⟩)) F1 (updH H1 bs (.box ((pad7 o ++ hs1.set pre.length (h.touches[pre.length].lo + (m : Int))).map i6))) :=
        T.stable _ _ _ _ hJ1 (fun x hx => by rw [updH_ne _ _ (fun e => m2 (by rw [← e]; exact hx))])
      have hcall := ih (pre ++ [wl[m]]) (s ++ (((wl.take m).flatMap fun n => enumH h k (pre ++ [n])).map fun x => ⟨o, x⟩)) F1 (updH H1 bs (.box ((pad7 o ++ hs1.set pre.length (h.touches[pre.length].lo + (m : Int))).map i6))) (hs1.set pre.length wl[m]) (by rw [hlen]; omega) (by simp [hs61]) (by
          rw [hlen, List.take_add_one, List.take_set_of_le (Nat.le_refl _), htake1, List.getElem?_set_self (by omega)]; rfl)
        (by rw [List.drop_set_of_lt hpl]; exact hdrop1) (by
          refine List.IsPrefix.trans ?_ hfull
          rw [List.append_assoc]
          refine List.prefix_append_right_inj _ |>.2 ?_
          rw [henum, ← List.map_append]
          conv => rhs; rw [← List.take_append_drop m wl, List.drop_eq_getElem_cons hlt']
          rw [List.flatMap_append, List.flatMap_cons, ← List.append_assoc, List.map_append, List.map_append, List.map_append]
          exact List.prefix_append _ _) hJ2 m1 m2 m3 (by rw [updH_ne _ _ h1]; exact hy1) (by rw [hwm]; exact updH_same _ _ _) (by rw [updH_ne _ _ h2]; exact hbc1)
      rw [hlen] at hcall
      refine hcall.mono ?_
      rintro r H2 ⟨F2, hs2, hfr2, hbo2, hs62, htake2, hdrop2, hcase⟩
      have hfr12 : Frame0 F1 H1 bs F1 (updH H1 bs (.box ((pad7 o ++ hs1.set pre.length (h.touches[pre.length].lo + (m : Int))).map i6))) := ⟨fun x h => .inl h, fun x _ hx _ => updH_ne _ _ hx⟩
      have hfrA := (hfr.trans hfr12 ⟨_, hbo1⟩).trans hfr2 ⟨_, updH_same _ _ _⟩
      have htk : hs2.take pre.length = pre := by
        have := congrArg (List.take pre.length) htake2
        rw [List.take_take, List.take_left', Nat.min_eq_left (by simp)] at this
        · exact this
        · rfl
      rcases hcase with ⟨rfl, hJ3⟩ | ⟨rfl, l1, l2, hl, hE3⟩
      · simp only [go_sem, reduceIte, reduceCtorEq, Nat.reduceEqDiff, Nat.reduceBEq, Nat.reduceAdd, Nat.reduceMul, Nat.reduceLeDiff, g0, g1, g3, g4, g7, hN, hinc, hltc]
        refine ⟨F2, hs2, hfrA, hbo2, hs62, htk, hdrop2, ?_, by rw [hinc2]⟩
        rw [List.take_add_one, List.getElem?_eq_getElem hlt', Option.toList_some, List.flatMap_append, List.map_append, ← List.append_assoc]
        simpa using hJ3
      · simp only [go_sem, reduceIte, reduceCtorEq, Nat.reduceEqDiff, Nat.reduceBEq, Nat.reduceAdd, Nat.reduceMul, Nat.reduceLeDiff, g0, g1, g3, g4, g7, hN]
        refine fin_ret' 6 (by simp [upd_at, hN]) ?_
        simp only [upd_at, if_true]
        refine ⟨F2, hs2, hfrA, hbo2, hs62, htk, hdrop2, .inr ⟨trivial, (((wl.take m).flatMap fun n => enumH h k (pre ++ [n])).map fun x => ⟨o, x⟩) ++ l1, l2 ++ (((wl.drop (m + 1)).flatMap fun n => enumH h k (pre ++ [n])).map fun x => ⟨o, x⟩), ?_, by rw [← List.append_assoc]; exact hE3⟩⟩
        rw [henum]
        conv => lhs; rw [← List.take_append_drop m wl, List.drop_eq_getElem_cons hlt']
        rw [List.flatMap_append, List.flatMap_cons, List.map_append, List.map_append, hl]
        simp only [List.append_assoc]
    · simp only [go_sem, reduceIte, reduceCtorEq, Nat.reduceEqDiff, Nat.reduceBEq, Nat.reduceAdd, Nat.reduceMul, Nat.reduceLeDiff, g0, g1, g3, g4, g7, hN, hlt, map_get (f := eTo) hpl, eTo, take_f', List.getElem?_cons_zero]
      have : m = wl.length := by omega
      subst this
      refine fin_ret' 6 (by simp [upd_at, hN]) ?_
      simp only [upd_at, if_true]
      refine ⟨F1, hs1, hfr, hbo1, hs61, htake1, hdrop1, .inl ⟨trivial, ?_⟩⟩
      rw [henum]
      rw [List.take_length] at hJ1
      exact hJ1
end
end Go.Lift

set_option linter.unusedSimpArgs false
set_option linter.unusedVariables false
namespace Go.Lift
open Go Go.Proofs
section
variable {P : Program} {H : AHeap} {env : Env} {K : Env → AHeap → Prop}
def gone (P : Program) (v : AV) (b : Bool) (d : Nat) (tag : Tag) (xs : List Opd) (us : List AOp) (t : ATr) (K : Env → AHeap → Prop) (env : Env) (H : AHeap) : Prop := match v with
  | .bool c => if c = b then aopV P tag (xs.map (ev env)) H (ContL P us t K env d) else ContL P us t K env d (.tup []) H
  | .tup [] => ContL P us t K env d (.tup []) H
  | _ => False
theorem l_oneg (d : Nat) (tag : Tag) (xs : List Opd) (tt : Nat) (b : Bool) (us : List AOp) (t : ATr) : atl P (.one ⟨some d, tag, xs, some (tt, b)⟩ us t) K env H = gone P (env tt) b d tag xs us t K env H := _root_.id rfl
theorem go_ff (d : Nat) (tag : Tag) (xs : List Opd) (us : List AOp) (t : ATr) : gone P (.bool false) false d tag xs us t K env H = aopV P tag (xs.map (ev env)) H (ContL P us t K env d) := _root_.id rfl
theorem go_tf (d : Nat) (tag : Tag) (xs : List Opd) (us : List AOp) (t : ATr) : gone P (.bool true) false d tag xs us t K env H = ContL P us t K env d (.tup []) H := _root_.id rfl
theorem pgo_here {fr' : Unit} {K : Env → Prop} {d : Nat} {f : FuncId} {xs : List AV} {rest : List (Bool × AOp)} {r : AV}
    (hp : ACalls P f xs H fun r' H' => r' = r ∧ H' = H) (h : apre P rest (upd env d r) H K) : pgo P true false d (.call f) xs rest K env H := ⟨r, hp, h⟩
end
theorem pad7_of {o pre : List Int} {n : Nat} (h1 : o.take pre.length = pre) (h2 : o.drop n = List.replicate (7 - n) 0) (hn : pre.length = n) : o = pad7 pre := by
  simp only [pad7, padTo, List.take_length]
  conv => lhs; rw [← List.take_append_drop n o]
  rw [h2, ← hn, h1]
section
variable {yv : AV} {full : List Course} {J E : List Course → (Nat → Prop) → AHeap → Prop}
theorem ownGo_c (h : House) (hv : HV h) (T : Taker Tryz.prog yv eSc full J E) (by_ bs bt bw bo : Nat) (h1 : by_ ≠ bs) (h2 : bt ≠ bs) (h3 : bw ≠ bs) (h4 : bo ≠ bs) :
    ∀ (k : Nat) (pre : List Int) (s : List Course) (F : Nat → Prop) (H : AHeap) (o hs : List Int), pre.length + k = h.table.pieces.length → o.length = 7 → o.take pre.length = pre → o.drop h.table.pieces.length = List.replicate (7 - h.table.pieces.length) 0 →
      hs.length = 6 → hs.drop h.touches.length = List.replicate (6 - h.touches.length) 0 →
      s ++ (enumW (whoseT h.table) k pre).flatMap (coursesOf h) <+: full → J s F H → ¬ F by_ → ¬ F bs → ¬ F bt → ¬ F bw → ¬ F bo → H by_ = some (.box [yv]) → H bs = some (.box ((o ++ hs).map i6)) →
      H bt = some (.box [.func (.func 154) [] [.elem (hCells h), .ptr by_ 0, .ptr bs 0, .ptr bt 0]]) → H bw = some (.box [eII (whoseT h.table)]) →
      H bo = some (.box [.func (.func 153) [] [.elem (hCells h), .ptr bs 0, .ptr bt 0, .ptr bw 0, .ptr bo 0]]) →
      ACalls Tryz.prog 153 [i6 pre.length, .elem (hCells h), .ptr bs 0, .ptr bt 0, .ptr bw 0, .ptr bo 0] H fun r H' => ∃ F' o' hs', Frame0 F H bs F' H' ∧ H' bs = some (.box (List.map i6 (o' ++ hs'))) ∧ o'.length = 7 ∧ o'.take pre.length = pre ∧ o'.drop h.table.pieces.length = List.replicate (7 - h.table.pieces.length) 0 ∧
        hs'.length = 6 ∧ hs'.drop h.touches.length = List.replicate (6 - h.touches.length) 0 ∧
        ((r = .bool true ∧ J (s ++ (enumW (whoseT h.table) k pre).flatMap (coursesOf h)) F' H') ∨ (r = .bool false ∧ ∃ l1 l2, (enumW (whoseT h.table) k pre).flatMap (coursesOf h) = l1 ++ l2 ∧ E (s ++ l1) F' H')) := by
  have hm6 := hv.ok.touches
  have hp7 := hv.ok.pcs
  intro k
  induction k with
  | zero =>
    intro pre s F H o hs hk ho htake hdrop hs6 hsd hfull hJ n1 n2 n3 n4 n5 hy hbs hbt hbw hbo
    refine fn_of hmix fc153 (by simp) ?_
    rw [ienv6]
    have hpl : pre.length = h.table.pieces.length := by omega
    have hop := pad7_of htake hdrop hpl
    simp only [go_sem, reduceIte, reduceCtorEq, Nat.reduceEqDiff, Nat.reduceBEq, Nat.reduceAdd, Nat.reduceMul, Nat.reduceLeDiff, ac153, hCells, hpl]
    refine (pieces_c h).go ?_
    simp only [go_sem, reduceIte, reduceCtorEq, Nat.reduceEqDiff, Nat.reduceBEq, Nat.reduceAdd, Nat.reduceMul, Nat.reduceLeDiff, show (h.table.pieces.length : Int) ≤ ((7 : Nat) : Int) by omega]
    have htk : (o ++ hs).take h.table.pieces.length = pre := by
      rw [List.take_append_of_le_length (by omega), ← hpl, htake]
    have hcall := borrow (x := eT h.table) (n := h.table.pieces.length) (cap := 7) (l := o ++ hs) (r := isTruthT h.table pre) hbs (by simp; omega) hp7 (by rw [htk]; exact proveTruth_c h.table pre hv.ok.sm (by unfold Sm; omega))
    refine pgo_here (fr' := ()) hcall ?_
    cases hT : isTruthT h.table pre
    · have hco : (enumW (whoseT h.table) 0 pre).flatMap (coursesOf h) = [] := by simp [enumW, coursesOf, hT]
      simp only [go_sem, reduceIte, reduceCtorEq, Nat.reduceEqDiff, Nat.reduceBEq, Nat.reduceAdd, Nat.reduceMul, Nat.reduceLeDiff, ↓l_oneg, go_tf]
      refine fin_ret' 7 (by simp [upd_at]) ?_
      simp only [upd_at, if_true]
      rw [hco]
      exact ⟨F, o, hs, Frame0.refl _ _ _, hbs, ho, by rw [← hpl]; exact htake, hdrop, hs6, hsd, .inl ⟨trivial, by simpa using hJ⟩⟩
    · have hco : (enumW (whoseT h.table) 0 pre).flatMap (coursesOf h) = (enumH h h.touches.length []).map fun hs => ⟨pre, hs⟩ := by simp [enumW, coursesOf, hT]
      rw [hco] at hfull
      simp only [go_sem, reduceIte, reduceCtorEq, Nat.reduceEqDiff, Nat.reduceBEq, Nat.reduceAdd, Nat.reduceMul, Nat.reduceLeDiff, ↓l_oneg, go_ff, hbt, take_f', List.getElem?_cons_zero, List.nil_append, List.cons_append]
      have hg := touchGo_c h hv T by_ bs bt h1 h2 pre (by rw [← hop]; exact ho) h.touches.length [] s F H hs (by simp) hs6 rfl hsd hfull hJ n1 n2 n3 hy (by rw [← hop]; exact hbs) hbt
      refine hg.mono ?_
      rintro r H' ⟨F', hs', hfr, hbs', hs6', _, hsd', hcase⟩
      have hrb : ∃ rb, r = .bool rb := by rcases hcase with ⟨rfl, _⟩ | ⟨rfl, _⟩ <;> exact ⟨_, rfl⟩
      obtain ⟨rb, rfl⟩ := hrb
      simp only [go_sem, reduceIte, reduceCtorEq, Nat.reduceEqDiff, Nat.reduceBEq, Nat.reduceAdd, Nat.reduceMul, Nat.reduceLeDiff]
      refine fin_ret' 7 (by simp [upd_at]) ?_
      simp only [upd_at, if_true]
      rw [hco]
      exact ⟨F', o, hs', hfr, by rw [hop]; exact hbs', ho, by rw [← hpl]; exact htake, hdrop, hs6', hsd', hcase⟩
  | succ k ih =>
    intro pre s F H o hs hk ho htake hdrop hs6 hsd hfull hJ n1 n2 n3 n4 n5 hy hbs hbt hbw hbo
    refine fn_of hmix fc153 (by simp) ?_
    rw [ienv6]
    have hpl : pre.length < h.table.pieces.length := by omega
    have hne : ¬ ((pre.length : Int) = (h.table.pieces.length : Int)) := by omega
    have hwlen : (whoseT h.table).length = h.table.pieces.length := by simp [whoseT]
    have hpw : pre.length < (whoseT h.table).length := by omega
    have hgp : (whoseT h.table).getD pre.length [] = (whoseT h.table)[pre.length] := by simp [hpw]
    obtain ⟨wl, hwl⟩ : ∃ wl, wl = (whoseT h.table)[pre.length] := ⟨_, rfl⟩
    have hwl5 : wl.length ≤ 5 := by
      have := whoIs_len h.table pre.length h.table.women.length
      have h5 := (checkTable_len hv.tab).1
      simp [hwl, whoseT]; omega
    have henum : enumW (whoseT h.table) (k + 1) pre = wl.flatMap fun n => enumW (whoseT h.table) k (pre ++ [n]) := by simp only [enumW, hgp, hwl]
    simp only [go_sem, reduceIte, reduceCtorEq, Nat.reduceEqDiff, Nat.reduceBEq, Nat.reduceAdd, Nat.reduceMul, Nat.reduceLeDiff, ac153, hCells]
    refine (pieces_c h).go ?_
    simp only [go_sem, reduceIte, reduceCtorEq, Nat.reduceEqDiff, Nat.reduceBEq, Nat.reduceAdd, Nat.reduceMul, Nat.reduceLeDiff, hne, hbw, take_f', List.getElem?_cons_zero, eII, map_get (f := fun x : List Int => [AV.slice (eI x)]) hpw, ← hwl]
    refine x_for wl.length (fun m env H' => ∃ F' o' hs', Frame0 F H bs F' H' ∧ H' bs = some (.box (List.map i6 (o' ++ hs'))) ∧ o'.length = 7 ∧ o'.take pre.length = pre ∧ o'.drop h.table.pieces.length = List.replicate (7 - h.table.pieces.length) 0 ∧ hs'.length = 6 ∧ hs'.drop h.touches.length = List.replicate (6 - h.touches.length) 0 ∧ J (s ++ ((wl.take m).flatMap fun n => enumW (whoseT h.table) k (pre ++ [n])).flatMap (coursesOf h)) F' H' ∧
        env 0 = i6 pre.length ∧ env 2 = .ptr bs 0 ∧ env 5 = .ptr bo 0 ∧ env 28 = .slice (eI wl) ∧ env 29 = i6 wl.length ∧ env 30 = i6 m ∧ env 44 = .any)
      ⟨F, o, hs, Frame0.refl _ _ _, hbs, ho, htake, hdrop, hs6, hsd, by simpa using hJ, by simp [upd_at], by simp [upd_at], by simp [upd_at], by simp [upd_at], by simp [upd_at], by simp [upd_at], by simp [upd_at]⟩ ?_
    rintro m env H1 hm ⟨F1, o1, hs1, hfr, hbs1, ho1, htake1, hdrop1, hs61, hsd1, hJ1, g0, g2, g5, g28, g29, g30, hN⟩
    have hy1 : H1 by_ = some (.box [yv]) := by rw [hfr.kept by_ n1 h1 ⟨_, hy⟩]; exact hy
    have hbt1 := (hfr.kept bt n3 h2 ⟨_, hbt⟩).trans hbt
    have hbw1 := (hfr.kept bw n4 h3 ⟨_, hbw⟩).trans hbw
    have hbo1 := (hfr.kept bo n5 h4 ⟨_, hbo⟩).trans hbo
    have m1 := hfr.out n1 ⟨_, hy⟩
    have m2 := hfr.out n2 ⟨_, hbs⟩
    have m3 := hfr.out n3 ⟨_, hbt⟩
    have m4 := hfr.out n4 ⟨_, hbw⟩
    have m5 := hfr.out n5 ⟨_, hbo⟩
    by_cases hlt : (m : Int) < (wl.length : Int)
    · have hlt' : m < wl.length := by omega
      simp only [go_sem, reduceIte, reduceCtorEq, Nat.reduceEqDiff, Nat.reduceBEq, Nat.reduceAdd, Nat.reduceMul, Nat.reduceLeDiff, g0, g2, g5, g28, g29, g30, hN, hlt, eI_get hlt', show (pre.length : Int) < ((7 : Nat) : Int) by omega, Nat.mul_one]
      rw [v_store]
      refine ⟨rfl, rfl, by simp [AV.cells, AV.isCell], _, hbs1, by simp [ho1]; omega, ?_⟩
      rw [show (AV.int .i64 wl[m]).cells = [i6 wl[m]] from rfl, iset _ _ _ (by simp [ho1]; omega)]
      have hset : (o1 ++ hs1).set pre.length wl[m] = o1.set pre.length wl[m] ++ hs1 := by
        rw [List.set_append_left _ _ (by omega)]
      rw [hset]
      simp only [go_sem, reduceIte, reduceCtorEq, Nat.reduceEqDiff, Nat.reduceBEq, Nat.reduceAdd, Nat.reduceMul, Nat.reduceLeDiff, g0, g2, g5, g28, g29, g30, hN, updH_ne _ _ h4, hbo1, wsucc (show pre.length < 4611686018427387904 by omega), List.nil_append, List.cons_append, take_f', List.getElem?_cons_zero]
      have hlen : (pre ++ [wl[m]]).length = pre.length + 1 := by simp
      have hJ2 : J (s ++ ((wl.take m).flatMap fun n => enumW (whoseT h.table) k (pre ++ [n])).flatMap (coursesOf h)) F1 (updH H1 bs (.box ((o1.set pre.length wl[m] ++ hs1).map i6))) :=
        T.stable _ _ _ _ hJ1 (fun x hx => by rw [updH_ne _ _ (fun e => m2 (by rw [← e]; exact hx))])
      have hcall := ih (pre ++ [wl[m]]) (s ++ ((wl.take m).flatMap fun n => enumW (whoseT h.table) k (pre ++ [n])).flatMap (coursesOf h)) F1 (updH H1 bs (.box ((o1.set pre.length wl[m] ++ hs1).map i6))) (o1.set pre.length wl[m]) hs1 (by rw [hlen]; omega) (by simp [ho1]) (by
          rw [hlen, List.take_add_one, List.take_set_of_le (Nat.le_refl _), htake1, List.getElem?_set_self (by omega)]; rfl)
        (by rw [List.drop_set_of_lt hpl]; exact hdrop1) hs61 hsd1 (by
          refine List.IsPrefix.trans ?_ hfull
          rw [List.append_assoc]
          refine List.prefix_append_right_inj _ |>.2 ?_
          rw [henum]
          conv => rhs; rw [← List.take_append_drop m wl, List.drop_eq_getElem_cons hlt']
          rw [List.flatMap_append, List.flatMap_cons, ← List.append_assoc, List.flatMap_append, List.flatMap_append]
          exact List.prefix_append _ _) hJ2 m1 m2 m3 m4 m5 (by rw [updH_ne _ _ h1]; exact hy1) (updH_same _ _ _) (by rw [updH_ne _ _ h2]; exact hbt1) (by rw [updH_ne _ _ h3]; exact hbw1) (by rw [updH_ne _ _ h4]; exact hbo1)
      rw [hlen] at hcall
      refine hcall.mono ?_
      rintro r H2 ⟨F2, o2, hs2, hfr2, hbs2, ho2, htake2, hdrop2, hs62, hsd2, hcase⟩
      have hfr12 : Frame0 F1 H1 bs F1 (updH H1 bs (.box ((o1.set pre.length wl[m] ++ hs1).map i6))) := ⟨fun x h => .inl h, fun x _ hx _ => updH_ne _ _ hx⟩
      have hfrA := (hfr.trans hfr12 ⟨_, hbs1⟩).trans hfr2 ⟨_, updH_same _ _ _⟩
      have htk : o2.take pre.length = pre := by
        have := congrArg (List.take pre.length) htake2
        rw [List.take_take, List.take_left', Nat.min_eq_left (by simp)] at this
        · exact this
        · rfl
      rcases hcase with ⟨rfl, hJ3⟩ | ⟨rfl, l1, l2, hl, hE3⟩
      · simp only [go_sem, reduceIte, reduceCtorEq, Nat.reduceEqDiff, Nat.reduceBEq, Nat.reduceAdd, Nat.reduceMul, Nat.reduceLeDiff, g0, g2, g5, g28, g29, g30, hN, wsucc (show m < 4611686018427387904 by omega), hlt']
        refine ⟨F2, o2, hs2, hfrA, hbs2, ho2, htk, hdrop2, hs62, hsd2, ?_⟩
        rw [List.take_add_one, List.getElem?_eq_getElem hlt', Option.toList_some, List.flatMap_append, List.flatMap_append, ← List.append_assoc]
        simpa using hJ3
      · simp only [go_sem, reduceIte, reduceCtorEq, Nat.reduceEqDiff, Nat.reduceBEq, Nat.reduceAdd, Nat.reduceMul, Nat.reduceLeDiff, g0, g2, g5, g28, g29, g30, hN]
        refine fin_ret' 7 (by simp [upd_at, hN]) ?_
        simp only [upd_at, if_true]
        refine ⟨F2, o2, hs2, hfrA, hbs2, ho2, htk, hdrop2, hs62, hsd2, .inr ⟨trivial, ((wl.take m).flatMap fun n => enumW (whoseT h.table) k (pre ++ [n])).flatMap (coursesOf h) ++ l1, l2 ++ ((wl.drop (m + 1)).flatMap fun n => enumW (whoseT h.table) k (pre ++ [n])).flatMap (coursesOf h), ?_, by rw [← List.append_assoc]; exact hE3⟩⟩
        rw [henum]
        conv => lhs; rw [← List.take_append_drop m wl, List.drop_eq_getElem_cons hlt']
        rw [List.flatMap_append, List.flatMap_cons, List.flatMap_append, List.flatMap_append, hl]
        simp only [List.append_assoc]
    · simp only [go_sem, reduceIte, reduceCtorEq, Nat.reduceEqDiff, Nat.reduceBEq, Nat.reduceAdd, Nat.reduceMul, Nat.reduceLeDiff, g0, g2, g5, g28, g29, g30, hN, hlt]
      have : m = wl.length := by omega
      subst this
      refine fin_ret' 7 (by simp [upd_at, hN]) ?_
      simp only [upd_at, if_true]
      refine ⟨F1, o1, hs1, hfr, hbs1, ho1, htake1, hdrop1, hs61, hsd1, .inl ⟨trivial, ?_⟩⟩
      rw [henum]
      rw [List.take_length] at hJ1
      exact hJ1
end
end Go.Lift

set_option linter.unusedSimpArgs false
set_option linter.unusedVariables false
namespace Go.Lift
open Go Go.Proofs
theorem c_func (f : Fn) (a b : List AV) : (AV.func f a b).cells = [.func f a b] := _root_.id rfl
theorem placeOne (x y : AV) : placeAt [x] 0 [y] = [y] := by simp [placeAt]
theorem scenes_c (h : House) : Pure Tryz.prog 126 [eH h] (.func (.func 152) [] [.elem (hCells h)]) := by
  intro H
  refine fn_of hmix fc126 (by simp) ?_
  rw [ienv1]
  simp only [go_sem, reduceIte, reduceCtorEq, Nat.reduceEqDiff, Nat.reduceBEq, Nat.reduceAdd, Nat.reduceMul, Nat.reduceLeDiff, ac126, eH]
  refine v_box _ rfl fun b hb => ?_
  simp only [go_sem, reduceIte, reduceCtorEq, Nat.reduceEqDiff, Nat.reduceBEq, Nat.reduceAdd, Nat.reduceMul, Nat.reduceLeDiff]
  refine fin_ret 2 (by simp [upd_at]) ⟨_, H, ?_, rfl, rfl⟩
  simp only [upd_at, if_true]
  exact settle_func (updH_same _ _ _) ((Ext.refl H).new hb _) hb

theorem scenesGo_c (h : House) (hv : HV h) {fn : Fn} {ff fc : List AV} {J E : List Course → (Nat → Prop) → AHeap → Prop} (T : Taker Tryz.prog (.func fn ff fc) eSc (allC h) J E) (F : Nat → Prop) (H : AHeap) (hJ : J [] F H) :
    ACalls Tryz.prog 152 [.func fn ff fc, .elem (hCells h)] H fun r H' => r = .tup [] ∧ ∃ F', (∀ x, F' x → F x ∨ H x = none) ∧ (∀ x, ¬ F x → (∃ o, H x = some o) → H' x = H x) ∧
      (J (allC h) F' H' ∨ ∃ l1 l2, allC h = l1 ++ l2 ∧ E l1 F' H') := by
  have hm6 := hv.ok.touches
  have hp7 := hv.ok.pcs
  refine fn_of hmix fc152 (by simp) ?_
  rw [ienv2]
  simp only [go_sem, reduceIte, reduceCtorEq, Nat.reduceEqDiff, Nat.reduceBEq, Nat.reduceAdd, Nat.reduceMul, Nat.reduceLeDiff, ac152, hCells]
  refine v_box _ rfl fun b1 hb1 => ?_
  simp only [go_sem, reduceIte, reduceCtorEq, Nat.reduceEqDiff, Nat.reduceBEq, Nat.reduceAdd, Nat.reduceMul, Nat.reduceLeDiff]
  refine v_alloc fun b2 hb2 => ?_
  simp only [go_sem, reduceIte, reduceCtorEq, Nat.reduceEqDiff, Nat.reduceBEq, Nat.reduceAdd, Nat.reduceMul, Nat.reduceLeDiff]
  refine (whose_c h.table hv.ok.sm).go ?_
  simp only [go_sem, reduceIte, reduceCtorEq, Nat.reduceEqDiff, Nat.reduceBEq, Nat.reduceAdd, Nat.reduceMul, Nat.reduceLeDiff, whoseR, hv.ask, List.getElem?_cons_zero, List.getElem?_cons_succ]
  refine v_alloc fun b3 hb3 => ?_
  simp only [go_sem, reduceIte, reduceCtorEq, Nat.reduceEqDiff, Nat.reduceBEq, Nat.reduceAdd, Nat.reduceMul, Nat.reduceLeDiff, List.getElem?_cons_zero, List.getElem?_cons_succ]
  rw [v_store]
  refine ⟨rfl, rfl, by simp [AV.cells, AV.isCell, eII], _, updH_same _ _ _, by simp, ?_⟩
  rw [show (eII (whoseT h.table)).cells = [eII (whoseT h.table)] from rfl, placeAll [.emp] [eII (whoseT h.table)] rfl]
  simp only [go_sem, reduceIte, reduceCtorEq, Nat.reduceEqDiff, Nat.reduceBEq, Nat.reduceAdd, Nat.reduceMul, Nat.reduceLeDiff, List.getElem?_cons_zero, List.getElem?_cons_succ]
  refine v_alloc fun b4 hb4 => ?_
  simp only [go_sem, reduceIte, reduceCtorEq, Nat.reduceEqDiff, Nat.reduceBEq, Nat.reduceAdd, Nat.reduceMul, Nat.reduceLeDiff]
  refine v_alloc fun b5 hb5 => ?_
  simp only [go_sem, reduceIte, reduceCtorEq, Nat.reduceEqDiff, Nat.reduceBEq, Nat.reduceAdd, Nat.reduceMul, Nat.reduceLeDiff]
  rw [v_store]
  have n12 : b1 ≠ b2 := fun h => by subst h; simp at hb2
  have n13 : b1 ≠ b3 := fun h => by subst h; simp [updH, n12] at hb3
  have n23 : b2 ≠ b3 := fun h => by subst h; simp at hb3
  have n14 : b1 ≠ b4 := fun h => by subst h; simp [updH, n12, n13] at hb4
  have n24 : b2 ≠ b4 := fun h => by subst h; simp [updH, n23] at hb4
  have n34 : b3 ≠ b4 := fun h => by subst h; simp at hb4
  have n15 : b1 ≠ b5 := fun h => by subst h; simp [updH, n12, n13, n14] at hb5
  have n25 : b2 ≠ b5 := fun h => by subst h; simp [updH, n23, n24] at hb5
  have n35 : b3 ≠ b5 := fun h => by subst h; simp [updH, n34] at hb5
  have n45 : b4 ≠ b5 := fun h => by subst h; simp at hb5
  refine ⟨rfl, rfl, by simp [AV.cells, AV.isCell], [.nilf], by rw [updH_ne _ _ n45]; exact updH_same _ _ _, by simp, ?_⟩
  simp only [c_func, placeOne]
  simp only [go_sem, reduceIte, reduceCtorEq, Nat.reduceEqDiff, Nat.reduceBEq, Nat.reduceAdd, Nat.reduceMul, Nat.reduceLeDiff]
  rw [v_store]
  refine ⟨rfl, rfl, by simp [AV.cells, AV.isCell], [.nilf], by rw [updH_ne _ _ n45.symm]; exact updH_same _ _ _, by simp, ?_⟩
  simp only [c_func, placeOne]
  generalize hHH : updH _ b5 (.box [.func (.func 154) [] [_, .ptr b1 0, .ptr b2 0, .ptr b5 0]]) = HH
  have B5 : HH b5 = some (.box [.func (.func 154) [] [.elem (hCells h), .ptr b1 0, .ptr b2 0, .ptr b5 0]]) := by subst hHH; exact updH_same _ _ _
  have B4 : HH b4 = some (.box [.func (.func 153) [] [.elem (hCells h), .ptr b2 0, .ptr b5 0, .ptr b3 0, .ptr b4 0]]) := by subst hHH; rw [updH_ne _ _ n45]; exact updH_same _ _ _
  have B1 : HH b1 = some (.box [.func fn ff fc]) := by subst hHH; simp [updH, n12, n13, n14, n15, AV.cells]
  have B2 : HH b2 = some (.box ((List.replicate 7 (0 : Int) ++ List.replicate 6 0).map i6)) := by subst hHH; simp [updH, n23, n24, n25]
  have B3 : HH b3 = some (.box [eII (whoseT h.table)]) := by subst hHH; simp [updH, n34, n35]
  have e1 : Ext H (updH H b1 (.box (AV.func fn ff fc).cells)) := (Ext.refl H).new hb1 _
  have z2 : H b2 = none := e1.isNone hb2
  have e2 := e1.new hb2 (.box [.int .i64 0, .int .i64 0, .int .i64 0, .int .i64 0, .int .i64 0, .int .i64 0, .int .i64 0, .int .i64 0, .int .i64 0, .int .i64 0, .int .i64 0, .int .i64 0, .int .i64 0])
  have z3 : H b3 = none := e2.isNone hb3
  have e3 := (e2.new hb3 (.box [.emp])).upd z3 (.box [eII (whoseT h.table)])
  have z4 : H b4 = none := e3.isNone hb4
  have e4 := e3.new hb4 (.box [.nilf])
  have z5 : H b5 = none := e4.isNone hb5
  have hother : ∀ x, x ≠ b1 → x ≠ b2 → x ≠ b3 → x ≠ b4 → x ≠ b5 → HH x = H x := fun x h1 h2 h3 h4 h5 => by subst hHH; simp [updH, h1, h2, h3, h4, h5]
  clear hHH
  have hdom := T.dom _ _ _ hJ
  have hF : ∀ x, H x = none → ¬ F x := fun x hx h => by obtain ⟨o, ho⟩ := hdom x h; rw [ho] at hx; cases hx
  have hJ' : J [] F HH := T.stable _ _ _ _ hJ (fun x hx => hother x (fun h => hF _ hb1 (h ▸ hx)) (fun h => hF _ z2 (h ▸ hx)) (fun h => hF _ z3 (h ▸ hx)) (fun h => hF _ z4 (h ▸ hx)) (fun h => hF _ z5 (h ▸ hx)))
  simp only [go_sem, reduceIte, reduceCtorEq, Nat.reduceEqDiff, Nat.reduceBEq, Nat.reduceAdd, Nat.reduceMul, Nat.reduceLeDiff, B4, take_f', List.getElem?_cons_zero, List.nil_append, List.cons_append]
  have hc := ownGo_c h hv T b1 b2 b5 b3 b4 n12 n25.symm n23.symm n24.symm h.table.pieces.length [] [] F HH (List.replicate 7 0) (List.replicate 6 0) (by simp) (by simp) rfl (by rw [List.drop_replicate]) (by simp) (by rw [List.drop_replicate]) (by simp [allC]) hJ' (hF _ hb1) (hF _ z2) (hF _ z5) (hF _ z3) (hF _ z4) B1 B2 B5 B3 B4
  refine hc.mono ?_
  rintro r H2 ⟨F2, o2, hs2, hfr, _, _, _, _, _, _, hcase⟩
  simp only [go_sem, reduceIte, reduceCtorEq, Nat.reduceEqDiff, Nat.reduceBEq, Nat.reduceAdd, Nat.reduceMul, Nat.reduceLeDiff]
  refine fin_none (by simp [upd_at]) ⟨rfl, F2, fun x hx => ?_, fun x hx hh => ?_, ?_⟩
  · rcases hfr.foot x hx with h | h
    · exact .inl h
    · right
      by_cases h1 : x = b1
      · subst h1; exact hb1
      by_cases h2 : x = b2
      · subst h2; exact z2
      by_cases h3 : x = b3
      · subst h3; exact z3
      by_cases h4 : x = b4
      · subst h4; exact z4
      by_cases h5 : x = b5
      · subst h5; exact z5
      rw [← hother x h1 h2 h3 h4 h5]; exact h
  · obtain ⟨o, ho⟩ := hh
    have hne : ∀ y, H y = none → x ≠ y := fun y hy h => by rw [h, hy] at ho; cases ho
    have he := hother x (hne _ hb1) (hne _ z2) (hne _ z3) (hne _ z4) (hne _ z5)
    rw [hfr.kept x hx (hne _ z2) ⟨o, by rw [he]; exact ho⟩, he]
  · rcases hcase with ⟨_, h⟩ | ⟨_, l1, l2, hl, h⟩
    · exact .inl (by simpa [allC] using h)
    · exact .inr ⟨l1, l2, by simpa [allC] using hl, by simpa using h⟩
end Go.Lift

set_option linter.unusedSimpArgs false
set_option linter.unusedVariables false
namespace Go.Lift
open Go Go.Proofs
/-- The product of so many numbers, from one on. -/
def prodL (f : Nat → Nat) (a : Nat) : Nat → Nat
  | 0 => 1
  | k + 1 => f a * prodL f (a + 1) k
theorem prodL_snoc (f : Nat → Nat) : ∀ (k a : Nat), prodL f a (k + 1) = prodL f a k * f (a + k)
  | 0, a => by simp [prodL]
  | k + 1, a => by
    rw [prodL, prodL_snoc f k (a + 1), prodL, Nat.mul_assoc]
    congr 3; omega
theorem prodL_mono {f g : Nat → Nat} : ∀ (k a : Nat), (∀ i, a ≤ i → i < a + k → f i ≤ g i) → prodL f a k ≤ prodL g a k
  | 0, a, _ => Nat.le_refl _
  | k + 1, a, h => by
    rw [prodL, prodL]
    exact Nat.mul_le_mul (h a (by omega) (by omega)) (prodL_mono k (a + 1) fun i h1 h2 => h i (by omega) (by omega))
theorem sum_const {α : Type} (l : List α) (f : α → Nat) (c : Nat) (h : ∀ x ∈ l, f x = c) : (l.map f).sum = l.length * c := by
  induction l with
  | nil => simp
  | cons x l ih => rw [List.map_cons, List.sum_cons, ih (fun y hy => h y (List.mem_cons_of_mem _ hy)), h x (List.mem_cons_self), List.length_cons, Nat.add_mul]; omega
theorem enumW_len (wh : List (List Int)) : ∀ (k : Nat) (pre : List Int), (enumW wh k pre).length = prodL (fun i => (wh.getD i []).length) pre.length k
  | 0, pre => by simp [enumW, prodL]
  | k + 1, pre => by
    rw [enumW, List.length_flatMap, prodL, sum_const _ _ (prodL (fun i => (wh.getD i []).length) (pre.length + 1) k)]
    intro w _
    rw [enumW_len wh k, List.length_append, List.length_singleton]
def hourN (h : House) (i : Nat) : Nat := ((h.touches.getD i default).hi - (h.touches.getD i default).lo + 1).toNat
theorem enumH_len (h : House) : ∀ (k : Nat) (pre : List Int), (enumH h k pre).length = prodL (hourN h) pre.length k
  | 0, pre => by simp [enumH, prodL]
  | k + 1, pre => by
    rw [enumH, List.length_flatMap, prodL, sum_const _ _ (prodL (hourN h) (pre.length + 1) k)]
    · simp [hourN]
    intro w _
    rw [enumH_len h k, List.length_append, List.length_singleton]
def womN (t : Table) (i : Nat) : Nat := (womenOf t.women (t.pieces.getD i default).marks).length
theorem capmul (a b : Nat) (hb : 1 ≤ b) : (if (2001 : Int) < ((min 2001 a : Nat) : Int) * (b : Int) then 2001 else ((min 2001 a : Nat) : Int) * (b : Int)) = ((min 2001 (a * b) : Nat) : Int) := by
  rcases Nat.lt_or_ge 2001 a with h | h
  · rw [Nat.min_eq_left (by omega)]
    have h1 : 2001 ≤ a * b := Nat.le_trans (by omega) (Nat.le_mul_of_pos_right a hb)
    have h2 : (2001 : Int) ≤ ((2001 : Nat) : Int) * (b : Int) := by omega
    rw [Nat.min_eq_left h1]
    split <;> omega
  · rw [Nat.min_eq_right h]
    have h1 : (a : Int) * (b : Int) = ((a * b : Nat) : Int) := by simp
    rw [h1]
    split <;> omega
theorem manyUpto_eq (t : Table) (h : ∀ i, i < t.pieces.length → 1 ≤ womN t i) : ∀ j, j ≤ t.pieces.length → manyUpto t j = ((min 2001 (prodL (womN t) 0 j) : Nat) : Int)
  | 0, _ => by simp [manyUpto, prodL]
  | j + 1, hj => by
    rw [manyUpto, manyUpto_eq t h j (by omega), prodL_snoc, Nat.zero_add]
    exact capmul _ _ (h j (by omega))
theorem timesUpto_eq (h : House) (a : Nat) (ht : ∀ i, i < h.touches.length → 1 ≤ hourN h i) : ∀ j, j ≤ h.touches.length → timesUpto h ((min 2001 a : Nat) : Int) j = ((min 2001 (a * prodL (hourN h) 0 j) : Nat) : Int)
  | 0, _ => by simp [timesUpto, prodL]
  | j + 1, hj => by
    rw [timesUpto, timesUpto_eq h a ht j (by omega), prodL_snoc, Nat.zero_add, ← Nat.mul_assoc]
    have h1 := ht j (by omega)
    have h2 : (h.touches.getD j default).hi - (h.touches.getD j default).lo + 1 = ((hourN h j : Nat) : Int) := by unfold hourN at h1 ⊢; omega
    rw [h2]
    exact capmul _ _ h1
theorem womN_pos {t : Table} (hc : checkTable t = 0) : ∀ i, i < t.pieces.length → 1 ≤ womN t i := fun i hi => by
  unfold checkTable at hc
  split at hc
  · cases hc
  · split at hc
    · cases hc
    · rename_i h1
      simp only [not_or, Bool.not_eq_false] at h1
      have := List.all_eq_true.1 h1.2.2 _ (List.getElem_mem hi)
      simp only [pieceOK, Bool.and_eq_true, decide_eq_true_eq] at this
      have hg : t.pieces.getD i default = t.pieces[i] := by simp [hi]
      rw [womN, hg]; exact this.2
theorem prodO_le {t : Table} (hc : checkTable t = 0) : prodL (womN t) 0 t.pieces.length ≤ 2000 := by
  have h1 := manyUpto_eq t (womN_pos hc) t.pieces.length (Nat.le_refl _)
  unfold checkTable at hc
  split at hc
  · cases hc
  · split at hc
    · cases hc
    · split at hc
      · cases hc
      · omega
theorem hourN_pos {h : House} (hv : HV h) : ∀ i, i < h.touches.length → 1 ≤ hourN h i := fun i hi => by
  have := hv.tim _ (List.getElem_mem hi)
  have hg : h.touches.getD i default = h.touches[i] := by simp [hi]
  rw [hourN, hg]; omega
theorem manyH_eq {h : House} (hv : HV h) : manyH h = ((min 2001 (prodL (womN h.table) 0 h.table.pieces.length * prodL (hourN h) 0 h.touches.length) : Nat) : Int) := by
  rw [manyH, manyUpto_eq h.table (womN_pos hv.tab) _ (Nat.le_refl _), timesUpto_eq h _ (hourN_pos hv) _ (Nat.le_refl _)]
theorem whoIs_sub {t : Table} (hp : t.pieces.length ≤ 7) {i : Nat} (hi : i < t.pieces.length) : ∀ k ∈ whoIs t i t.women.length, k ∈ womenOf t.women (t.pieces.getD i default).marks := by
  intro k hk
  simp only [whoIs, List.mem_map, List.mem_filter, List.any_eq_true, decide_eq_true_eq] at hk
  obtain ⟨m, ⟨_, q, hq, hqi⟩, rfl⟩ := hk
  obtain ⟨o, ho, rfl, _⟩ := (truthsUpto_mem t _ q).1 hq
  obtain ⟨h1, h2⟩ := agg_ok_owners t o ((mem_allO t o).1 ho)
  rw [pad7_get o i (by omega)] at hqi
  have := h2 i hi
  rw [hqi] at this; exact this
theorem whoIs_le {t : Table} (hp : t.pieces.length ≤ 7) {i : Nat} (hi : i < t.pieces.length) : (whoIs t i t.women.length).length ≤ womN t i := by
  simp only [whoIs, womN, womenOf, womenUpto, List.length_map, ← List.countP_eq_length_filter]
  refine List.countP_mono_left fun k hk hp' => ?_
  have h1 := whoIs_sub hp hi (Int.ofNat k) (by
    simp only [whoIs, List.mem_map, List.mem_filter]
    exact ⟨k, ⟨hk, hp'⟩, rfl⟩)
  simp only [womenOf, womenUpto, List.mem_map, List.mem_filter] at h1
  obtain ⟨k', ⟨_, h2⟩, h3⟩ := h1
  have : k' = k := Int.ofNat.inj h3
  subst this; exact h2
theorem allC_len {h : House} (hv : HV h) : (allC h).length ≤ 2000 := by
  have hm := hv.many
  have h1 : (allC h).length ≤ (enumW (whoseT h.table) h.table.pieces.length []).length * prodL (hourN h) 0 h.touches.length := by
    rw [allC, List.length_flatMap]
    generalize enumW (whoseT h.table) h.table.pieces.length [] = l
    induction l with
    | nil => simp
    | cons o l ih =>
      rw [List.map_cons, List.sum_cons, List.length_cons, Nat.add_mul, Nat.one_mul]
      have : (coursesOf h o).length ≤ prodL (hourN h) 0 h.touches.length := by
        unfold coursesOf
        split
        · rw [List.length_map, enumH_len]; exact Nat.le_refl _
        · simp
      omega
  rw [enumW_len] at h1
  have h2 : prodL (fun i => ((whoseT h.table).getD i []).length) 0 h.table.pieces.length ≤ prodL (womN h.table) 0 h.table.pieces.length := by
    refine prodL_mono _ _ fun i _ hi => ?_
    have hi' : i < h.table.pieces.length := by omega
    have : (whoseT h.table).getD i [] = whoIs h.table i h.table.women.length := by simp [whoseT, hi']
    rw [this]; exact whoIs_le hv.ok.pcs hi'
  have h3 := Nat.mul_le_mul_right (prodL (hourN h) 0 h.touches.length) h2
  rw [manyH_eq hv] at hm
  have : ([] : List Int).length = 0 := rfl
  rw [this] at h1
  omega
end Go.Lift

set_option linter.unusedSimpArgs false
set_option linter.unusedVariables false
namespace Go.Lift
open Go Go.Proofs
theorem ACalls.weaken {P : Program} {f : FuncId} {xs ys : List AV} {H : AHeap} {R : AV → AHeap → Prop} (hl : xs.length = ys.length) (h : ∀ (i : Nat) (x y : AV), xs[i]? = some x → ys[i]? = some y → ∀ w v, Rep H w v x → Rep H w v y) (hc : ACalls P f ys H R) : ACalls P f xs H R := by
  refine ⟨hc.1, fun w vs hH hv => hc.2 w vs hH ⟨by rw [hv.1, hl], fun i y hy => ?_⟩⟩
  have hi : i < ys.length := by
    rcases Nat.lt_or_ge i ys.length with h | h
    · exact h
    · rw [List.getElem?_eq_none h] at hy; cases hy
  have hx : xs[i]? = some xs[i] := by simp [show i < xs.length by omega]
  exact h i _ y hx hy w _ (hv.2 i _ hx)
theorem Pure.emp1 {P : Program} {f : FuncId} {a r : AV} (hp : Pure P f [a, .slice []] r) : Pure P f [a, .emp] r := fun H => ACalls.weaken (xs := [a, .emp]) (ys := [a, .slice []]) rfl (hc := hp H) fun i x y hx hy w v hr => by
  match i, hx, hy with
  | 0, hx, hy => cases hx; cases hy; exact hr
  | 1, hx, hy => cases hx; cases hy; exact Rep.weaken_emp hr
theorem Pure.emp2 {P : Program} {f : FuncId} {a b r : AV} (hp : Pure P f [a, b, .slice []] r) : Pure P f [a, b, .emp] r := fun H => ACalls.weaken (xs := [a, b, .emp]) (ys := [a, b, .slice []]) rfl (hc := hp H) fun i x y hx hy w v hr => by
  match i, hx, hy with
  | 0, hx, hy => cases hx; cases hy; exact hr
  | 1, hx, hy => cases hx; cases hy; exact hr
  | 2, hx, hy => cases hx; cases hy; exact Rep.weaken_emp hr

def enumG (f : Nat → List Int) : Nat → List Int → List (List Int)
  | 0, pre => [pre]
  | k + 1, pre => (f pre.length).flatMap fun w => enumG f k (pre ++ [w])
theorem mem_enumG (f : Nat → List Int) : ∀ (k : Nat) (pre o : List Int), o ∈ enumG f k pre ↔ ∃ suf, o = pre ++ suf ∧ suf.length = k ∧ ∀ i, i < k → suf.getD i 0 ∈ f (pre.length + i)
  | 0, pre, o => by
    simp only [enumG, List.mem_singleton]
    constructor
    · rintro rfl; exact ⟨[], by simp, rfl, fun i h => by omega⟩
    · rintro ⟨suf, rfl, h, _⟩
      rw [List.length_eq_zero_iff.1 h]; simp
  | k + 1, pre, o => by
    simp only [enumG, List.mem_flatMap]
    constructor
    · rintro ⟨w, hw, ho⟩
      obtain ⟨suf, rfl, hl, hi⟩ := (mem_enumG f k _ o).1 ho
      refine ⟨w :: suf, by simp, by simp [hl], fun i h => ?_⟩
      cases i with
      | zero => simpa using hw
      | succ i =>
        have := hi i (by omega)
        simp only [List.length_append, List.length_singleton] at this
        rw [show pre.length + (i + 1) = pre.length + 1 + i by omega]
        simpa using this
    · rintro ⟨suf, rfl, hl, hi⟩
      cases suf with
      | nil => simp at hl
      | cons w suf =>
        refine ⟨w, by simpa using hi 0 (by omega), (mem_enumG f k _ _).2 ⟨suf, by simp, by simpa using hl, fun i h => ?_⟩⟩
        have := hi (i + 1) (by omega)
        simp only [List.length_append, List.length_singleton]
        rw [show pre.length + 1 + i = pre.length + (i + 1) by omega]
        simpa using this
theorem enumW_eq (wh : List (List Int)) : ∀ (k : Nat) (pre : List Int), enumW wh k pre = enumG (fun i => wh.getD i []) k pre
  | 0, _ => rfl
  | k + 1, pre => by simp only [enumW, enumG, enumW_eq wh k]
def hoursAt (h : House) (i : Nat) : List Int := (List.range (hourN h i)).map fun j : Nat => (h.touches.getD i default).lo + (j : Int)
theorem enumH_eq (h : House) : ∀ (k : Nat) (pre : List Int), enumH h k pre = enumG (hoursAt h) k pre
  | 0, _ => rfl
  | k + 1, pre => by simp only [enumH, enumG, enumH_eq h k]; rfl
theorem enumO_eq (t : Table) : ∀ (k : Nat) (pre : List Int), enumO t k pre = enumG (fun i => womenOf t.women (t.pieces.getD i default).marks) k pre
  | 0, _ => rfl
  | k + 1, pre => by simp only [enumO, enumG, enumO_eq t k]
theorem mem_hoursAt (h : House) (i : Nat) (n : Int) : n ∈ hoursAt h i ↔ (h.touches.getD i default).lo ≤ n ∧ n ≤ (h.touches.getD i default).hi := by
  simp only [hoursAt, hourN, List.mem_map, List.mem_range]
  constructor
  · rintro ⟨j, h1, rfl⟩; omega
  · rintro ⟨h1, h2⟩; exact ⟨(n - (h.touches.getD i default).lo).toNat, by omega, by omega⟩
theorem mem_enumH (h : House) (hs : List Int) : hs ∈ enumH h h.touches.length [] ↔ hoursOK h hs = true := by
  rw [enumH_eq, mem_enumG]
  simp only [hoursOK, Bool.and_eq_true, decide_eq_true_eq, List.all_eq_true, List.mem_range, mem_hoursAt, List.length_nil, Nat.zero_add, List.nil_append]
  constructor
  · rintro ⟨suf, rfl, h1, h2⟩; exact ⟨h1, fun i hi => h2 i (by omega)⟩
  · rintro ⟨h1, h2⟩; exact ⟨hs, rfl, h1, fun i hi => h2 i (by omega)⟩
theorem isTruthT_iff {t : Table} (hc : checkTable t = 0) (o : List Int) : isTruthT t o = true ↔ o ∈ allO t ∧ ((wrongOf t (pad7 o)).length : Int) ≤ t.wrong := by
  simp only [isTruthT, hc, mem_allO, Bool.and_eq_true, decide_eq_true_eq, true_and]; rfl
theorem truth_whose {t : Table} (hc : checkTable t = 0) {o : List Int} (ho : isTruthT t o = true) : o ∈ enumW (whoseT t) t.pieces.length [] := by
  obtain ⟨h1, h2⟩ := (isTruthT_iff hc o).1 ho
  obtain ⟨h3, h4, h5⟩ := allO_owner (checkTable_len hc).2 h1
  rw [enumW_eq, mem_enumG]
  refine ⟨o, rfl, h3, fun i hi => ?_⟩
  have : (whoseT t).getD (([] : List Int).length + i) [] = whoIs t i t.women.length := by simp [whoseT, hi]
  simp only [this]
  obtain ⟨w, hw, hwl⟩ := h5 i hi
  simp only [whoIs, List.mem_map, List.mem_filter, List.mem_range, List.any_eq_true, decide_eq_true_eq]
  refine ⟨w, ⟨hwl, pad7 o, (truthsUpto_mem t _ _).2 ⟨o, h1, rfl, h2⟩, hw⟩, ?_⟩
  rw [← pad7_get o i (by omega), hw]; rfl
theorem mem_allC {h : House} (hc : checkTable h.table = 0) (c : Course) : c ∈ allC h ↔ courseOK h c = true := by
  simp only [allC, List.mem_flatMap, coursesOf, courseOK, Bool.and_eq_true]
  constructor
  · rintro ⟨o, _, hco⟩
    split at hco
    · rename_i ht
      rw [List.mem_map] at hco
      obtain ⟨hs, h1, rfl⟩ := hco
      exact ⟨ht, (mem_enumH h hs).1 h1⟩
    · cases hco
  · rintro ⟨h1, h2⟩
    refine ⟨c.owners, truth_whose hc h1, ?_⟩
    rw [if_pos h1, List.mem_map]
    exact ⟨c.hours, (mem_enumH h _).2 h2, rfl⟩
theorem courseOK_len {h : House} {c : Course} (hc : courseOK h c = true) : c.owners.length = h.table.pieces.length ∧ c.hours.length = h.touches.length := by
  simp only [courseOK, hoursOK, Bool.and_eq_true, decide_eq_true_eq] at hc
  exact ⟨isTruthT_len hc.1, hc.2.1⟩
theorem pad6_len (l : List Int) (h : l.length ≤ 6) : (pad6 l).length = 6 := by simp [pad6]; omega

/-- What carries a sickness at last in a course, with more boilings; the truths without some signs. -/
def lastOf (h : House) (c : Course) (more : List Boiling) : List Bool := playOf h (pad7 c.owners) (pad6 c.hours) ((h.boiled ++ more).map bKey)
theorem lastOf_len (h : House) (c : Course) (more : List Boiling) : (lastOf h c more).length = 10 := playOf_len _ _ _ _
def isTrue (h : House) (out : List Int) (c : Course) : Bool := rightOK h (lastOf h c []) out
def truH (h : House) (out : List Int) : List Course := (allC h).filter (isTrue h out)
def eKn (h : House) (c : Course) : List AV := (pad7 c.owners ++ pad6 c.hours).map i6 ++ (lastOf h c []).map .bool
theorem bc76 (zs a b : List AV) (hz : zs.length = 23) (ha : a.length = 13) (hb : b.length = 10) : buildCells zs [(0, 13), (13, 10)] [.agg a, .agg b] = some (a ++ b) := by
  have h1 : placeAt zs 0 a = a ++ zs.drop 13 := by simp [placeAt, ha]
  have h2 : placeAt (a ++ zs.drop 13) 13 b = a ++ b := by
    simp only [placeAt, hb]
    rw [List.take_append_of_le_length (by omega), List.take_of_length_le (by omega), List.drop_of_length_le (by simp [ha, hz]), List.append_nil]
  simp only [buildCells, AV.ok, AV.cells, ha, hb, hz, h1, h2]
  simp [ha, hz]
end Go.Lift

set_option linter.unusedSimpArgs false
set_option linter.unusedVariables false
namespace Go.Lift
open Go Go.Proofs
structure JB (h : House) (ga gb : Code) (env0 : Env) (r l b2 b7 b8 bw : Nat) (s : List Course) (F : Nat → Prop) (H : AHeap) : Prop where
  dom : ∀ x, F x → ∃ o, H x = some o
  fl : F l
  fr : F r
  f2 : F b2
  f7 : F b7
  f8 : F b8
  fw : F bw
  hl : H l = some (.loop .ready none 52 env0 #[25] ga gb r)
  hr : H r = some .deferd
  h2 : H b2 = some (.box [.slice (h.table.women.map eW), .slice (h.table.pieces.map eP), i6 h.table.wrong, .slice (eI h.sick), i6 h.others, i6 h.last, .slice (h.touches.map eTo), .slice (h.boiled.map eB), .slice (h.signs.map eS)])
  h7 : H b7 = some (.box [.ptr bw 0])
  h8 : H b8 = some (.box [.amap (bMap h.boiled)])
  rest : ∃ v, H bw = some (.box [.slice (h.table.women.map eW), .slice (h.table.pieces.map eP), i6 h.table.wrong, .slice (eI h.sick), i6 h.others, i6 h.last, .slice (h.touches.map eTo), .slice (h.boiled.map eB), .slice (h.signs.map eS), v]) ∧ Grown 23 (fun _ => none) H v ((s.filter (isTrue h [])).map (eKn h)) ∧ (∀ b cap es', v = .grow b cap es' → F b)

theorem eKn_len (h : House) {c : Course} (h1 : c.owners.length ≤ 7) (h2 : c.hours.length ≤ 6) : (eKn h c).length = 23 := by
  simp [eKn, pad7_len _ h1, pad6_len _ h2, lastOf_len]
theorem eKn_cell (h : House) (c : Course) : ∀ x ∈ eKn h c, AV.isCell x = true := by
  intro x hx
  simp only [eKn, List.mem_append, List.mem_map] at hx
  rcases hx with ⟨n, _, rfl⟩ | ⟨b, _, rfl⟩ <;> rfl

theorem askH_taker (h : House) (hv : HV h) (env0 : Env) (r l b2 b7 b8 bw : Nat) (g2 : env0 2 = .ptr b2 0) (g7 : env0 7 = .ptr b7 0) (g8 : env0 8 = .ptr b8 0) :
    Taker Tryz.prog (.func (.yield l) [] []) eSc (allC h) (JB h (rangeF Tryz.f76).1 (rangeF Tryz.f76).2 env0 r l b2 b7 b8 bw) (fun _ _ _ => False) where
  dom := fun s F H J => J.dom
  edom := fun _ _ _ h => h.elim
  stable := fun s F H H' J hh => by
    obtain ⟨v, k1, k2, k3⟩ := J.rest
    exact ⟨fun x hx => by rw [hh x hx]; exact J.dom x hx, J.fl, J.fr, J.f2, J.f7, J.f8, J.fw, (hh _ J.fl).trans J.hl, (hh _ J.fr).trans J.hr, (hh _ J.f2).trans J.h2, (hh _ J.f7).trans J.h7, (hh _ J.f8).trans J.h8, v, (hh _ J.fw).trans k1,
      (by rcases k2 with ⟨rfl, h2⟩ | ⟨b, cap, rfl, h2, h3⟩
          · exact .inl ⟨rfl, h2⟩
          · exact .inr ⟨b, cap, rfl, rfl, (hh b (k3 b _ _ rfl)).trans h3⟩), k3⟩
  estable := fun _ _ _ _ h => h.elim
  step := by
    intro s F H c hpre J
    have hm6 := hv.ok.touches
    have hp7 := hv.ok.pcs
    have hcok : courseOK h c = true := (mem_allC hv.tab c).1 (hpre.subset (by simp))
    obtain ⟨hol, hhl⟩ := courseOK_len hcok
    have hsl : s.length ≤ 2000 := by
      have h1 := hpre.length_le; have h2 := allC_len hv; simp only [List.length_append, List.length_singleton] at h1; omega
    have hfl : (s.filter (isTrue h [])).length ≤ s.length := List.length_filter_le _ _
    have hgood : goodEls 23 ((s.filter (isTrue h [])).map (eKn h)) := by
      intro e he
      rw [List.mem_map] at he
      obtain ⟨c', hc', rfl⟩ := he
      have h1 : courseOK h c' = true := (mem_allC hv.tab c').1 (hpre.subset (List.mem_append_left _ (List.mem_filter.1 hc').1))
      obtain ⟨h2, h3⟩ := courseOK_len h1
      exact eKn_len h (by omega) (by omega)
    have ho7 := pad7_len c.owners (by omega)
    have hh6 := pad6_len c.hours (by omega)
    have hl13 : ((pad7 c.owners ++ pad6 c.hours).map i6).length = 13 := by simp [ho7, hh6]
    have hl13' : (pad7 c.owners ++ pad6 c.hours).length = 13 := by simp [ho7, hh6]
    obtain ⟨v, k1, k2, k3⟩ := J.rest
    have hlw : l ≠ bw := fun h => by have := J.hl; rw [h, k1] at this; cases this
    have hl2 : l ≠ b2 := fun h => by have := J.hl; rw [h, J.h2] at this; cases this
    have hl7 : l ≠ b7 := fun h => by have := J.hl; rw [h, J.h7] at this; cases this
    have hl8 : l ≠ b8 := fun h => by have := J.hl; rw [h, J.h8] at this; cases this
    have hlr : l ≠ r := fun h => by have := J.hl; rw [h, J.hr] at this; cases this
    have h2w : b2 ≠ bw := fun h => by have := J.h2; rw [h, k1] at this; cases this
    have h7w : b7 ≠ bw := fun h => by have := J.h7; rw [h, k1] at this; cases this
    have h8w : b8 ≠ bw := fun h => by have := J.h8; rw [h, k1] at this; cases this
    have hrw : r ≠ bw := fun h => by have := J.hr; rw [h, k1] at this; cases this
    have hE0 := ext_outer F H
    have hG0 : Grown 23 (outer F H) H v ((s.filter (isTrue h [])).map (eKn h)) := k2.to fun b cap es' h => outer_in (k3 b cap es' h)
    have close : ∀ (H' : AHeap) (v' : AV), Ext (outer F H) H' → H' l = some (.loop .busy none 52 env0 #[25] (rangeF Tryz.f76).1 (rangeF Tryz.f76).2 r) → H' r = some .deferd →
        H' b2 = some (.box [.slice (h.table.women.map eW), .slice (h.table.pieces.map eP), i6 h.table.wrong, .slice (eI h.sick), i6 h.others, i6 h.last, .slice (h.touches.map eTo), .slice (h.boiled.map eB), .slice (h.signs.map eS)]) → H' b7 = some (.box [.ptr bw 0]) → H' b8 = some (.box [.amap (bMap h.boiled)]) → H' bw = some (.box [.slice (h.table.women.map eW), .slice (h.table.pieces.map eP), i6 h.table.wrong, .slice (eI h.sick), i6 h.others, i6 h.last, .slice (h.touches.map eTo), .slice (h.boiled.map eB), .slice (h.signs.map eS), v']) →
        Grown 23 (outer F H) H' v' (((s ++ [c]).filter (isTrue h [])).map (eKn h)) →
        ∀ env, rfin 52 l (fun r_1 H_1 => ∃ F', (∀ x, F' x → F x ∨ H x = none) ∧ (∀ x, ¬ F x → (∃ o, H x = some o) → H_1 x = H x) ∧
          ((r_1 = .bool true ∧ JB h (rangeF Tryz.f76).1 (rangeF Tryz.f76).2 env0 r l b2 b7 b8 bw (s ++ [c]) F' H_1) ∨ (r_1 = .bool false ∧ False))) .norm env H' := by
      intro H' v' e1 e2 e3 e4 e5 e6 e7 e8 env
      refine ⟨_, _, _, _, _, _, _, e2, ?_⟩
      have eE := e1.upd (outer_in J.fl) (.loop .ready none 52 env0 #[25] (rangeF Tryz.f76).1 (rangeF Tryz.f76).2 r)
      refine ⟨fun x => (F x ∨ H x = none) ∧ ∃ o, updH H' l (.loop .ready none 52 env0 #[25] (rangeF Tryz.f76).1 (rangeF Tryz.f76).2 r) x = some o, fun x h => h.1, eE.kept, .inl ⟨rfl, ?_⟩⟩
      have mm : ∀ x, x ≠ l → updH H' l (.loop .ready none 52 env0 #[25] (rangeF Tryz.f76).1 (rangeF Tryz.f76).2 r) x = H' x := fun x hx => updH_ne _ _ hx
      have m1 : updH H' l (.loop .ready none 52 env0 #[25] (rangeF Tryz.f76).1 (rangeF Tryz.f76).2 r) l = _ := updH_same _ _ _
      have m2 := (mm _ hlr.symm).trans e3
      have m3 := (mm _ hl2.symm).trans e4
      have m4 := (mm _ hl7.symm).trans e5
      have m5 := (mm _ hl8.symm).trans e6
      have m6 := (mm _ hlw.symm).trans e7
      have m7 : Grown 23 (outer F H) (updH H' l (.loop .ready none 52 env0 #[25] (rangeF Tryz.f76).1 (rangeF Tryz.f76).2 r)) v' (((s ++ [c]).filter (isTrue h [])).map (eKn h)) := e8.of fun b n sz cap hb => by
        rw [updH_ne _ _ (fun h => by rw [h, e2] at hb; cases hb)]; exact hb
      refine ⟨fun x h => h.2, ⟨.inl J.fl, _, m1⟩, ⟨.inl J.fr, _, m2⟩, ⟨.inl J.f2, _, m3⟩, ⟨.inl J.f7, _, m4⟩, ⟨.inl J.f8, _, m5⟩, ⟨.inl J.fw, _, m6⟩, m1, m2, m3, m4, m5, v', m6, m7.to fun _ _ _ _ => rfl, ?_⟩
      rintro b cap es'' rfl
      rcases m7 with ⟨h, _⟩ | ⟨b', cap', h, h0, h2⟩
      · cases h
      · cases h; exact ⟨outer_none h0, _, h2⟩
    refine yield_of hmix cert76 J.hl rfl (by decide) tga76 tgb76 ?_
    simp only [setPs]
    simp only [go_sem, reduceIte, reduceCtorEq, Nat.reduceEqDiff, Nat.reduceBEq, Nat.reduceAdd, Nat.reduceMul, Nat.reduceLeDiff, aga76]
    refine v_alloc fun b6 hb6 => ?_
    simp only [go_sem, reduceIte, reduceCtorEq, Nat.reduceEqDiff, Nat.reduceBEq, Nat.reduceAdd, Nat.reduceMul, Nat.reduceLeDiff]
    rw [v_store]
    refine ⟨rfl, hl13, map_i6_cell _, _, updH_same _ _ _, by simp, ?_⟩
    have n6 : ∀ {x o}, H x = some o → x ≠ b6 := fun hx h => by subst h; rw [hx] at hb6; cases hb6
    rw [show (eSc c).cells = (pad7 c.owners ++ pad6 c.hours).map i6 from rfl, placeAll _ _ (by rw [hl13]; rfl)]
    simp only [go_sem, reduceIte, reduceCtorEq, Nat.reduceEqDiff, Nat.reduceBEq, Nat.reduceAdd, Nat.reduceMul, Nat.reduceLeDiff]
    refine ⟨none, env0, _, _, _, r, by rw [updH_ne _ _ (n6 J.hl), updH_ne _ _ (n6 J.hl)]; exact J.hl, ?_⟩
    generalize hHH : updH (updH (updH H b6 _) b6 (.box ((pad7 c.owners ++ pad6 c.hours).map i6))) l (.loop .busy none 52 env0 #[25] (rangeF Tryz.f76).1 (rangeF Tryz.f76).2 r) = HH
    have q1 : ∀ x o, x ≠ l → H x = some o → HH x = some o := fun x o hx h => by subst hHH; rw [updH_ne _ _ hx, updH_ne _ _ (n6 h), updH_ne _ _ (n6 h)]; exact h
    have q2 : HH l = some (.loop .busy none 52 env0 #[25] (rangeF Tryz.f76).1 (rangeF Tryz.f76).2 r) := by subst hHH; exact updH_same _ _ _
    have q6 : HH b6 = some (.box ((pad7 c.owners ++ pad6 c.hours).map i6)) := by subst hHH; rw [updH_ne _ _ (n6 J.hl).symm]; exact updH_same _ _ _
    have hEH : Ext (outer F H) HH := by subst hHH; exact ((hE0.new hb6 _).upd (hE0.isNone hb6) _).upd (outer_in J.fl) _
    have hB2 := q1 _ _ hl2.symm J.h2
    have hB7 := q1 _ _ hl7.symm J.h7
    have hB8 := q1 _ _ hl8.symm J.h8
    have hBw := q1 _ _ hlw.symm k1
    have hBr := q1 _ _ hlr.symm J.hr
    have hGH : Grown 23 (outer F H) HH v ((s.filter (isTrue h [])).map (eKn h)) := hG0.of fun b n sz cap hb => q1 _ _ (fun h => by rw [h, J.hl] at hb; cases hb) hb
    clear hHH q1
    simp only [go_sem, reduceIte, reduceCtorEq, Nat.reduceEqDiff, Nat.reduceBEq, Nat.reduceAdd, Nat.reduceMul, Nat.reduceLeDiff, agb76, g2, g7, g8, hB2, hB7, hB8, q6, hl13, take_len hl13, take_f', List.getElem?_cons_zero, hl13']
    refine (play_c h hv.ok (pad7 c.owners) (pad6 c.hours) h.boiled ho7 hh6).go ?_
    have hlo : playOf h (pad7 c.owners) (pad6 c.hours) (h.boiled.map bKey) = lastOf h c [] := by rw [lastOf, List.append_nil]
    rw [hlo]
    have hl10 : ((lastOf h c []).map AV.bool).length = 10 := by simp [lastOf_len]
    simp only [go_sem, reduceIte, reduceCtorEq, Nat.reduceEqDiff, Nat.reduceBEq, Nat.reduceAdd, Nat.reduceMul, Nat.reduceLeDiff]
    refine v_alloc fun b10 hb10 => ?_
    have n10 : ∀ {x o}, HH x = some o → x ≠ b10 := fun hx h => by subst h; rw [hx] at hb10; cases hb10
    simp only [go_sem, reduceIte, reduceCtorEq, Nat.reduceEqDiff, Nat.reduceBEq, Nat.reduceAdd, Nat.reduceMul, Nat.reduceLeDiff]
    rw [v_store]
    refine ⟨rfl, hl10, by intro y hy; simp only [AV.cells, List.mem_map] at hy; obtain ⟨b, _, rfl⟩ := hy; rfl, _, updH_same _ _ _, by simp, ?_⟩
    rw [c_agg, placeAll _ _ (by rw [hl10]; rfl)]
    have hE10 := (hEH.new hb10 (.box [.bool false, .bool false, .bool false, .bool false, .bool false, .bool false, .bool false, .bool false, .bool false, .bool false])).upd (hEH.isNone hb10) (.box ((lastOf h c []).map .bool))
    have hll := lastOf_len h c []
    simp only [go_sem, reduceIte, reduceCtorEq, Nat.reduceEqDiff, Nat.reduceBEq, Nat.reduceAdd, Nat.reduceMul, Nat.reduceLeDiff, g2, updH_ne _ _ (n10 hB2), hB2, hl10, take_len hl10, hll]
    refine (Pure.emp2 (right_c h (lastOf h c []) [] hll (by unfold Sm; simp) (by unfold Sm; have := hv.ok.signs; omega) hv.ok.sign)).go ?_
    rw [show rightOK h (lastOf h c []) [] = isTrue h [] c from rfl]
    generalize hHB : updH (updH HH b10 _) b10 (.box ((lastOf h c []).map .bool)) = HB at hE10 ⊢
    have q : ∀ x o, HH x = some o → HB x = some o := fun x o hx => by subst hHB; rw [updH_ne _ _ (n10 hx), updH_ne _ _ (n10 hx)]; exact hx
    have C10 : HB b10 = some (.box ((lastOf h c []).map .bool)) := by subst hHB; exact updH_same _ _ _
    have Cl := q _ _ q2
    have Cr := q _ _ hBr
    have C2 := q _ _ hB2
    have C7 := q _ _ hB7
    have C8 := q _ _ hB8
    have Cw := q _ _ hBw
    have C6 := q _ _ q6
    have hGB : Grown 23 (outer F H) HB v ((s.filter (isTrue h [])).map (eKn h)) := hGH.of fun b n sz cap hb => q _ _ hb
    clear hHB q
    cases hT : isTrue h [] c
    · have hfe : (s ++ [c]).filter (isTrue h []) = s.filter (isTrue h []) := by simp [List.filter_append, hT]
      simp only [go_sem, reduceIte, reduceCtorEq, Nat.reduceEqDiff, Nat.reduceBEq, Nat.reduceAdd, Nat.reduceMul, Nat.reduceLeDiff]
      exact close HB v hE10 Cl Cr C2 C7 C8 Cw (by rw [hfe]; exact hGB) _
    have hfe : (s ++ [c]).filter (isTrue h []) = s.filter (isTrue h []) ++ [c] := by simp [List.filter_append, hT]
    have hek : eKn h c = (pad7 c.owners ++ pad6 c.hours).map i6 ++ (lastOf h c []).map .bool := rfl
    have hekl := eKn_len h (c := c) (by omega) (by omega)
    simp only [go_sem, reduceIte, reduceCtorEq, Nat.reduceEqDiff, Nat.reduceBEq, Nat.reduceAdd, Nat.reduceMul, Nat.reduceLeDiff, g7, C7, Cw, C6, C10, hl13, take_len hl13, hl10, take_len hl10, hll, hl13', take_f', drop_at, List.getElem?_cons_zero, List.getElem?_cons_succ, bc76 [.int .i64 0, .int .i64 0, .int .i64 0, .int .i64 0, .int .i64 0, .int .i64 0, .int .i64 0, .int .i64 0, .int .i64 0, .int .i64 0, .int .i64 0, .int .i64 0, .int .i64 0, .bool false, .bool false, .bool false, .bool false, .bool false, .bool false, .bool false, .bool false, .bool false, .bool false] _ _ rfl hl13 hl10, Option.map_some, ← hek, d_bsa, hekl]
    refine v_append hGB hE10 rfl hgood (by intro e he; simp at he; subst he; exact hekl) (by
      intro e he x hx
      simp only [List.mem_cons, List.not_mem_nil, or_false, List.mem_map] at he
      rcases he with rfl | he
      · exact eKn_cell h c x hx) (by simp; omega) (by simp; omega) ?_
    intro v' H2 hg' he' hk'
    have D2 := hk'.box hGB C2
    have D7 := hk'.box hGB C7
    have D8 := hk'.box hGB C8
    have Dw := hk'.box hGB Cw
    have Dr := hk'.other hGB Cr (by intros; simp)
    have Dl := hk'.other hGB Cl (by intros; simp)
    simp only [go_sem, reduceIte, reduceCtorEq, Nat.reduceEqDiff, Nat.reduceBEq, Nat.reduceAdd, Nat.reduceMul, Nat.reduceLeDiff, g7, D7, take_f', drop_at, List.getElem?_cons_zero, List.getElem?_cons_succ]
    rw [v_store]
    refine ⟨hg'.cellv.1, by rw [hg'.cellv.2.1]; rfl, by rw [hg'.cellv.2.1]; intro y hy; simp at hy; subst hy; exact hg'.cellv.2.2, _, Dw, by simp, ?_⟩
    rw [hg'.cellv.2.1, show placeAt [.slice (h.table.women.map eW), .slice (h.table.pieces.map eP), i6 h.table.wrong, .slice (eI h.sick), i6 h.others, i6 h.last, .slice (h.touches.map eTo), .slice (h.boiled.map eB), .slice (h.signs.map eS), v] (0 + 9) [v'] = [.slice (h.table.women.map eW), .slice (h.table.pieces.map eP), i6 h.table.wrong, .slice (eI h.sick), i6 h.others, i6 h.last, .slice (h.touches.map eTo), .slice (h.boiled.map eB), .slice (h.signs.map eS), v'] from rfl]
    have hg2 : Grown 23 (outer F H) (updH H2 bw (.box [.slice (h.table.women.map eW), .slice (h.table.pieces.map eP), i6 h.table.wrong, .slice (eI h.sick), i6 h.others, i6 h.last, .slice (h.touches.map eTo), .slice (h.boiled.map eB), .slice (h.signs.map eS), v'])) v' (((s ++ [c]).filter (isTrue h [])).map (eKn h)) := by
      rw [hfe, List.map_append]; exact hg'.store Dw _
    simp only [go_sem, reduceIte, reduceCtorEq, Nat.reduceEqDiff, Nat.reduceBEq, Nat.reduceAdd, Nat.reduceMul, Nat.reduceLeDiff]
    exact close _ v' (he'.upd (outer_in J.fw) _) (by rw [updH_ne _ _ hlw]; exact Dl) (by rw [updH_ne _ _ hrw]; exact Dr) (by rw [updH_ne _ _ h2w]; exact D2) (by rw [updH_ne _ _ h7w]; exact D7) (by rw [updH_ne _ _ h8w]; exact D8) (updH_same _ _ _) hg2 _
end Go.Lift

set_option linter.unusedSimpArgs false
set_option linter.unusedVariables false
namespace Go.Lift
open Go Go.Proofs
def kCells (h : House) : List AV := [.slice (h.table.women.map eW), .slice (h.table.pieces.map eP), i6 h.table.wrong, .slice (eI h.sick), i6 h.others, i6 h.last, .slice (h.touches.map eTo), .slice (h.boiled.map eB), .slice (h.signs.map eS), .slice ((truH h []).map (eKn h))]
def askErrH (h : House) (fine : Bool) : Int := if checkHouse h = 0 then (if fine = true then (if truH h [] = [] then 11 else 0) else 2) else checkHouse h
def askedR (h : House) (fine : Bool) : AV := if askErrH h fine = 0 then .tup [.elem (kCells h), i6 0] else .tup [.nilp, i6 (askErrH h fine)]
theorem bc76b (a b c d e f g i j : AV) : buildCells [.emp, .emp, .int .i64 0, .emp, .int .i64 0, .int .i64 0, .emp, .emp, .emp, .emp] [(0, 9), (9, 1)] [.agg [a, b, c, d, e, f, g, i, j], .emp] = some [a, b, c, d, e, f, g, i, j, .emp] := by
  simp [buildCells, placeAt, AV.ok, AV.cells]
theorem askedH_c (h : House) (hs : TSm h.table) (hsk : Sm h.sick.length) (fine : Bool) : Pure Tryz.prog 76 [eH h, .bool fine] (askedR h fine) := by
  intro H
  refine fn_of hmix fc76 (by simp) ?_
  rw [ienv2]
  simp only [go_sem, reduceIte, reduceCtorEq, Nat.reduceEqDiff, Nat.reduceBEq, Nat.reduceAdd, Nat.reduceMul, Nat.reduceLeDiff, ac76, eH]
  refine v_box _ rfl fun b2 hb2 => ?_
  simp only [go_sem, reduceIte, reduceCtorEq, Nat.reduceEqDiff, Nat.reduceBEq, Nat.reduceAdd, Nat.reduceMul, Nat.reduceLeDiff]
  refine (checkHouse_c h hs hsk).go ?_
  have e1 := (Ext.refl H).new hb2 (.box [.slice (h.table.women.map eW), .slice (h.table.pieces.map eP), i6 h.table.wrong, .slice (eI h.sick), i6 h.others, i6 h.last, .slice (h.touches.map eTo), .slice (h.boiled.map eB), .slice (h.signs.map eS)])
  by_cases c1 : checkHouse h = 0
  rotate_left
  · have hres : askErrH h fine = checkHouse h := by rw [askErrH, if_neg c1]
    simp only [go_sem, reduceIte, reduceCtorEq, Nat.reduceEqDiff, Nat.reduceBEq, Nat.reduceAdd, Nat.reduceMul, Nat.reduceLeDiff, c1]
    refine fin_ret2 4 5 (by simp [upd_at]) ⟨_, H, Settle.refl e1, ?_, rfl⟩
    simp [upd_at, askedR, hres, c1]
  have hv := hv_of hs hsk c1
  cases c2 : fine
  · have hres : askErrH h false = 2 := by rw [askErrH, if_pos c1]; rfl
    simp only [go_sem, reduceIte, reduceCtorEq, Nat.reduceEqDiff, Nat.reduceBEq, Nat.reduceAdd, Nat.reduceMul, Nat.reduceLeDiff, c1]
    refine fin_ret2 4 5 (by simp [upd_at]) ⟨_, H, Settle.refl e1, ?_, rfl⟩
    simp [upd_at, askedR, hres]
  simp only [go_sem, reduceIte, reduceCtorEq, Nat.reduceEqDiff, Nat.reduceBEq, Nat.reduceAdd, Nat.reduceMul, Nat.reduceLeDiff, c1, bc76b, Option.map_some]
  refine v_box _ rfl fun bw hbw => ?_
  have n2w : b2 ≠ bw := fun h => by subst h; simp at hbw
  simp only [go_sem, reduceIte, reduceCtorEq, Nat.reduceEqDiff, Nat.reduceBEq, Nat.reduceAdd, Nat.reduceMul, Nat.reduceLeDiff]
  refine v_alloc fun b7 hb7 => ?_
  have n27 : b2 ≠ b7 := fun h => by subst h; simp [updH, n2w] at hb7
  have nw7 : bw ≠ b7 := fun h => by subst h; simp at hb7
  simp only [go_sem, reduceIte, reduceCtorEq, Nat.reduceEqDiff, Nat.reduceBEq, Nat.reduceAdd, Nat.reduceMul, Nat.reduceLeDiff]
  rw [v_store]
  refine ⟨rfl, rfl, by simp [AV.cells, AV.isCell], _, updH_same _ _ _, by simp, ?_⟩
  rw [show (AV.ptr bw 0).cells = [.ptr bw 0] from rfl, placeOne]
  simp only [go_sem, reduceIte, reduceCtorEq, Nat.reduceEqDiff, Nat.reduceBEq, Nat.reduceAdd, Nat.reduceMul, Nat.reduceLeDiff, updH_ne _ _ n2w, updH_ne _ _ n27]
  refine (Pure.emp1 (boilings_c h [] (by unfold Sm; have := hv.ok.boiled; omega) (by unfold Sm; simp))).go ?_
  rw [List.append_nil]
  simp only [go_sem, reduceIte, reduceCtorEq, Nat.reduceEqDiff, Nat.reduceBEq, Nat.reduceAdd, Nat.reduceMul, Nat.reduceLeDiff]
  refine v_alloc fun b8 hb8 => ?_
  have n28 : b2 ≠ b8 := fun h => by subst h; simp [updH, n2w, n27] at hb8
  have nw8 : bw ≠ b8 := fun h => by subst h; simp [updH, nw7] at hb8
  have n78 : b7 ≠ b8 := fun h => by subst h; simp at hb8
  simp only [go_sem, reduceIte, reduceCtorEq, Nat.reduceEqDiff, Nat.reduceBEq, Nat.reduceAdd, Nat.reduceMul, Nat.reduceLeDiff]
  rw [v_store]
  refine ⟨rfl, rfl, by simp [AV.cells, AV.isCell], _, updH_same _ _ _, by simp, ?_⟩
  rw [show (AV.amap (bMap h.boiled)).cells = [.amap (bMap h.boiled)] from rfl, placeOne]
  simp only [go_sem, reduceIte, reduceCtorEq, Nat.reduceEqDiff, Nat.reduceBEq, Nat.reduceAdd, Nat.reduceMul, Nat.reduceLeDiff, updH_ne _ _ n2w, updH_ne _ _ n27, updH_ne _ _ n28]
  have zw : H bw = none := e1.isNone hbw
  have e2 := e1.new hbw (.box [.slice (h.table.women.map eW), .slice (h.table.pieces.map eP), i6 h.table.wrong, .slice (eI h.sick), i6 h.others, i6 h.last, .slice (h.touches.map eTo), .slice (h.boiled.map eB), .slice (h.signs.map eS), .emp])
  have z7 : H b7 = none := e2.isNone hb7
  have e3 := (e2.new hb7 (.box [.nilp])).upd z7 (.box [.ptr bw 0])
  have z8 : H b8 = none := e3.isNone hb8
  have e5 := (e3.new hb8 (.box [.any])).upd z8 (.box [.amap (bMap h.boiled)])
  refine (scenes_c h).go ?_
  simp only [go_sem, reduceIte, reduceCtorEq, Nat.reduceEqDiff, Nat.reduceBEq, Nat.reduceAdd, Nat.reduceMul, Nat.reduceLeDiff, x_range]
  generalize hHH : updH (updH (updH (updH (updH (updH H b2 (.box [.slice (h.table.women.map eW), .slice (h.table.pieces.map eP), i6 h.table.wrong, .slice (eI h.sick), i6 h.others, i6 h.last, .slice (h.touches.map eTo), .slice (h.boiled.map eB), .slice (h.signs.map eS)])) bw (.box [.slice (h.table.women.map eW), .slice (h.table.pieces.map eP), i6 h.table.wrong, .slice (eI h.sick), i6 h.others, i6 h.last, .slice (h.touches.map eTo), .slice (h.boiled.map eB), .slice (h.signs.map eS), .emp])) b7 (.box [.nilp])) b7 (.box [.ptr bw 0])) b8 (.box [.any])) b8 (.box [.amap (bMap h.boiled)]) = HH at e5 ⊢
  have B2 : HH b2 = some (.box [.slice (h.table.women.map eW), .slice (h.table.pieces.map eP), i6 h.table.wrong, .slice (eI h.sick), i6 h.others, i6 h.last, .slice (h.touches.map eTo), .slice (h.boiled.map eB), .slice (h.signs.map eS)]) := by subst hHH; simp [updH, n2w, n27, n28]
  have Bw : HH bw = some (.box [.slice (h.table.women.map eW), .slice (h.table.pieces.map eP), i6 h.table.wrong, .slice (eI h.sick), i6 h.others, i6 h.last, .slice (h.touches.map eTo), .slice (h.boiled.map eB), .slice (h.signs.map eS), .emp]) := by subst hHH; simp [updH, nw7, nw8]
  have B7 : HH b7 = some (.box [.ptr bw 0]) := by subst hHH; simp [updH, n78]
  have B8 : HH b8 = some (.box [.amap (bMap h.boiled)]) := by subst hHH; simp [updH]
  clear hHH
  refine ⟨by simp [upd_at], 152, [], [.elem (hCells h)], by simp [upd_at, ev], fun r l hr hl hlr => ?_⟩
  have ner : ∀ {x o}, HH x = some o → x ≠ r := fun hx h => by subst h; rw [hx] at hr; cases hr
  have nel : ∀ {x o}, HH x = some o → x ≠ l := fun hx h => by subst h; rw [hx] at hl; cases hl
  have zr : H r = none := e5.isNone hr
  have zl : H l = none := e5.isNone hl
  generalize henv : upd (upd _ _ _) 24 _ = env0
  have g2 : env0 2 = .ptr b2 0 := by subst henv; simp [upd_at]
  have g7 : env0 7 = .ptr b7 0 := by subst henv; simp [upd_at]
  have g8 : env0 8 = .ptr b8 0 := by subst henv; simp [upd_at]
  have J0 : JB h (rangeF Tryz.f76).1 (rangeF Tryz.f76).2 env0 r l b2 b7 b8 bw [] (fun x => x = l ∨ x = r ∨ x = b2 ∨ x = b7 ∨ x = b8 ∨ x = bw) (updH (updH HH r .deferd) l (.loop .ready none 52 env0 #[25] (rangeF Tryz.f76).1 (rangeF Tryz.f76).2 r)) := by
    have m1 := (updH_ne (updH HH r .deferd) (.loop .ready none 52 env0 #[25] (rangeF Tryz.f76).1 (rangeF Tryz.f76).2 r) hlr.symm).trans (updH_same HH r .deferd)
    have m2 : ∀ x o, HH x = some o → updH (updH HH r .deferd) l (.loop .ready none 52 env0 #[25] (rangeF Tryz.f76).1 (rangeF Tryz.f76).2 r) x = some o := fun x o hx => by rw [updH_ne _ _ (nel hx), updH_ne _ _ (ner hx)]; exact hx
    refine ⟨?_, .inl rfl, .inr (.inl rfl), .inr (.inr (.inl rfl)), .inr (.inr (.inr (.inl rfl))), .inr (.inr (.inr (.inr (.inl rfl)))), .inr (.inr (.inr (.inr (.inr rfl)))), updH_same _ _ _, m1, m2 _ _ B2, m2 _ _ B7, m2 _ _ B8, .emp, m2 _ _ Bw, .inl ⟨rfl, rfl⟩, by intro b cap es' h; cases h⟩
    rintro x (rfl | rfl | rfl | rfl | rfl | rfl)
    · exact ⟨_, updH_same _ _ _⟩
    · exact ⟨_, m1⟩
    · exact ⟨_, m2 _ _ B2⟩
    · exact ⟨_, m2 _ _ B7⟩
    · exact ⟨_, m2 _ _ B8⟩
    · exact ⟨_, m2 _ _ Bw⟩
  have hcall := scenesGo_c h hv (askH_taker h hv env0 r l b2 b7 b8 bw g2 g7 g8) _ _ J0
  refine hcall.mono ?_
  rintro _ H2 ⟨rfl, F', hF, hkeep, hcase⟩
  rcases hcase with J | ⟨l1, l2, _, hf⟩
  rotate_left
  · exact hf.elim
  refine ⟨_, _, _, _, _, _, _, J.hl, by simp, .norm, rfl, ?_⟩
  have hFn : ∀ x, F' x → H x = none := fun x hx => by
    rcases hF x hx with h | h
    · rcases h with rfl | rfl | rfl | rfl | rfl | rfl <;> assumption
    · have h1 : x ≠ l := fun h' => by rw [h', updH_same] at h; cases h
      rw [updH_ne _ _ h1] at h
      have h2 : x ≠ r := fun h' => by rw [h', updH_same] at h; cases h
      rw [updH_ne _ _ h2] at h
      exact e5.isNone h
  have hExt : ∀ x o, H x = some o → H2 x = some o := fun x o hx => by
    have hne : ∀ y, H y = none → x ≠ y := fun y hy h => by rw [h, hy] at hx; cases hx
    rw [hkeep x (by rintro (h | h | h | h | h | h) <;> exact hne _ (by assumption) h) ⟨o, by rw [updH_ne _ _ (hne _ zl), updH_ne _ _ (hne _ zr)]; exact e5 x o hx⟩, updH_ne _ _ (hne _ zl), updH_ne _ _ (hne _ zr)]
    exact e5 x o hx
  have hExt2 : Ext H (delH (delH H2 l) r) := fun x o hx => by
    rw [delH_ne _ (fun h => by rw [h, zr] at hx; cases hx), delH_ne _ (fun h => by rw [h, zl] at hx; cases hx)]
    exact hExt x o hx
  obtain ⟨v, k1, k2, k3⟩ := J.rest
  have K7 : delH H2 l b7 = some (.box [.ptr bw 0]) := (delH_ne _ (nel B7)).trans J.h7
  have Kw : delH H2 l bw = some (.box [.slice (h.table.women.map eW), .slice (h.table.pieces.map eP), i6 h.table.wrong, .slice (eI h.sick), i6 h.others, i6 h.last, .slice (h.touches.map eTo), .slice (h.boiled.map eB), .slice (h.signs.map eS), v]) := (delH_ne _ (nel Bw)).trans k1
  have Kr : delH H2 l r = some .deferd := (delH_ne _ hlr.symm).trans J.hr
  have htr : (allC h).filter (isTrue h []) = truH h [] := rfl
  rw [htr] at k2
  have hlenv : ∀ H', detV .len [v] H' = some (i6 (truH h []).length) := fun H' => by rw [k2.len H', List.length_map]
  by_cases c3 : ((truH h []).length : Int) = 0
  · have hne : askErrH h true = 11 := by
      have : truH h [] = [] := List.length_eq_zero_iff.1 (by omega)
      rw [askErrH, if_pos c1, if_pos rfl, if_pos this]
    simp only [go_sem, reduceIte, reduceCtorEq, Nat.reduceEqDiff, Nat.reduceBEq, Nat.reduceAdd, Nat.reduceMul, Nat.reduceLeDiff, g7, K7, Kw, take_f', drop_at, List.getElem?_cons_zero, List.getElem?_cons_succ, hlenv, c3]
    refine fin_def2 4 5 r (by simp [upd_at]) Kr ⟨_, H, Settle.refl hExt2, ?_, rfl⟩
    simp [upd_at, askedR, hne]
  · have hne : askErrH h true = 0 := by
      have : truH h [] ≠ [] := fun h0 => c3 (by rw [h0]; rfl)
      rw [askErrH, if_pos c1, if_pos rfl, if_neg this]
    simp only [go_sem, reduceIte, reduceCtorEq, Nat.reduceEqDiff, Nat.reduceBEq, Nat.reduceAdd, Nat.reduceMul, Nat.reduceLeDiff, g7, K7, Kw, take_f', drop_at, List.getElem?_cons_zero, List.getElem?_cons_succ, hlenv, c3]
    refine fin_def2 4 5 r (by simp [upd_at]) Kr ⟨.tup [.elem (kCells h), i6 0], H, ?_, by rw [askedR, if_pos hne], rfl⟩
    simp only [upd_at, if_true, Nat.reduceEqDiff, if_false]
    refine settle_tup hExt2 fun w u hH hr => ?_
    have Kw' : delH (delH H2 l) r bw = some (.box [.slice (h.table.women.map eW), .slice (h.table.pieces.map eP), i6 h.table.wrong, .slice (eI h.sick), i6 h.others, i6 h.last, .slice (h.touches.map eTo), .slice (h.boiled.map eB), .slice (h.signs.map eS), v]) := (delH_ne _ (ner Bw)).trans Kw
    have hG : Grown 23 H (delH (delH H2 l) r) v ((truH h []).map (eKn h)) := by
      have h1 : Grown 23 H H2 v ((truH h []).map (eKn h)) := k2.to fun b cap es' h => hFn b (k3 b cap es' h)
      refine h1.of fun b n sz cap hb => ?_
      rw [delH_ne _ (fun h => by rw [h, J.hr] at hb; cases hb), delH_ne _ (fun h => by rw [h, J.hl] at hb; cases hb)]; exact hb
    refine rep_elem' hH Kw' zw rfl (fun i x x' hx hx' u hu => ?_) hr
    match i, hx, hx' with
    | 0, hx, hx' => cases hx; cases hx'; exact hu.mono (Evolve.drop hExt2)
    | 1, hx, hx' => cases hx; cases hx'; exact hu.mono (Evolve.drop hExt2)
    | 2, hx, hx' => cases hx; cases hx'; exact hu.mono (Evolve.drop hExt2)
    | 3, hx, hx' => cases hx; cases hx'; exact hu.mono (Evolve.drop hExt2)
    | 4, hx, hx' => cases hx; cases hx'; exact hu.mono (Evolve.drop hExt2)
    | 5, hx, hx' => cases hx; cases hx'; exact hu.mono (Evolve.drop hExt2)
    | 6, hx, hx' => cases hx; cases hx'; exact hu.mono (Evolve.drop hExt2)
    | 7, hx, hx' => cases hx; cases hx'; exact hu.mono (Evolve.drop hExt2)
    | 8, hx, hx' => cases hx; cases hx'; exact hu.mono (Evolve.drop hExt2)
    | 9, hx, hx' => cases hx; cases hx'; exact (hG.weaken hExt2).2 w u hH hu
end Go.Lift

set_option linter.unusedSimpArgs false
set_option linter.unusedVariables false
namespace Go.Lift
open Go Go.Proofs
/-- A course with owners of all pieces, and hours of all touches. -/
structure CLen (h : House) (c : Course) : Prop where
  own : c.owners.length = h.table.pieces.length
  hrs : c.hours.length = h.touches.length
theorem tru_ok {h : House} (hv : HV h) {out : List Int} {c : Course} (hc : c ∈ truH h out) : courseOK h c = true := (mem_allC hv.tab c).1 (List.mem_filter.1 hc).1
theorem tru_len {h : House} (hv : HV h) {out : List Int} {c : Course} (hc : c ∈ truH h out) : CLen h c := ⟨(courseOK_len (tru_ok hv hc)).1, (courseOK_len (tru_ok hv hc)).2⟩
theorem eKn_owner {h : House} {c : Course} (i : Nat) (h7 : c.owners.length ≤ 7) (hi : i < 7) : (eKn h c)[i]? = some (i6 ((pad7 c.owners).getD i 0)) := by
  have h1 := pad7_len c.owners h7
  rw [eKn, List.getElem?_append_left (by simp; omega), List.map_append, List.getElem?_append_left (by simp; omega), iget (by omega)]
theorem eKn_last {h : House} {c : Course} (i : Nat) (h7 : c.owners.length ≤ 7) (h6 : c.hours.length ≤ 6) (hi : i < 10) : (eKn h c)[13 + i]? = some (.bool ((lastOf h c []).getD i false)) := by
  have h1 := pad7_len c.owners h7
  have h2 := pad6_len c.hours h6
  rw [eKn, List.getElem?_append_right (by simp [h1, h2]), bget (by simp [h1, h2, lastOf_len]; omega)]
  simp [h1, h2]
theorem eKn_take {h : House} {c : Course} (h7 : c.owners.length ≤ 7) (h6 : c.hours.length ≤ 6) : (eKn h c).take 13 = (pad7 c.owners ++ pad6 c.hours).map i6 := by
  have h1 := pad7_len c.owners h7
  have h2 := pad6_len c.hours h6
  rw [eKn, List.take_append_of_le_length (by simp [h1, h2]), List.take_of_length_le (by simp [h1, h2])]
def carriesP (h : House) (i : Nat) (c : Course) : Bool := (lastOf h c []).getD i false
theorem carries_c (h : House) (hv : HV h) (c : Course) (hc : CLen h c) (i : Nat) (hi : i < 10) : Pure Tryz.prog 78 [.elem (kCells h), .agg (eKn h c), i6 i] (.bool (carriesP h i c)) := by
  intro H
  have hp7 := hv.ok.pcs
  have hm6 := hv.ok.touches
  have h7 : c.owners.length ≤ 7 := by have := hc.own; omega
  have h6 : c.hours.length ≤ 6 := by have := hc.hrs; omega
  refine fn_of hmix fc78 (by simp) ?_
  rw [ienv3]
  simp only [go_sem, reduceIte, reduceCtorEq, Nat.reduceEqDiff, Nat.reduceBEq, Nat.reduceAdd, Nat.reduceMul, Nat.reduceLeDiff, ac78]
  refine v_box _ rfl fun b hb => ?_
  simp only [go_sem, reduceIte, reduceCtorEq, Nat.reduceEqDiff, Nat.reduceBEq, Nat.reduceAdd, Nat.reduceMul, Nat.reduceLeDiff, show (i : Int) < ((10 : Nat) : Int) by omega, Nat.mul_one, eKn_len h h7 h6, show 13 + i ≤ 23 by omega, take_f', drop_at, eKn_last i h7 h6 hi]
  refine fin_ret 6 (by simp [upd_at]) ⟨_, H, Settle.refl ((Ext.refl H).new hb _), ?_⟩
  simp [upd_at, carriesP]
def harmedAt (h : House) (w : Int) (c : Course) (i : Nat) : Bool := (lastOf h c []).getD i false && decide ((pad7 c.owners).getD i 0 = w) && !decide ((pad7 c.owners).getD i 0 ∈ h.sick)
def harmedP (h : House) (w : Int) (c : Course) : Bool := (List.range h.table.pieces.length).any (harmedAt h w c)
theorem harmed_c (h : House) (hv : HV h) (c : Course) (hc : CLen h c) (w : Int) : Pure Tryz.prog 80 [.elem (kCells h), .agg (eKn h c), i6 w] (.bool (harmedP h w c)) := by
  intro H
  have hp7 := hv.ok.pcs
  have hm6 := hv.ok.touches
  have h7 : c.owners.length ≤ 7 := by have := hc.own; omega
  have h6 : c.hours.length ≤ 6 := by have := hc.hrs; omega
  have hkl := eKn_len h h7 h6
  refine fn_of hmix fc80 (by simp) ?_
  rw [ienv3]
  simp only [go_sem, reduceIte, reduceCtorEq, Nat.reduceEqDiff, Nat.reduceBEq, Nat.reduceAdd, Nat.reduceMul, Nat.reduceLeDiff, ac80, kCells]
  refine v_box _ rfl fun b hb => ?_
  simp only [go_sem, reduceIte, reduceCtorEq, Nat.reduceEqDiff, Nat.reduceBEq, Nat.reduceAdd, Nat.reduceMul, Nat.reduceLeDiff]
  refine (pieces_c h).go ?_
  simp only [go_sem, reduceIte, reduceCtorEq, Nat.reduceEqDiff, Nat.reduceBEq, Nat.reduceAdd, Nat.reduceMul, Nat.reduceLeDiff]
  refine x_for h.table.pieces.length (fun j env H1 => Ext H H1 ∧ H1 b = some (.box (eKn h c)) ∧ env 0 = .elem (kCells h) ∧ env 2 = i6 w ∧ env 4 = .ptr b 0 ∧ env 12 = i6 h.table.pieces.length ∧ env 13 = i6 j ∧ env 41 = .any ∧ ∀ i, i < j → harmedAt h w c i = false)
    ⟨(Ext.refl H).new hb _, updH_same _ _ _, by simp [upd_at, kCells], by simp [upd_at], by simp [upd_at], by simp [upd_at], by simp [upd_at], by simp [upd_at], by simp⟩ ?_
  rintro j env H1 hj ⟨hE, hB, g0, g2, g4, g12, g13, hN, hq⟩
  by_cases hlt : (j : Int) < (h.table.pieces.length : Int)
  · have hlt' : j < h.table.pieces.length := by omega
    have hnext : harmedAt h w c j = false → ∀ i, i < j + 1 → harmedAt h w c i = false := fun hh i hi => by
      rcases Nat.lt_or_ge i j with h' | h'
      · exact hq i h'
      · have : i = j := by omega
        subst this; exact hh
    have hl13 : ((pad7 c.owners ++ pad6 c.hours).map i6).length = 13 := by simp [pad7_len _ h7, pad6_len _ h6]
    cases a1 : (lastOf h c []).getD j false
    · simp only [go_sem, reduceIte, reduceCtorEq, Nat.reduceEqDiff, Nat.reduceBEq, Nat.reduceAdd, Nat.reduceMul, Nat.reduceLeDiff, g0, g2, g4, g12, g13, hN, hlt, hB, hkl, show (j : Int) < ((10 : Nat) : Int) by omega, Nat.mul_one, show 13 + j ≤ 23 by omega, take_f', drop_at, eKn_last j h7 h6 (show j < 10 by omega), a1, wsucc (show j < 4611686018427387904 by omega), hlt']
      exact ⟨hE, hnext (by rw [harmedAt, a1]; rfl)⟩
    by_cases a2 : (pad7 c.owners).getD j 0 = w
    rotate_left
    · simp only [go_sem, reduceIte, reduceCtorEq, Nat.reduceEqDiff, Nat.reduceBEq, Nat.reduceAdd, Nat.reduceMul, Nat.reduceLeDiff, g0, g2, g4, g12, g13, hN, hlt, hB, hkl, show (j : Int) < ((10 : Nat) : Int) by omega, show (j : Int) < ((7 : Nat) : Int) by omega, Nat.mul_one, show 13 + j ≤ 23 by omega, show j ≤ 23 by omega, take_f', drop_at, eKn_last j h7 h6 (show j < 10 by omega), eKn_owner (h := h) j h7 (show j < 7 by omega), a1, a2, wsucc (show j < 4611686018427387904 by omega), hlt']
      exact ⟨hE, hnext (by rw [harmedAt, a1]; simp only [a2, decide_false]; rfl)⟩
    simp only [go_sem, reduceIte, reduceCtorEq, Nat.reduceEqDiff, Nat.reduceBEq, Nat.reduceAdd, Nat.reduceMul, Nat.reduceLeDiff, g0, g2, g4, g12, g13, hN, hlt, hB, hkl, show (j : Int) < ((10 : Nat) : Int) by omega, show (j : Int) < ((7 : Nat) : Int) by omega, Nat.mul_one, show 13 + j ≤ 23 by omega, show j ≤ 23 by omega, take_f', drop_at, eKn_last j h7 h6 (show j < 10 by omega), eKn_owner (h := h) j h7 (show j < 7 by omega), a1, a2, kCells, Nat.reduceLeDiff, eKn_take h7 h6, List.getElem?_cons_zero]
    refine pgo_call (sick_c h (pad7 c.owners) (pad6 c.hours) j (pad7_len _ h7) (pad6_len _ h6) (by omega) hv.ok.sk) ?_
    by_cases a3 : (pad7 c.owners).getD j 0 ∈ h.sick
    · simp only [go_sem, reduceIte, reduceCtorEq, Nat.reduceEqDiff, Nat.reduceBEq, Nat.reduceAdd, Nat.reduceMul, Nat.reduceLeDiff, g0, g2, g4, g12, g13, hN, a3, wsucc (show j < 4611686018427387904 by omega), hlt', hB]
      exact ⟨hE, by simp [kCells], hnext (by rw [harmedAt, a1]; simp only [a2] at a3 ⊢; simp [a3])⟩
    · simp only [go_sem, reduceIte, reduceCtorEq, Nat.reduceEqDiff, Nat.reduceBEq, Nat.reduceAdd, Nat.reduceMul, Nat.reduceLeDiff, g0, g2, g4, g12, g13, hN, a3]
      refine fin_ret 6 (by simp [upd_at, hN]) ⟨_, H, Settle.refl hE, ?_⟩
      simp only [upd_at, if_true, and_true, AV.bool.injEq]
      symm
      simp only [harmedP, List.any_eq_true, List.mem_range]
      exact ⟨j, hlt', by rw [harmedAt, a1]; simp only [a2] at a3 ⊢; simp [a3]⟩
  · simp only [go_sem, reduceIte, reduceCtorEq, Nat.reduceEqDiff, Nat.reduceBEq, Nat.reduceAdd, Nat.reduceMul, Nat.reduceLeDiff, g0, g2, g4, g12, g13, hN, hlt]
    have : j = h.table.pieces.length := by omega
    subst this
    refine fin_ret 6 (by simp [upd_at, hN]) ⟨_, H, Settle.refl hE, ?_⟩
    simp only [upd_at, if_true, and_true, AV.bool.injEq]
    symm
    simp only [harmedP, List.any_eq_false, List.mem_range]
    intro i hi
    rw [hq i hi]; simp
end Go.Lift

set_option linter.unusedSimpArgs false
set_option linter.unusedVariables false
namespace Go.Lift
open Go Go.Proofs
def verdictOf (yes n : Nat) : Int := if yes = n then 1 else if yes = 0 then 2 else 3
theorem tru_size {h : House} (hv : HV h) (out : List Int) : (truH h out).length ≤ 2000 := Nat.le_trans (List.length_filter_le _ _) (allC_len hv)
theorem build1 (f : FuncId) (H : AHeap) : buildCells [.nilf] [(0, 1)] [.func (.func f) [] []] = some [.func (.func f) [] []] := by simp [buildCells, placeAt, AV.ok, AV.cells]
theorem verdict_c (h : House) (hv : HV h) (g : FuncId) (n : Int) (p : Course → Bool) (hp : ∀ c, CLen h c → Pure Tryz.prog g [.elem (kCells h), .agg (eKn h c), i6 n] (.bool (p c))) :
    Pure Tryz.prog 79 [.agg [.func (.func g) [] []], .elem (kCells h), i6 n] (i6 (verdictOf ((truH h []).countP p) (truH h []).length)) := by
  intro H
  have hp7 := hv.ok.pcs
  have hm6 := hv.ok.touches
  have htl := tru_size hv []
  obtain ⟨tr, htr⟩ : ∃ tr, tr = truH h [] := ⟨_, rfl⟩
  have hlen : ∀ c ∈ tr, CLen h c := fun c hc => tru_len hv (by rw [← htr]; exact hc)
  rw [← htr] at htl ⊢
  refine fn_of hmix fc79 (by simp) ?_
  rw [ienv3]
  simp only [go_sem, reduceIte, reduceCtorEq, Nat.reduceEqDiff, Nat.reduceBEq, Nat.reduceAdd, Nat.reduceMul, Nat.reduceLeDiff, ac79, kCells, ← htr]
  refine v_box _ rfl fun b hb => ?_
  simp only [go_sem, reduceIte, reduceCtorEq, Nat.reduceEqDiff, Nat.reduceBEq, Nat.reduceAdd, Nat.reduceMul, Nat.reduceLeDiff]
  refine x_for tr.length (fun j env H1 => Ext H H1 ∧ H1 b = some (.box [.func (.func g) [] []]) ∧ env 1 = .elem (kCells h) ∧ env 2 = i6 n ∧ env 3 = .ptr b 0 ∧ env 7 = i6 ((tr.take j).countP p) ∧ env 13 = .slice (tr.map (eKn h)) ∧ env 14 = i6 tr.length ∧ env 15 = i6 j ∧ env 38 = .any)
    ⟨(Ext.refl H).new hb _, updH_same _ _ _, by simp [upd_at, kCells, htr], by simp [upd_at], by simp [upd_at], by simp [upd_at], by simp [upd_at], by simp [upd_at], by simp [upd_at], by simp [upd_at]⟩ ?_
  rintro j env H1 hj ⟨hE, hB, g1, g2, g3, g7, g13, g14, g15, hN⟩
  by_cases hlt : (j : Int) < (tr.length : Int)
  · have hlt' : j < tr.length := by omega
    have hcl := hlen _ (List.getElem_mem hlt')
    have hkl := eKn_len h (c := tr[j]) (by have := hcl.own; omega) (by have := hcl.hrs; omega)
    simp only [go_sem, reduceIte, reduceCtorEq, Nat.reduceEqDiff, Nat.reduceBEq, Nat.reduceAdd, Nat.reduceMul, Nat.reduceLeDiff, g1, g2, g3, g7, g13, g14, g15, hN, hlt, map_get (f := eKn h) hlt', hkl, take_len hkl]
    refine v_alloc fun b3 hb3 => ?_
    have n3 : b ≠ b3 := fun h => by subst h; rw [hB] at hb3; cases hb3
    simp only [go_sem, reduceIte, reduceCtorEq, Nat.reduceEqDiff, Nat.reduceBEq, Nat.reduceAdd, Nat.reduceMul, Nat.reduceLeDiff]
    rw [v_store]
    refine ⟨rfl, hkl, eKn_cell h _, _, updH_same _ _ _, by simp, ?_⟩
    rw [c_agg, placeAll _ _ (by rw [hkl]; rfl)]
    have hE3 : ∀ o1 o2, Ext H (updH (updH H1 b3 o1) b3 o2) := fun o1 o2 => (hE.new hb3 _).upd (hE.isNone hb3) _
    simp only [go_sem, reduceIte, reduceCtorEq, Nat.reduceEqDiff, Nat.reduceBEq, Nat.reduceAdd, Nat.reduceMul, Nat.reduceLeDiff, g1, g2, g3, g7, g13, g14, g15, hN, updH_ne _ _ n3, hB, take_f', List.getElem?_cons_zero, hkl, take_len hkl, List.nil_append, List.append_nil]
    refine (hp _ hcl).go ?_
    have htk : tr.take (j + 1) = tr.take j ++ [tr[j]] := take_snoc hlt'
    have hcj : (tr.take j).countP p ≤ j := Nat.le_trans List.countP_le_length (by simp; omega)
    cases hpj : p tr[j]
    · have : (tr.take (j + 1)).countP p = (tr.take j).countP p := by rw [htk, List.countP_append, List.countP_cons, List.countP_nil, hpj]; rfl
      simp only [go_sem, reduceIte, reduceCtorEq, Nat.reduceEqDiff, Nat.reduceBEq, Nat.reduceAdd, Nat.reduceMul, Nat.reduceLeDiff, g1, g2, g3, g7, g13, g14, g15, hN, wsucc (show j < 4611686018427387904 by omega), hlt', updH_ne _ _ n3, hB, this]
      exact hE3 _ _
    · have : (tr.take (j + 1)).countP p = (tr.take j).countP p + 1 := by rw [htk, List.countP_append, List.countP_cons, List.countP_nil, hpj]; rfl
      simp only [go_sem, reduceIte, reduceCtorEq, Nat.reduceEqDiff, Nat.reduceBEq, Nat.reduceAdd, Nat.reduceMul, Nat.reduceLeDiff, g1, g2, g3, g7, g13, g14, g15, hN, wsucc (show j < 4611686018427387904 by omega), wsucc (show (tr.take j).countP p < 4611686018427387904 by omega), hlt', updH_ne _ _ n3, hB, this]
      exact hE3 _ _
  · have : j = tr.length := by omega
    subst this
    rw [List.take_length] at g7
    by_cases d1 : ((tr.countP p : Nat) : Int) = (tr.length : Int)
    · simp only [go_sem, reduceIte, reduceCtorEq, Nat.reduceEqDiff, Nat.reduceBEq, Nat.reduceAdd, Nat.reduceMul, Nat.reduceLeDiff, g1, g7, g13, g14, g15, hN, hlt, kCells, ← htr, List.getElem?_cons_zero, take_f', d1]
      refine fin_ret 6 (by simp [upd_at, hN]) ⟨_, H, Settle.refl hE, ?_⟩
      have : tr.countP p = tr.length := by omega
      simp [upd_at, verdictOf, this]
    by_cases d2 : ((tr.countP p : Nat) : Int) = 0
    · simp only [go_sem, reduceIte, reduceCtorEq, Nat.reduceEqDiff, Nat.reduceBEq, Nat.reduceAdd, Nat.reduceMul, Nat.reduceLeDiff, g1, g7, g13, g14, g15, hN, hlt, kCells, ← htr, List.getElem?_cons_zero, take_f', d1, d2]
      have h1 : ¬ tr.countP p = tr.length := by omega
      have h2 : tr.countP p = 0 := by omega
      have h3 : ¬ ((0 : Int) = (tr.length : Int)) := by omega
      simp only [go_sem, reduceIte, reduceCtorEq, Nat.reduceEqDiff, Nat.reduceBEq, Nat.reduceAdd, Nat.reduceMul, Nat.reduceLeDiff, h3]
      refine fin_ret 6 (by simp [upd_at, hN]) ⟨_, H, Settle.refl hE, ?_⟩
      rw [verdictOf, if_neg h1, if_pos h2]; simp [upd_at]
    · simp only [go_sem, reduceIte, reduceCtorEq, Nat.reduceEqDiff, Nat.reduceBEq, Nat.reduceAdd, Nat.reduceMul, Nat.reduceLeDiff, g1, g7, g13, g14, g15, hN, hlt, kCells, ← htr, List.getElem?_cons_zero, take_f', d1, d2]
      have h1 : ¬ tr.countP p = tr.length := by omega
      have h2 : ¬ tr.countP p = 0 := by omega
      refine fin_ret 6 (by simp [upd_at, hN]) ⟨_, H, Settle.refl hE, ?_⟩
      rw [verdictOf, if_neg h1, if_neg h2]; simp [upd_at]
theorem hv_ask {h : House} (hs : TSm h.table) (hsk : Sm h.sick.length) {fine : Bool} (he : askErrH h fine = 0) : HV h := by
  refine hv_of hs hsk ?_
  by_cases h1 : checkHouse h = 0
  · exact h1
  · rw [askErrH, if_neg h1] at he; exact he
def carryAt (h : House) (i : Nat) : Int := verdictOf ((truH h []).countP (carriesP h i)) (truH h []).length
def carryOf (h : House) : List Int := (List.range (nT h)).map (carryAt h)
def listR (e : Int) (l : List Int) : AV := if e = 0 then .tup [.slice (eI l), i6 0] else .tup [.emp, i6 e]
theorem settle_list {H1 H : AHeap} {v : AV} {l : List Int} {n : Int} (g : Grown 1 H H1 v (eI l)) (e : Ext H H1) : Settle H1 (.tup [v, i6 n]) H (.tup [.slice (eI l), i6 n]) :=
  settle_tup e (g.weaken e).2
theorem carry_c (h : House) (hs : TSm h.table) (hsk : Sm h.sick.length) : Pure Tryz.prog 21 [eH h] (listR (askErrH h true) (carryOf h)) := by
  intro H
  refine fn_of hmix fc21 (by simp) ?_
  rw [ienv1]
  simp only [go_sem, reduceIte, reduceCtorEq, Nat.reduceEqDiff, Nat.reduceBEq, Nat.reduceAdd, Nat.reduceMul, Nat.reduceLeDiff, ac21, eH]
  refine v_box _ rfl fun b1 hb1 => ?_
  simp only [go_sem, reduceIte, reduceCtorEq, Nat.reduceEqDiff, Nat.reduceBEq, Nat.reduceAdd, Nat.reduceMul, Nat.reduceLeDiff]
  refine (askedH_c h hs hsk true).go ?_
  have e1 := (Ext.refl H).new hb1 (.box [.slice (h.table.women.map eW), .slice (h.table.pieces.map eP), i6 h.table.wrong, .slice (eI h.sick), i6 h.others, i6 h.last, .slice (h.touches.map eTo), .slice (h.boiled.map eB), .slice (h.signs.map eS)])
  by_cases c1 : askErrH h true = 0
  rotate_left
  · simp only [go_sem, reduceIte, reduceCtorEq, Nat.reduceEqDiff, Nat.reduceBEq, Nat.reduceAdd, Nat.reduceMul, Nat.reduceLeDiff, askedR, c1, List.getElem?_cons_zero, List.getElem?_cons_succ]
    refine fin_ret2 2 3 (by simp [upd_at]) ⟨_, H, Settle.refl e1, ?_, rfl⟩
    simp [upd_at, listR, c1]
  have hv := hv_ask hs hsk c1
  have hnT := nT_le hv.ok
  simp only [go_sem, reduceIte, reduceCtorEq, Nat.reduceEqDiff, Nat.reduceBEq, Nat.reduceAdd, Nat.reduceMul, Nat.reduceLeDiff, askedR, c1, List.getElem?_cons_zero, List.getElem?_cons_succ]
  refine (things_c h).go ?_
  rw [thingsW_ok hv.ok]
  simp only [go_sem, reduceIte, reduceCtorEq, Nat.reduceEqDiff, Nat.reduceBEq, Nat.reduceAdd, Nat.reduceMul, Nat.reduceLeDiff]
  refine x_for (nT h) (fun j env H1 => Ext H H1 ∧ Grown 1 H H1 (env 6) (eI ((List.range j).map (carryAt h))) ∧ env 4 = .elem (kCells h) ∧ env 17 = i6 (nT h) ∧ env 18 = i6 j ∧ env 30 = .any)
    ⟨e1, .inl ⟨by simp [upd_at], rfl⟩, by simp [upd_at], by simp [upd_at], by simp [upd_at], by simp [upd_at]⟩ ?_
  rintro j env H1 hj ⟨hE, hG, g4, g17, g18, hN⟩
  by_cases hlt : (j : Int) < (nT h : Int)
  · have hlt' : j < nT h := by omega
    simp only [go_sem, reduceIte, reduceCtorEq, Nat.reduceEqDiff, Nat.reduceBEq, Nat.reduceAdd, Nat.reduceMul, Nat.reduceLeDiff, g4, g17, g18, hN, hlt, build1 _ H1, Option.map_some]
    refine (verdict_c h hv 78 j (carriesP h j) (fun c hc => carries_c h hv c hc j (by omega))).go ?_
    simp only [go_sem, reduceIte, reduceCtorEq, Nat.reduceEqDiff, Nat.reduceBEq, Nat.reduceAdd, Nat.reduceMul, Nat.reduceLeDiff]
    refine v_append hG hE rfl (eI_good _) (one_good _) (one_cell _) (by simp; omega) (by simp; omega) ?_
    intro v' H2 hg' he' hk'
    simp only [go_sem, reduceIte, reduceCtorEq, Nat.reduceEqDiff, Nat.reduceBEq, Nat.reduceAdd, Nat.reduceMul, Nat.reduceLeDiff, g4, g17, g18, hN, wsucc (show j < 4611686018427387904 by omega), hlt']
    refine ⟨he', ?_⟩
    rw [List.map_append, eI_app]; exact hg'
  · have : j = nT h := by omega
    subst this
    simp only [go_sem, reduceIte, reduceCtorEq, Nat.reduceEqDiff, Nat.reduceBEq, Nat.reduceAdd, Nat.reduceMul, Nat.reduceLeDiff, g4, g17, g18, hN, hlt]
    refine fin_ret2 2 3 (by simp [upd_at, hN]) ⟨listR 0 (carryOf h), H, ?_, rfl, rfl⟩
    simp only [upd_at, if_true, Nat.reduceEqDiff, if_false, listR]
    exact settle_list hG hE
def isWhose (h : House) (w : Nat) : Bool := decide (verdictOf ((truH h []).countP (harmedP h w)) (truH h []).length ≠ 2)
def whoseUpto (h : House) (j : Nat) : List Int := ((List.range j).filter (isWhose h)).map Int.ofNat
def whoseS (h : House) : List Int := whoseUpto h h.table.women.length
theorem whoseUpto_len (h : House) (j : Nat) : (whoseUpto h j).length ≤ j := by
  simp only [whoseUpto, List.length_map]
  exact Nat.le_trans (List.length_filter_le _ _) (by simp)
theorem whoseS_c (h : House) (hs : TSm h.table) (hsk : Sm h.sick.length) : Pure Tryz.prog 23 [eH h] (listR (askErrH h true) (whoseS h)) := by
  intro H
  refine fn_of hmix fc23 (by simp) ?_
  rw [ienv1]
  simp only [go_sem, reduceIte, reduceCtorEq, Nat.reduceEqDiff, Nat.reduceBEq, Nat.reduceAdd, Nat.reduceMul, Nat.reduceLeDiff, ac23, eH]
  refine v_box _ rfl fun b1 hb1 => ?_
  simp only [go_sem, reduceIte, reduceCtorEq, Nat.reduceEqDiff, Nat.reduceBEq, Nat.reduceAdd, Nat.reduceMul, Nat.reduceLeDiff]
  refine (askedH_c h hs hsk true).go ?_
  have e1 := (Ext.refl H).new hb1 (.box [.slice (h.table.women.map eW), .slice (h.table.pieces.map eP), i6 h.table.wrong, .slice (eI h.sick), i6 h.others, i6 h.last, .slice (h.touches.map eTo), .slice (h.boiled.map eB), .slice (h.signs.map eS)])
  by_cases c1 : askErrH h true = 0
  rotate_left
  · simp only [go_sem, reduceIte, reduceCtorEq, Nat.reduceEqDiff, Nat.reduceBEq, Nat.reduceAdd, Nat.reduceMul, Nat.reduceLeDiff, askedR, c1, List.getElem?_cons_zero, List.getElem?_cons_succ]
    refine fin_ret2 2 3 (by simp [upd_at]) ⟨_, H, Settle.refl e1, ?_, rfl⟩
    simp [upd_at, listR, c1]
  have hv := hv_ask hs hsk c1
  have hw5 := (checkTable_len hv.tab).1
  simp only [go_sem, reduceIte, reduceCtorEq, Nat.reduceEqDiff, Nat.reduceBEq, Nat.reduceAdd, Nat.reduceMul, Nat.reduceLeDiff, askedR, c1, List.getElem?_cons_zero, List.getElem?_cons_succ]
  refine x_for h.table.women.length (fun j env H1 => Ext H H1 ∧ Grown 1 H H1 (env 6) (eI (whoseUpto h j)) ∧ env 4 = .elem (kCells h) ∧ env 19 = i6 h.table.women.length ∧ env 20 = i6 j ∧ env 34 = .any)
    ⟨e1, .inl ⟨by simp [upd_at], rfl⟩, by simp [upd_at], by simp [upd_at], by simp [upd_at], by simp [upd_at]⟩ ?_
  rintro j env H1 hj ⟨hE, hG, g4, g19, g20, hN⟩
  by_cases hlt : (j : Int) < (h.table.women.length : Int)
  · have hlt' : j < h.table.women.length := by omega
    have hul := whoseUpto_len h j
    simp only [go_sem, reduceIte, reduceCtorEq, Nat.reduceEqDiff, Nat.reduceBEq, Nat.reduceAdd, Nat.reduceMul, Nat.reduceLeDiff, g4, g19, g20, hN, hlt, build1 _ H1, Option.map_some]
    refine (verdict_c h hv 80 j (harmedP h j) (fun c hc => harmed_c h hv c hc j)).go ?_
    have hsucc : whoseUpto h (j + 1) = whoseUpto h j ++ (if isWhose h j = true then [(j : Int)] else []) := by
      simp only [whoseUpto, List.range_succ, List.filter_append, List.map_append]
      congr 1
      cases h1 : isWhose h j <;> simp [List.filter_cons, h1]
    by_cases d : verdictOf ((truH h []).countP (harmedP h j)) (truH h []).length = 2
    · have hw : isWhose h j = false := by simp [isWhose, d]
      simp only [go_sem, reduceIte, reduceCtorEq, Nat.reduceEqDiff, Nat.reduceBEq, Nat.reduceAdd, Nat.reduceMul, Nat.reduceLeDiff, d, g4, g19, g20, hN, wsucc (show j < 4611686018427387904 by omega), hlt']
      refine ⟨hE, ?_⟩
      rw [hsucc, hw]; simpa using hG
    · have hw : isWhose h j = true := by simp [isWhose, d]
      simp only [go_sem, reduceIte, reduceCtorEq, Nat.reduceEqDiff, Nat.reduceBEq, Nat.reduceAdd, Nat.reduceMul, Nat.reduceLeDiff, d, g4, g19, g20, hN]
      refine v_append hG hE rfl (eI_good _) (one_good _) (one_cell _) (by simp; omega) (by simp; omega) ?_
      intro v' H2 hg' he' hk'
      simp only [go_sem, reduceIte, reduceCtorEq, Nat.reduceEqDiff, Nat.reduceBEq, Nat.reduceAdd, Nat.reduceMul, Nat.reduceLeDiff, g4, g19, g20, hN, wsucc (show j < 4611686018427387904 by omega), hlt']
      refine ⟨he', ?_⟩
      rw [hsucc, hw, if_pos rfl, eI_app]; exact hg'
  · have : j = h.table.women.length := by omega
    subst this
    simp only [go_sem, reduceIte, reduceCtorEq, Nat.reduceEqDiff, Nat.reduceBEq, Nat.reduceAdd, Nat.reduceMul, Nat.reduceLeDiff, g4, g19, g20, hN, hlt]
    refine fin_ret2 2 3 (by simp [upd_at, hN]) ⟨listR 0 (whoseS h), H, ?_, rfl, rfl⟩
    simp only [upd_at, if_true, Nat.reduceEqDiff, if_false, listR]
    exact settle_list hG hE
end Go.Lift

set_option linter.unusedSimpArgs false
set_option linter.unusedVariables false
namespace Go.Lift
open Go Go.Proofs
def atOf (l : List Int) (k : Int) : List Boiling := l.map fun n => ⟨n, k⟩
def rowOf (l : List Int) (k : Int) : List Boiling := (List.range l.length).map fun i : Nat => ⟨l.getD i 0, IntKind.i64.wrap (k + (i : Int))⟩
theorem eB_good (l : List Boiling) : goodEls 2 (l.map eB) := by
  intro e he; rw [List.mem_map] at he; obtain ⟨x, _, rfl⟩ := he; rfl
theorem eB_cell (l : List Boiling) : cellEls (l.map eB) := by
  intro e he x hx; rw [List.mem_map] at he; obtain ⟨y, _, rfl⟩ := he
  simp only [eB, List.mem_cons, List.not_mem_nil, or_false] at hx
  rcases hx with rfl | rfl <;> rfl
theorem at_c (l : List Int) (k : Int) (hl : Sm l.length) : Pure Tryz.prog 102 [.slice (eI l), i6 k] (.slice ((atOf l k).map eB)) := by
  intro H
  unfold Sm at hl
  refine fn_of hmix fc102 (by simp) ?_
  rw [ienv2]
  simp only [go_sem, reduceIte, reduceCtorEq, Nat.reduceEqDiff, Nat.reduceBEq, Nat.reduceAdd, Nat.reduceMul, Nat.reduceLeDiff, ac102]
  refine x_for l.length (fun j env H1 => Ext H H1 ∧ Grown 2 H H1 (env 4) ((atOf (l.take j) k).map eB) ∧ env 1 = i6 k ∧ env 7 = .slice (eI l) ∧ env 8 = i6 l.length ∧ env 9 = i6 j ∧ env 21 = .any)
    ⟨Ext.refl H, .inl ⟨by simp [upd_at], rfl⟩, by simp [upd_at], by simp [upd_at], by simp [upd_at], by simp [upd_at], by simp [upd_at]⟩ ?_
  rintro j env H1 hj ⟨hE, hG, g1, g7, g8, g9, hN⟩
  by_cases hlt : (j : Int) < (l.length : Int)
  · have hlt' : j < l.length := by omega
    have htl : (l.take j).length = j := by simp; omega
    simp only [go_sem, reduceIte, reduceCtorEq, Nat.reduceEqDiff, Nat.reduceBEq, Nat.reduceAdd, Nat.reduceMul, Nat.reduceLeDiff, g1, g7, g8, g9, hN, hlt, eI_get hlt', bc2, Option.map_some, d_bsa]
    refine v_append hG hE rfl (eB_good _) (eB_good [⟨l[j], k⟩]) (eB_cell [⟨l[j], k⟩]) (by simp [atOf]; omega) (by simp [atOf]; omega) ?_
    intro v' H2 hg' he' hk'
    simp only [go_sem, reduceIte, reduceCtorEq, Nat.reduceEqDiff, Nat.reduceBEq, Nat.reduceAdd, Nat.reduceMul, Nat.reduceLeDiff, g1, g7, g8, g9, hN, wsucc (show j < 4611686018427387904 by omega), hlt']
    refine ⟨he', ?_⟩
    rw [take_snoc hlt', atOf, List.map_append, List.map_append]; exact hg'
  · have : j = l.length := by omega
    subst this
    rw [List.take_length] at hG
    simp only [go_sem, reduceIte, reduceCtorEq, Nat.reduceEqDiff, Nat.reduceBEq, Nat.reduceAdd, Nat.reduceMul, Nat.reduceLeDiff, g1, g7, g8, g9, hN, hlt]
    refine fin_ret 4 (by simp [upd_at, hN]) ⟨_, H, ?_, rfl, rfl⟩
    simp only [upd_at, if_true]
    exact hG.weaken hE
theorem row_c (l : List Int) (k : Int) (hl : Sm l.length) : Pure Tryz.prog 108 [.slice (eI l), i6 k] (.slice ((rowOf l k).map eB)) := by
  intro H
  unfold Sm at hl
  refine fn_of hmix fc108 (by simp) ?_
  rw [ienv2]
  simp only [go_sem, reduceIte, reduceCtorEq, Nat.reduceEqDiff, Nat.reduceBEq, Nat.reduceAdd, Nat.reduceMul, Nat.reduceLeDiff, ac108]
  refine x_for l.length (fun j env H1 => Ext H H1 ∧ Grown 2 H H1 (env 4) (((List.range j).map fun i : Nat => (⟨l.getD i 0, IntKind.i64.wrap (k + (i : Int))⟩ : Boiling)).map eB) ∧ env 1 = i6 k ∧ env 7 = .slice (eI l) ∧ env 8 = i6 l.length ∧ env 9 = i6 j ∧ env 24 = .any)
    ⟨Ext.refl H, .inl ⟨by simp [upd_at], rfl⟩, by simp [upd_at], by simp [upd_at], by simp [upd_at], by simp [upd_at], by simp [upd_at]⟩ ?_
  rintro j env H1 hj ⟨hE, hG, g1, g7, g8, g9, hN⟩
  by_cases hlt : (j : Int) < (l.length : Int)
  · have hlt' : j < l.length := by omega
    have hgl : l.getD j 0 = l[j] := by simp [hlt']
    simp only [go_sem, reduceIte, reduceCtorEq, Nat.reduceEqDiff, Nat.reduceBEq, Nat.reduceAdd, Nat.reduceMul, Nat.reduceLeDiff, g1, g7, g8, g9, hN, hlt, eI_get hlt', bc2, Option.map_some, d_bsa]
    refine v_append hG hE rfl (eB_good _) (eB_good [⟨l[j], IntKind.i64.wrap (k + (j : Int))⟩]) (eB_cell [⟨l[j], IntKind.i64.wrap (k + (j : Int))⟩]) (by simp; omega) (by simp; omega) ?_
    intro v' H2 hg' he' hk'
    simp only [go_sem, reduceIte, reduceCtorEq, Nat.reduceEqDiff, Nat.reduceBEq, Nat.reduceAdd, Nat.reduceMul, Nat.reduceLeDiff, g1, g7, g8, g9, hN, wsucc (show j < 4611686018427387904 by omega), hlt']
    refine ⟨he', ?_⟩
    rw [List.map_append, List.map_append]
    simp only [List.map_cons, List.map_nil, hgl]; exact hg'
  · have : j = l.length := by omega
    subst this
    simp only [go_sem, reduceIte, reduceCtorEq, Nat.reduceEqDiff, Nat.reduceBEq, Nat.reduceAdd, Nat.reduceMul, Nat.reduceLeDiff, g1, g7, g8, g9, hN, hlt]
    refine fin_ret 4 (by simp [upd_at, hN]) ⟨_, H, ?_, rfl, rfl⟩
    simp only [upd_at, if_true]
    exact hG.weaken hE
theorem eqCells_bool : ∀ xs ys : List Bool, xs.length = ys.length → eqCells false (xs.map .bool) (ys.map .bool) = some (decide (xs = ys))
  | [], [], _ => rfl
  | x :: xs, y :: ys, h => by
    have ih := eqCells_bool xs ys (by simpa using h)
    simp only [List.map_cons, eqCells, if_true, ih, Option.map_some, Option.some.injEq]
    by_cases h1 : x = y <;> by_cases h2 : xs = ys <;> simp [h1, h2]
def safeAt (h : House) (more : List Boiling) (c : Course) (i : Nat) : Bool := !((lastOf h c more).getD i false && !decide ((pad7 c.owners).getD i 0 ∈ h.sick))
def safeC (h : House) (more : List Boiling) (c : Course) : Bool := (List.range h.table.pieces.length).all (safeAt h more c)
def safeP (h : House) (more : List Boiling) : Bool := (truH h []).all (safeC h more)
theorem safe1_c (h : House) (hv : HV h) (more : List Boiling) (c : Course) (hc : CLen h c) (bw bm : Nat) (H : AHeap) (hw : H bw = some (.box [.elem (kCells h)])) (hm : H bm = some (.box [.amap (bMap (h.boiled ++ more))])) :
    ACalls Tryz.prog 134 [.agg (eKn h c), .ptr bw 0, .ptr bm 0] H fun r H' => r = .bool (safeC h more c) ∧ H' = H := by
  have hp7 := hv.ok.pcs
  have hm6 := hv.ok.touches
  have h7 : c.owners.length ≤ 7 := by have := hc.own; omega
  have h6 : c.hours.length ≤ 6 := by have := hc.hrs; omega
  have hkl := eKn_len h h7 h6
  have hl13 : ((pad7 c.owners ++ pad6 c.hours).map i6).length = 13 := by simp [pad7_len _ h7, pad6_len _ h6]
  refine fn_of hmix fc134 (by simp) ?_
  rw [ienv3]
  simp only [go_sem, reduceIte, reduceCtorEq, Nat.reduceEqDiff, Nat.reduceBEq, Nat.reduceAdd, Nat.reduceMul, Nat.reduceLeDiff, ac134]
  refine v_box _ rfl fun b hb => ?_
  have nw : bw ≠ b := fun h => by subst h; rw [hw] at hb; cases hb
  have nm : bm ≠ b := fun h => by subst h; rw [hm] at hb; cases hb
  simp only [go_sem, reduceIte, reduceCtorEq, Nat.reduceEqDiff, Nat.reduceBEq, Nat.reduceAdd, Nat.reduceMul, Nat.reduceLeDiff, updH_ne _ _ nw, updH_ne _ _ nm, hw, hm, take_f', List.getElem?_cons_zero, kCells, Nat.reduceLeDiff, hkl, eKn_take h7 h6]
  refine pgo_call (play_c h hv.ok (pad7 c.owners) (pad6 c.hours) (h.boiled ++ more) (pad7_len _ h7) (pad6_len _ h6)) ?_
  rw [show playOf h (pad7 c.owners) (pad6 c.hours) ((h.boiled ++ more).map bKey) = lastOf h c more from rfl]
  simp only [go_sem, reduceIte, reduceCtorEq, Nat.reduceEqDiff, Nat.reduceBEq, Nat.reduceAdd, Nat.reduceMul, Nat.reduceLeDiff]
  refine v_alloc fun b5 hb5 => ?_
  have n5 : b ≠ b5 := fun h => by subst h; simp at hb5
  have nw5 : bw ≠ b5 := fun h => by subst h; rw [updH_ne _ _ nw, hw] at hb5; cases hb5
  have nm5 : bm ≠ b5 := fun h => by subst h; rw [updH_ne _ _ nm, hm] at hb5; cases hb5
  simp only [go_sem, reduceIte, reduceCtorEq, Nat.reduceEqDiff, Nat.reduceBEq, Nat.reduceAdd, Nat.reduceMul, Nat.reduceLeDiff, updH_ne _ _ nw, updH_ne _ _ nm, updH_ne _ _ n5, updH_ne _ _ nw5, updH_ne _ _ nm5, hw, hm, take_f', List.getElem?_cons_zero, kCells, Nat.reduceLeDiff, hkl, eKn_take h7 h6]
  rw [v_store]
  have hl10 : ((lastOf h c more).map AV.bool).length = 10 := by simp [lastOf_len]
  have hll := lastOf_len h c more
  refine ⟨rfl, hl10, by intro y hy; simp only [AV.cells, List.mem_map] at hy; obtain ⟨b, _, rfl⟩ := hy; rfl, _, updH_same _ _ _, by simp, ?_⟩
  rw [c_agg, placeAll _ _ (by rw [hl10]; rfl)]
  have e1 : Ext H (updH H b (.box (AV.agg (eKn h c)).cells)) := (Ext.refl H).new hb _
  have z5 : H b5 = none := e1.isNone hb5
  have hE5 : ∀ o1 o2, Ext H (updH (updH (updH H b (.box (AV.agg (eKn h c)).cells)) b5 o1) b5 o2) := fun o1 o2 => (e1.new hb5 _).upd z5 _
  have hbz : buildCells [.bool false, .bool false, .bool false, .bool false, .bool false, .bool false, .bool false, .bool false, .bool false, .bool false] [] [] = some ((List.replicate 10 false).map AV.bool) := rfl
  have heq := eqCells_bool (lastOf h c more) (List.replicate 10 false) (by rw [hll]; rfl)
  have hrl : ((List.replicate 10 false).map AV.bool).length = 10 := rfl
  by_cases hz : lastOf h c more = List.replicate 10 false
  · have hres : safeC h more c = true := by
      simp only [safeC, List.all_eq_true, List.mem_range]
      intro i hi
      rw [safeAt, hz]
      have : (List.replicate 10 false).getD i false = false := by rw [List.getD_eq_getElem?_getD, List.getElem?_replicate]; split <;> rfl
      rw [this]; rfl
    have heq' := eqCells_bool (List.replicate 10 false) (List.replicate 10 false) rfl
    rw [hz]
    simp only [go_sem, reduceIte, reduceCtorEq, Nat.reduceEqDiff, Nat.reduceBEq, Nat.reduceAdd, Nat.reduceMul, Nat.reduceLeDiff, hbz, hrl, take_len hrl, heq', Option.map_some, List.length_replicate]
    refine fin_ret 4 (by simp [upd_at]) ⟨_, H, Settle.refl (hE5 _ _), ?_⟩
    simp [upd_at, hres]
  simp only [go_sem, reduceIte, reduceCtorEq, Nat.reduceEqDiff, Nat.reduceBEq, Nat.reduceAdd, Nat.reduceMul, Nat.reduceLeDiff, hbz, hrl, hl10, take_len hl10, hll, heq, hz, Option.map_some, updH_ne _ _ nw5, updH_ne _ _ nw, hw, take_f', List.getElem?_cons_zero, kCells]
  refine (pieces_c h).go ?_
  simp only [go_sem, reduceIte, reduceCtorEq, Nat.reduceEqDiff, Nat.reduceBEq, Nat.reduceAdd, Nat.reduceMul, Nat.reduceLeDiff]
  refine x_for h.table.pieces.length (fun j env H1 => Ext H H1 ∧ H1 b = some (.box (eKn h c)) ∧ H1 bw = some (.box [.elem (kCells h)]) ∧ H1 b5 = some (.box ((lastOf h c more).map .bool)) ∧ env 1 = .ptr bw 0 ∧ env 3 = .ptr b 0 ∧ env 5 = .ptr b5 0 ∧ env 22 = i6 h.table.pieces.length ∧ env 23 = i6 j ∧ env 41 = .any ∧ ∀ i, i < j → safeAt h more c i = true)
    ⟨hE5 _ _, by rw [updH_ne _ _ n5, updH_ne _ _ n5]; exact updH_same _ _ _, by rw [updH_ne _ _ nw5, updH_ne _ _ nw5, updH_ne _ _ nw]; exact hw, updH_same _ _ _, by simp [upd_at], by simp [upd_at], by simp [upd_at], by simp [upd_at], by simp [upd_at], by simp [upd_at], by simp⟩ ?_
  rintro j env H1 hj ⟨hE, hB, hW, hB5, g1, g3, g5, g22, g23, hN, hq⟩
  by_cases hlt : (j : Int) < (h.table.pieces.length : Int)
  · have hlt' : j < h.table.pieces.length := by omega
    have hnext : safeAt h more c j = true → ∀ i, i < j + 1 → safeAt h more c i = true := fun hh i hi => by
      rcases Nat.lt_or_ge i j with h' | h'
      · exact hq i h'
      · have : i = j := by omega
        subst this; exact hh
    have hgb := bget (c := lastOf h c more) (show j < (lastOf h c more).length by omega)
    cases a1 : (lastOf h c more).getD j false
    · simp only [go_sem, reduceIte, reduceCtorEq, Nat.reduceEqDiff, Nat.reduceBEq, Nat.reduceAdd, Nat.reduceMul, Nat.reduceLeDiff, g1, g3, g5, g22, g23, hN, hlt, hB5, hll, show (j : Int) < ((10 : Nat) : Int) by omega, Nat.mul_one, show j ≤ 10 by omega, take_f', drop_at, hgb, a1, wsucc (show j < 4611686018427387904 by omega), hlt']
      exact ⟨hE, hB, hW, hnext (by rw [safeAt, a1]; rfl)⟩
    simp only [go_sem, reduceIte, reduceCtorEq, Nat.reduceEqDiff, Nat.reduceBEq, Nat.reduceAdd, Nat.reduceMul, Nat.reduceLeDiff, g1, g3, g5, g22, g23, hN, hlt, hB5, hll, hW, hB, hkl, eKn_take h7 h6, show (j : Int) < ((10 : Nat) : Int) by omega, Nat.mul_one, show j ≤ 10 by omega, take_f', drop_at, hgb, a1, kCells, Nat.reduceLeDiff, List.getElem?_cons_zero]
    refine pgo_call (sick_c h (pad7 c.owners) (pad6 c.hours) j (pad7_len _ h7) (pad6_len _ h6) (by omega) hv.ok.sk) ?_
    by_cases a3 : (pad7 c.owners).getD j 0 ∈ h.sick
    · simp only [go_sem, reduceIte, reduceCtorEq, Nat.reduceEqDiff, Nat.reduceBEq, Nat.reduceAdd, Nat.reduceMul, Nat.reduceLeDiff, g1, g3, g5, g22, g23, hN, a3, wsucc (show j < 4611686018427387904 by omega), hlt', hB, hB5]
      exact ⟨hE, by rw [hW]; rfl, hnext (by rw [safeAt, a1]; simp only [a3, decide_true]; rfl)⟩
    · simp only [go_sem, reduceIte, reduceCtorEq, Nat.reduceEqDiff, Nat.reduceBEq, Nat.reduceAdd, Nat.reduceMul, Nat.reduceLeDiff, g1, g3, g5, g22, g23, hN, a3]
      refine fin_ret 4 (by simp [upd_at, hN]) ⟨_, H, Settle.refl hE, ?_⟩
      simp only [upd_at, if_true, and_true, AV.bool.injEq]
      symm
      simp only [safeC, List.all_eq_false, List.mem_range]
      exact ⟨j, hlt', by rw [safeAt, a1]; simp only [a3, decide_false]; simp⟩
  · simp only [go_sem, reduceIte, reduceCtorEq, Nat.reduceEqDiff, Nat.reduceBEq, Nat.reduceAdd, Nat.reduceMul, Nat.reduceLeDiff, g1, g3, g5, g22, g23, hN, hlt]
    have : j = h.table.pieces.length := by omega
    subst this
    refine fin_ret 4 (by simp [upd_at, hN]) ⟨_, H, Settle.refl hE, ?_⟩
    simp only [upd_at, if_true, and_true, AV.bool.injEq]
    symm
    simp only [safeC, List.all_eq_true, List.mem_range]
    exact hq
theorem pmap_all {α : Type} {p : α → Prop} (q : α → Bool) : ∀ (l : List α) (hl : ∀ a ∈ l, p a), (l.pmap (fun a h => (⟨a, h⟩ : {a // p a})) hl).all (fun x => q x.1) = l.all q
  | [], _ => rfl
  | a :: l, hl => by simp only [List.pmap_cons, List.all_cons]; rw [pmap_all q l]
theorem pmap_map {α β : Type} {p : α → Prop} (f : α → β) : ∀ (l : List α) (hl : ∀ a ∈ l, p a), (l.pmap (fun a h => (⟨a, h⟩ : {a // p a})) hl).map (fun x => f x.1) = l.map f
  | [], _ => rfl
  | a :: l, hl => by simp only [List.pmap_cons, List.map_cons]; rw [pmap_map f l]
theorem pmap_mem {α : Type} {p : α → Prop} : ∀ (l : List α) (hl : ∀ a ∈ l, p a), (l.pmap (fun a h => (⟨a, h⟩ : {a // p a})) hl).length = l.length
  | [], _ => rfl
  | a :: l, hl => by simp [List.pmap_cons]
theorem safe_c (h : House) (hv : HV h) (more : List Boiling) (hm : Sm more.length) : Pure Tryz.prog 101 [.elem (kCells h), .slice (more.map eB)] (.bool (safeP h more)) := by
  intro H
  have hp7 := hv.ok.pcs
  have hm6 := hv.ok.touches
  have htl := tru_size hv []
  refine fn_of hmix fc101 (by simp) ?_
  rw [ienv2]
  simp only [go_sem, reduceIte, reduceCtorEq, Nat.reduceEqDiff, Nat.reduceBEq, Nat.reduceAdd, Nat.reduceMul, Nat.reduceLeDiff, ac101]
  refine v_box _ rfl fun b2 hb2 => ?_
  rw [show (AV.elem (kCells h)).cells = [.elem (kCells h)] from rfl]
  simp only [go_sem, reduceIte, reduceCtorEq, Nat.reduceEqDiff, Nat.reduceBEq, Nat.reduceAdd, Nat.reduceMul, Nat.reduceLeDiff, take_f', List.getElem?_cons_zero, kCells, Nat.reduceLeDiff]
  refine (boilings_c h more (by unfold Sm; have := hv.ok.boiled; omega) hm).go ?_
  simp only [go_sem, reduceIte, reduceCtorEq, Nat.reduceEqDiff, Nat.reduceBEq, Nat.reduceAdd, Nat.reduceMul, Nat.reduceLeDiff]
  refine v_alloc fun b5 hb5 => ?_
  have n25 : b2 ≠ b5 := fun h => by subst h; simp at hb5
  simp only [go_sem, reduceIte, reduceCtorEq, Nat.reduceEqDiff, Nat.reduceBEq, Nat.reduceAdd, Nat.reduceMul, Nat.reduceLeDiff]
  rw [v_store]
  refine ⟨rfl, rfl, by simp [AV.cells, AV.isCell], _, updH_same _ _ _, by simp, ?_⟩
  rw [show (AV.amap (bMap (h.boiled ++ more))).cells = [.amap (bMap (h.boiled ++ more))] from rfl, placeOne]
  simp only [go_sem, reduceIte, reduceCtorEq, Nat.reduceEqDiff, Nat.reduceBEq, Nat.reduceAdd, Nat.reduceMul, Nat.reduceLeDiff, updH_ne _ _ n25, take_f', List.getElem?_cons_zero, List.getElem?_cons_succ]
  have hlen : ∀ c ∈ truH h [], CLen h c := fun c hc => tru_len hv hc
  have e1 := (Ext.refl H).new hb2 (.box [.elem (kCells h)])
  have e2 := (e1.new hb5 (.box [.any])).upd (e1.isNone hb5) (.box [.amap (bMap (h.boiled ++ more))])
  have hcall := all_known (fun x : {c // CLen h c} => eKn h x.1) (fun x => eKn_len h (by have := x.2.own; omega) (by have := x.2.hrs; omega)) ((truH h []).pmap (fun a h => ⟨a, h⟩) hlen) (fun x => safeC h more x.1) 134 [] [.ptr b2 0, .ptr b5 0]
    (by unfold Sm; rw [pmap_mem]; omega) (updH (updH (updH H b2 (.box [.elem (kCells h)])) b5 (.box [.any])) b5 (.box [.amap (bMap (h.boiled ++ more))])) (fun x _ H1 hE1 => safe1_c h hv more x.1 x.2 b2 b5 H1 (hE1 _ _ (by rw [updH_ne _ _ n25, updH_ne _ _ n25]; exact updH_same _ _ _)) (hE1 _ _ (updH_same _ _ _)))
  rw [pmap_map (eKn h) (truH h []) hlen] at hcall
  refine ACalls.mono hcall ?_
  rintro _ _ ⟨rfl, rfl⟩
  simp only [go_sem, reduceIte, reduceCtorEq, Nat.reduceEqDiff, Nat.reduceBEq, Nat.reduceAdd, Nat.reduceMul, Nat.reduceLeDiff]
  refine fin_ret 4 (by simp [upd_at]) ⟨_, H, Settle.refl e2, ?_⟩
  simp only [upd_at, if_true, and_true, AV.bool.injEq, safeP]
  exact pmap_all (safeC h more) (truH h []) hlen
end Go.Lift

set_option linter.unusedSimpArgs false
set_option linter.unusedVariables false
namespace Go.Lift
open Go Go.Proofs
theorem v_isnil {P : Program} {R : AV → AHeap → Prop} {H : AHeap} {es : List (List AV)} (h : ∀ b : Bool, (b = true → es = []) → R (.bool b) H) : aopV P .isnil [.slice es] H R := ⟨es, rfl, h⟩
theorem clone_c (l : List Int) (hl : l.length ≤ 2147483648) (H : AHeap) : ACalls Tryz.prog 85 [.slice (eI l)] H fun r H' => Ext H H' ∧ Grown 1 H H' r (eI l) := by
  refine fn_of hmix fc85 (by simp) ?_
  rw [ienv1]
  simp only [go_sem, reduceIte, reduceCtorEq, Nat.reduceEqDiff, Nat.reduceBEq, Nat.reduceAdd, Nat.reduceMul, Nat.reduceLeDiff, ac85]
  refine v_isnil fun b hb => ?_
  cases b
  · simp only [go_sem, reduceIte, reduceCtorEq, Nat.reduceEqDiff, Nat.reduceBEq, Nat.reduceAdd, Nat.reduceMul, Nat.reduceLeDiff]
    refine v_append (H0 := H) (sz := 1) (.inl ⟨rfl, rfl⟩) (Ext.refl H) rfl (by intro e he; cases he) (eI_good l) (eI_cell l) (by simp; omega) (by simp; omega) ?_
    intro v' H' hg he hk
    simp only [go_sem, reduceIte, reduceCtorEq, Nat.reduceEqDiff, Nat.reduceBEq, Nat.reduceAdd, Nat.reduceMul, Nat.reduceLeDiff]
    refine fin_ret' 2 (by simp [upd_at]) ?_
    simp only [upd_at, if_true]
    exact ⟨he, by simpa using hg⟩
  · simp only [go_sem, reduceIte, reduceCtorEq, Nat.reduceEqDiff, Nat.reduceBEq, Nat.reduceAdd, Nat.reduceMul, Nat.reduceLeDiff]
    refine fin_ret' 2 (by simp [upd_at]) ?_
    simp only [upd_at, if_true]
    exact ⟨Ext.refl H, .inl ⟨rfl, hb rfl⟩⟩
theorem Grown.weakRep {sz : Nat} {H0 H : AHeap} {v : AV} {es : List (List AV)} (g : Grown sz H0 H v es) {w : World} {u : Value} (hr : Rep H w u v) : Rep H w u (.slice es) := by
  rcases g with ⟨rfl, rfl⟩ | ⟨b, cap, rfl, _⟩
  · exact Rep.weaken_emp hr
  · exact Rep.weaken_slice hr
theorem ACalls.arg0 {P : Program} {f : FuncId} {x y : AV} {xs : List AV} {H : AHeap} {R : AV → AHeap → Prop} (h : ∀ w v, Rep H w v x → Rep H w v y) (hc : ACalls P f (y :: xs) H R) : ACalls P f (x :: xs) H R :=
  ACalls.weaken (xs := x :: xs) (ys := y :: xs) rfl (hc := hc) fun i a b ha hb w v hr => by
    cases i with
    | zero => cases ha; cases hb; exact h w v hr
    | succ i => simp only [List.getElem?_cons_succ] at ha hb; rw [ha] at hb; cases hb; exact hr

/-- The first one that will do, or else the last one that was tried. -/
def tryAll (ok : List Int → Bool) (old : List Int) : List (List Int) → List Int
  | [] => old
  | x :: l => if ok x = true then x else tryAll ok x l
theorem tryAll_append (ok : List Int → Bool) : ∀ (l1 : List (List Int)) (old : List Int) (l2 : List (List Int)), tryAll ok old (l1 ++ l2) = if l1.any ok = true then tryAll ok old l1 else tryAll ok (tryAll ok old l1) l2
  | [], old, l2 => rfl
  | x :: l1, old, l2 => by
    simp only [List.cons_append, tryAll, List.any_cons]
    by_cases h : ok x = true
    · simp only [h, if_true, Bool.true_or]
    · simp only [Bool.not_eq_true] at h
      simp only [h, Bool.false_eq_true, if_false, Bool.false_or]; exact tryAll_append ok l1 x l2
/-- All increasing lists of so many numbers more, from one on. -/
def combos (n : Nat) : Nat → List Int → Nat → List (List Int)
  | 0, out, _ => [out]
  | k + 1, out, from_ => (List.range (n - k - from_)).flatMap fun j => combos n k (out ++ [((from_ + j : Nat) : Int)]) (from_ + j + 1)
def FV (fv : AV) (l : List Int) : Prop := (fv = .emp ∧ l = []) ∨ fv = .slice (eI l)
theorem FV.ok {fv : AV} {l : List Int} (h : FV fv l) : fv.ok = true ∧ fv.cells = [fv] ∧ fv.isCell = true := by
  rcases h with ⟨rfl, _⟩ | rfl <;> exact ⟨rfl, rfl, rfl⟩
theorem FV.rep {fv : AV} {l : List Int} (h : FV fv l) {H : AHeap} {w : World} {u : Value} (hr : Rep H w u fv) : Rep H w u (.slice (eI l)) := by
  rcases h with ⟨rfl, rfl⟩ | rfl
  · exact Rep.weaken_emp hr
  · exact hr

theorem boilGo_c (h : House) (hv : HV h) (hour : Int) (bf bw bk bh ba : Nat) (nw : bw ≠ bf) (nk : bk ≠ bf) (nh : bh ≠ bf) (na : ba ≠ bf) :
    ∀ (many : Nat) (out : List Int) (from_ : Nat) (fv : AV) (old : List Int) (H : AHeap), out.length + many ≤ 10 → from_ ≤ 10 → H bf = some (.box [fv]) → FV fv old → H bw = some (.box [.elem (kCells h)]) → H bk = some (.box [i6 hour]) →
      H bh = some (.box [.slice (h.table.women.map eW), .slice (h.table.pieces.map eP), i6 h.table.wrong, .slice (eI h.sick), i6 h.others, i6 h.last, .slice (h.touches.map eTo), .slice (h.boiled.map eB), .slice (h.signs.map eS)])  → H ba = some (.box [.func (.func 100) [] [.ptr bf 0, .ptr bw 0, .ptr bk 0, .ptr bh 0, .ptr ba 0]]) →
      ACalls Tryz.prog 100 [.slice (eI out), i6 from_, i6 many, .ptr bf 0, .ptr bw 0, .ptr bk 0, .ptr bh 0, .ptr ba 0] H fun r H' => r = .bool ((combos (nT h) many out from_).any fun x => safeP h (atOf x hour)) ∧
        (∃ fv', H' bf = some (.box [fv']) ∧ FV fv' (tryAll (fun x => safeP h (atOf x hour)) old (combos (nT h) many out from_))) ∧ ∀ x o, x ≠ bf → H x = some o → H' x = some o := by
  have hnT := nT_le hv.ok
  intro many
  induction many with
  | zero =>
    intro out from_ fv old H hout hfrom hf hfv hw hk hh ha
    refine fn_of hmix fc100 (by simp) ?_
    rw [ienv8]
    simp only [go_sem, reduceIte, reduceCtorEq, Nat.reduceEqDiff, Nat.reduceBEq, Nat.reduceAdd, Nat.reduceMul, Nat.reduceLeDiff, ac100, show ((0 : Nat) : Int) = 0 from rfl]
    rw [v_store]
    refine ⟨rfl, rfl, by simp [AV.cells, AV.isCell], _, hf, by simp, ?_⟩
    rw [show (AV.slice (eI out)).cells = [.slice (eI out)] from rfl, placeOne]
    simp only [go_sem, reduceIte, reduceCtorEq, Nat.reduceEqDiff, Nat.reduceBEq, Nat.reduceAdd, Nat.reduceMul, Nat.reduceLeDiff, updH_ne _ _ nw, updH_ne _ _ nk, hw, hk, take_f', List.getElem?_cons_zero]
    refine pgo_call (at_c out hour (by unfold Sm; omega)) ?_
    simp only [go_sem, reduceIte, reduceCtorEq, Nat.reduceEqDiff, Nat.reduceBEq, Nat.reduceAdd, Nat.reduceMul, Nat.reduceLeDiff]
    refine pgo_call (safe_c h hv (atOf out hour) (by unfold Sm; simp [atOf]; omega)) ?_
    simp only [go_sem, reduceIte, reduceCtorEq, Nat.reduceEqDiff, Nat.reduceBEq, Nat.reduceAdd, Nat.reduceMul, Nat.reduceLeDiff]
    refine fin_ret' 11 (by simp [upd_at]) ?_
    simp only [upd_at, if_true]
    refine ⟨by simp [combos], ⟨_, updH_same _ _ _, ?_⟩, fun x o hx ho => by rw [updH_ne _ _ hx]; exact ho⟩
    have : tryAll (fun x => safeP h (atOf x hour)) old (combos (nT h) 0 out from_) = out := by simp [combos, tryAll]
    rw [this]; exact .inr rfl
  | succ k ih =>
    intro out from_ fv old H hout hfrom hf hfv hw hk hh ha
    refine fn_of hmix fc100 (by simp) ?_
    rw [ienv8]
    have hmne : ¬ (((k + 1 : Nat) : Int) = 0) := by omega
    obtain ⟨cnt, hcnt⟩ : ∃ cnt, cnt = nT h - k - from_ := ⟨_, rfl⟩
    obtain ⟨f, hf'⟩ : ∃ f : Nat → List (List Int), f = fun j => combos (nT h) k (out ++ [((from_ + j : Nat) : Int)]) (from_ + j + 1) := ⟨_, rfl⟩
    have hcomb : combos (nT h) (k + 1) out from_ = (List.range cnt).flatMap f := by rw [hcnt, hf']; rfl
    rw [hcomb]
    obtain ⟨ok, hok⟩ : ∃ ok, ok = fun x => safeP h (atOf x hour) := ⟨_, rfl⟩
    rw [← hok]
    have hsub := w64 (x := (nT h : Int) - ((k + 1 : Nat) : Int)) (by omega) (by omega)
    have hdec : IntKind.i64.wrap (((k + 1 : Nat) : Int) - 1) = (k : Int) := by rw [w64 (by omega) (by omega)]; omega
    simp only [go_sem, reduceIte, reduceCtorEq, Nat.reduceEqDiff, Nat.reduceBEq, Nat.reduceAdd, Nat.reduceMul, Nat.reduceLeDiff, ac100, hmne]
    refine x_for cnt (fun j env H1 => (∀ x o, x ≠ bf → H x = some o → H1 x = some o) ∧ (∃ fv', H1 bf = some (.box [fv']) ∧ FV fv' (tryAll ok old ((List.range j).flatMap f))) ∧ (((List.range j).flatMap f).any ok = false) ∧
        env 0 = .slice (eI out) ∧ env 2 = i6 ((k + 1 : Nat) : Int) ∧ env 6 = .ptr bh 0 ∧ env 7 = .ptr ba 0 ∧ env 12 = i6 ((from_ + j : Nat) : Int) ∧ env 41 = .any)
      ⟨fun _ _ _ h => h, ⟨fv, hf, hfv⟩, rfl, by simp [upd_at], by simp [upd_at], by simp [upd_at], by simp [upd_at], by simp [upd_at], by simp [upd_at]⟩ ?_
    rintro j env H1 hj ⟨hK, ⟨fv1, hf1, hfv1⟩, hany, g0, g2, g6, g7, g12, hN⟩
    have hw1 := hK _ _ nw hw
    have hk1 := hK _ _ nk hk
    have hh1 := hK _ _ nh hh
    have ha1 := hK _ _ na ha
    simp only [go_sem, reduceIte, reduceCtorEq, Nat.reduceEqDiff, Nat.reduceBEq, Nat.reduceAdd, Nat.reduceMul, Nat.reduceLeDiff, g0, g2, g6, g7, g12, hN, hh1]
    refine (things_c h).go ?_
    rw [thingsW_ok hv.ok]
    by_cases hlt : ((from_ + j : Nat) : Int) ≤ (nT h : Int) - ((k + 1 : Nat) : Int)
    · have hltc : j < cnt := by omega
      simp only [go_sem, reduceIte, reduceCtorEq, Nat.reduceEqDiff, Nat.reduceBEq, Nat.reduceAdd, Nat.reduceMul, Nat.reduceLeDiff, g0, g2, g6, g7, g12, hN, hsub, hlt, hdec, ha1, take_f', List.getElem?_cons_zero, wsucc (show from_ + j < 4611686018427387904 by omega)]
      refine ACalls.mono (clone_c out (by omega) H1) ?_
      rintro r H2 ⟨hE2, hG2⟩
      simp only [go_sem, reduceIte, reduceCtorEq, Nat.reduceEqDiff, Nat.reduceBEq, Nat.reduceAdd, Nat.reduceMul, Nat.reduceLeDiff, g7, hE2 _ _ ha1, take_f', List.getElem?_cons_zero]
      refine v_append hG2 hE2 rfl (eI_good _) (one_good _) (one_cell _) (by simp; omega) (by simp; omega) ?_
      intro v' H3 hg' he' hk'
      simp only [go_sem, reduceIte, reduceCtorEq, Nat.reduceEqDiff, Nat.reduceBEq, Nat.reduceAdd, Nat.reduceMul, Nat.reduceLeDiff, g7, he' _ _ ha1, take_f', List.getElem?_cons_zero, List.nil_append, List.cons_append]
      refine ACalls.arg0 (y := .slice (eI (out ++ [((from_ + j : Nat) : Int)]))) (fun w v hr => by rw [eI_app]; exact hg'.weakRep hr) ?_
      have hcall := ih (out ++ [((from_ + j : Nat) : Int)]) (from_ + j + 1) fv1 _ H3 (by simp; omega) (by omega) (he' _ _ hf1) hfv1 (he' _ _ hw1) (he' _ _ hk1) (he' _ _ hh1) (he' _ _ ha1)
      rw [← hok] at hcall
      refine hcall.mono ?_
      rintro r H4 ⟨rfl, ⟨fv', hf4, hfv4⟩, hK4⟩
      have hKall : ∀ x o, x ≠ bf → H x = some o → H4 x = some o := fun x o hx ho => hK4 x o hx (he' _ _ (hK x o hx ho))
      have hfj : f j = combos (nT h) k (out ++ [((from_ + j : Nat) : Int)]) (from_ + j + 1) := by rw [hf']
      rw [← hfj] at hfv4 ⊢
      have hsucc : (List.range (j + 1)).flatMap f = (List.range j).flatMap f ++ f j := by rw [List.range_succ, List.flatMap_append]; simp
      have htry : tryAll ok old ((List.range (j + 1)).flatMap f) = tryAll ok (tryAll ok old ((List.range j).flatMap f)) (f j) := by rw [hsucc, tryAll_append, hany]; rfl
      cases hr : (f j).any ok
      · simp only [go_sem, reduceIte, reduceCtorEq, Nat.reduceEqDiff, Nat.reduceBEq, Nat.reduceAdd, Nat.reduceMul, Nat.reduceLeDiff, g0, g2, g6, g7, g12, hN, wsucc (show from_ + j < 4611686018427387904 by omega), hltc]
        refine ⟨hKall, ⟨fv', hf4, by (try rw [← List.range_succ]); rw [htry]; exact hfv4⟩, by (try rw [← List.range_succ]); rw [hsucc, List.any_append, hany, hr]; rfl, by rw [Nat.add_assoc]⟩
      · simp only [go_sem, reduceIte, reduceCtorEq, Nat.reduceEqDiff, Nat.reduceBEq, Nat.reduceAdd, Nat.reduceMul, Nat.reduceLeDiff, hN]
        refine fin_ret' 11 (by simp [upd_at, hN]) ?_
        simp only [upd_at, if_true]
        have hfull : (List.range cnt).flatMap f = (List.range (j + 1)).flatMap f ++ ((List.range (cnt - (j + 1))).map fun i => j + 1 + i).flatMap f := by
          rw [← List.flatMap_append]
          congr 1
          have : cnt = (j + 1) + (cnt - (j + 1)) := by omega
          conv => lhs; rw [this]
          rw [List.range_add]
        have hany2 : ((List.range (j + 1)).flatMap f).any ok = true := by rw [hsucc, List.any_append, hr, Bool.or_true]
        refine ⟨?_, ⟨fv', hf4, ?_⟩, hKall⟩
        · rw [hfull, List.any_append, hany2]; rfl
        · rw [hfull, tryAll_append, hany2, if_pos rfl, htry]; exact hfv4
    · simp only [go_sem, reduceIte, reduceCtorEq, Nat.reduceEqDiff, Nat.reduceBEq, Nat.reduceAdd, Nat.reduceMul, Nat.reduceLeDiff, g0, g2, g6, g7, g12, hN, hsub, hlt]
      have : j = cnt := by omega
      subst this
      refine fin_ret' 11 (by simp [upd_at, hN]) ?_
      simp only [upd_at, if_true]
      exact ⟨by rw [hany], ⟨fv1, hf1, hfv1⟩, hK⟩
end Go.Lift

set_option linter.unusedSimpArgs false
set_option linter.unusedVariables false
namespace Go.Lift
open Go Go.Proofs
def boilAll (h : House) (m : Nat) : List (List Int) := (List.range m).flatMap fun k => combos (nT h) k [] 0
def boilOf' (h : House) (hour : Int) : List Int := tryAll (fun x => safeP h (atOf x hour)) [] (boilAll h (nT h + 1))
theorem settle_fv {H1 H : AHeap} {v : AV} {l : List Int} {n : Int} (g : FV v l) (e : Ext H H1) : Settle H1 (.tup [v, i6 n]) H (.tup [.slice (eI l), i6 n]) :=
  settle_tup e fun w u hH hr => (g.rep hr).mono (Evolve.drop e)
theorem range_split {α : Type} (f : Nat → List α) {j cnt : Nat} (h : j < cnt) : ∃ r, (List.range cnt).flatMap f = (List.range (j + 1)).flatMap f ++ r := by
  refine ⟨((List.range (cnt - (j + 1))).map fun i => j + 1 + i).flatMap f, ?_⟩
  rw [← List.flatMap_append]
  congr 1
  have : cnt = (j + 1) + (cnt - (j + 1)) := by omega
  conv => lhs; rw [this]
  rw [List.range_add]
theorem boil_c (h : House) (hs : TSm h.table) (hsk : Sm h.sick.length) (hour : Int) : Pure Tryz.prog 44 [eH h, i6 hour] (listR (askErrH h (hourOK h hour)) (boilOf' h hour)) := by
  intro H
  refine fn_of hmix fc44 (by simp) ?_
  rw [ienv2]
  simp only [go_sem, reduceIte, reduceCtorEq, Nat.reduceEqDiff, Nat.reduceBEq, Nat.reduceAdd, Nat.reduceMul, Nat.reduceLeDiff, ac44, eH]
  refine v_box _ rfl fun b2 hb2 => ?_
  simp only [go_sem, reduceIte, reduceCtorEq, Nat.reduceEqDiff, Nat.reduceBEq, Nat.reduceAdd, Nat.reduceMul, Nat.reduceLeDiff]
  refine v_box _ rfl fun b3 hb3 => ?_
  have n23 : b2 ≠ b3 := fun h => by subst h; simp at hb3
  simp only [go_sem, reduceIte, reduceCtorEq, Nat.reduceEqDiff, Nat.reduceBEq, Nat.reduceAdd, Nat.reduceMul, Nat.reduceLeDiff, updH_ne _ _ n23, take_f', List.getElem?_cons_zero]
  refine pgo_call (hour_c h hour) ?_
  simp only [go_sem, reduceIte, reduceCtorEq, Nat.reduceEqDiff, Nat.reduceBEq, Nat.reduceAdd, Nat.reduceMul, Nat.reduceLeDiff]
  refine pgo_call (askedH_c h hs hsk (hourOK h hour)) ?_
  have e1 := (Ext.refl H).new hb2 (.box [.slice (h.table.women.map eW), .slice (h.table.pieces.map eP), i6 h.table.wrong, .slice (eI h.sick), i6 h.others, i6 h.last, .slice (h.touches.map eTo), .slice (h.boiled.map eB), .slice (h.signs.map eS)])
  have z3 : H b3 = none := e1.isNone hb3
  have e2 := e1.new hb3 (.box [i6 hour])
  by_cases c1 : askErrH h (hourOK h hour) = 0
  rotate_left
  · simp only [go_sem, reduceIte, reduceCtorEq, Nat.reduceEqDiff, Nat.reduceBEq, Nat.reduceAdd, Nat.reduceMul, Nat.reduceLeDiff, askedR, c1, List.getElem?_cons_zero, List.getElem?_cons_succ]
    refine v_alloc fun b6 hb6 => ?_
    have n26 : b2 ≠ b6 := fun h => by subst h; simp [updH, n23] at hb6
    have n36 : b3 ≠ b6 := fun h => by subst h; simp at hb6
    simp only [go_sem, reduceIte, reduceCtorEq, Nat.reduceEqDiff, Nat.reduceBEq, Nat.reduceAdd, Nat.reduceMul, Nat.reduceLeDiff, updH_ne _ _ n26, updH_ne _ _ n36, updH_ne _ _ n23, take_f', List.getElem?_cons_zero]
    rw [v_store]
    refine ⟨rfl, rfl, by simp [AV.cells, AV.isCell], _, updH_same _ _ _, by simp, ?_⟩
    simp only [go_sem, reduceIte, reduceCtorEq, Nat.reduceEqDiff, Nat.reduceBEq, Nat.reduceAdd, Nat.reduceMul, Nat.reduceLeDiff, List.getElem?_cons_zero, List.getElem?_cons_succ, c1]
    refine fin_ret2 4 5 (by simp [upd_at]) ⟨_, H, Settle.refl ((e2.new hb6 _).upd (e2.isNone hb6) _), ?_, rfl⟩
    simp [upd_at, listR, c1]
  have hv := hv_ask hs hsk c1
  have hnT := nT_le hv.ok
  simp only [go_sem, reduceIte, reduceCtorEq, Nat.reduceEqDiff, Nat.reduceBEq, Nat.reduceAdd, Nat.reduceMul, Nat.reduceLeDiff, askedR, c1, List.getElem?_cons_zero, List.getElem?_cons_succ]
  refine v_alloc fun b6 hb6 => ?_
  have n26 : b2 ≠ b6 := fun h => by subst h; simp [updH, n23] at hb6
  have n36 : b3 ≠ b6 := fun h => by subst h; simp at hb6
  have z6 : H b6 = none := e2.isNone hb6
  have e3 := (e2.new hb6 (.box [.nilp])).upd z6 (.box [.elem (kCells h)])
  simp only [go_sem, reduceIte, reduceCtorEq, Nat.reduceEqDiff, Nat.reduceBEq, Nat.reduceAdd, Nat.reduceMul, Nat.reduceLeDiff, updH_ne _ _ n26, updH_ne _ _ n36, updH_ne _ _ n23, take_f', List.getElem?_cons_zero]
  rw [v_store]
  refine ⟨rfl, rfl, by simp [AV.cells, AV.isCell, kCells], _, updH_same _ _ _, by simp, ?_⟩
  rw [show (AV.elem (kCells h)).cells = [.elem (kCells h)] from rfl, placeOne]
  simp only [go_sem, reduceIte, reduceCtorEq, Nat.reduceEqDiff, Nat.reduceBEq, Nat.reduceAdd, Nat.reduceMul, Nat.reduceLeDiff, List.getElem?_cons_zero, List.getElem?_cons_succ]
  refine v_alloc fun b8 hb8 => ?_
  have n28 : b2 ≠ b8 := fun h => by subst h; simp [updH, n23, n26] at hb8
  have n38 : b3 ≠ b8 := fun h => by subst h; simp [updH, n36] at hb8
  have n68 : b6 ≠ b8 := fun h => by subst h; simp at hb8
  have z8 : H b8 = none := e3.isNone hb8
  have e4 := e3.new hb8 (.box [.emp])
  simp only [go_sem, reduceIte, reduceCtorEq, Nat.reduceEqDiff, Nat.reduceBEq, Nat.reduceAdd, Nat.reduceMul, Nat.reduceLeDiff]
  refine v_alloc fun b9 hb9 => ?_
  have n29 : b2 ≠ b9 := fun h => by subst h; simp [updH, n23, n26, n28] at hb9
  have n39 : b3 ≠ b9 := fun h => by subst h; simp [updH, n36, n38] at hb9
  have n69 : b6 ≠ b9 := fun h => by subst h; simp [updH, n68] at hb9
  have n89 : b8 ≠ b9 := fun h => by subst h; simp at hb9
  have z9 : H b9 = none := e4.isNone hb9
  simp only [go_sem, reduceIte, reduceCtorEq, Nat.reduceEqDiff, Nat.reduceBEq, Nat.reduceAdd, Nat.reduceMul, Nat.reduceLeDiff]
  rw [v_store]
  refine ⟨rfl, rfl, by simp [AV.cells, AV.isCell], _, updH_same _ _ _, by simp, ?_⟩
  have e5 := (e4.new hb9 (.box [.nilf])).upd z9 (.box [.func (.func 100) [] [.ptr b8 0, .ptr b6 0, .ptr b3 0, .ptr b2 0, .ptr b9 0]])
  simp only [c_func, placeOne]
  generalize hHH : updH (updH (updH (updH (updH (updH (updH H b2 (.box [.slice (h.table.women.map eW), .slice (h.table.pieces.map eP), i6 h.table.wrong, .slice (eI h.sick), i6 h.others, i6 h.last, .slice (h.touches.map eTo), .slice (h.boiled.map eB), .slice (h.signs.map eS)])) b3 (.box [i6 hour])) b6 (.box [.nilp])) b6 (.box [.elem (kCells h)])) b8 (.box [.emp])) b9 (.box [.nilf])) b9 (.box [.func (.func 100) [] [.ptr b8 0, .ptr b6 0, .ptr b3 0, .ptr b2 0, .ptr b9 0]]) = HH at e5 ⊢
  have B2 : HH b2 = some (.box [.slice (h.table.women.map eW), .slice (h.table.pieces.map eP), i6 h.table.wrong, .slice (eI h.sick), i6 h.others, i6 h.last, .slice (h.touches.map eTo), .slice (h.boiled.map eB), .slice (h.signs.map eS)]) := by subst hHH; simp [updH, n23, n26, n28, n29]
  have B3 : HH b3 = some (.box [i6 hour]) := by subst hHH; simp [updH, n36, n38, n39]
  have B6 : HH b6 = some (.box [.elem (kCells h)]) := by subst hHH; simp [updH, n68, n69]
  have B8 : HH b8 = some (.box [.emp]) := by subst hHH; simp [updH, n89]
  have B9 : HH b9 = some (.box [.func (.func 100) [] [.ptr b8 0, .ptr b6 0, .ptr b3 0, .ptr b2 0, .ptr b9 0]]) := by subst hHH; simp [updH]
  clear hHH
  simp only [go_sem, reduceIte, reduceCtorEq, Nat.reduceEqDiff, Nat.reduceBEq, Nat.reduceAdd, Nat.reduceMul, Nat.reduceLeDiff, B2]
  refine (things_c h).go ?_
  rw [thingsW_ok hv.ok]
  obtain ⟨ok, hok⟩ : ∃ ok, ok = fun x => safeP h (atOf x hour) := ⟨_, rfl⟩
  simp only [go_sem, reduceIte, reduceCtorEq, Nat.reduceEqDiff, Nat.reduceBEq, Nat.reduceAdd, Nat.reduceMul, Nat.reduceLeDiff, wsucc (show nT h < 4611686018427387904 by omega)]
  refine x_for (nT h + 1) (fun j env H1 => (∀ x o, x ≠ b8 → HH x = some o → H1 x = some o) ∧ (∃ fv', H1 b8 = some (.box [fv']) ∧ FV fv' (tryAll ok [] (boilAll h j))) ∧ ((boilAll h j).any ok = false) ∧
      env 8 = .ptr b8 0 ∧ env 9 = .ptr b9 0 ∧ env 25 = i6 ((nT h + 1 : Nat) : Int) ∧ env 26 = i6 j ∧ env 34 = .any)
    ⟨fun _ _ _ h => h, ⟨_, B8, .inl ⟨rfl, rfl⟩⟩, rfl, by simp [upd_at], by simp [upd_at], by simp [upd_at], by simp [upd_at], by simp [upd_at]⟩ ?_
  rintro j env H1 hj ⟨hK, ⟨fv1, hf1, hfv1⟩, hany, g8, g9, g25, g26, hN⟩
  have hExt : ∀ (H1 : AHeap), (∀ x o, x ≠ b8 → HH x = some o → H1 x = some o) → Ext H H1 := fun H1 hK x o hx => hK x o (fun h => by rw [h, z8] at hx; cases hx) (e5 x o hx)
  have fin0 : ∀ (H1 : AHeap) (fv : AV), Ext H H1 → FV fv (boilOf' h hour) → ∃ r' H2, Settle H1 (.tup [fv, i6 0]) H2 r' ∧ (r' = listR 0 (boilOf' h hour) ∧ H2 = H) := fun H1 fv hE hg =>
    ⟨.tup [.slice (eI (boilOf' h hour)), i6 0], H, settle_fv hg hE, rfl, rfl⟩
  by_cases hlt : (j : Int) < ((nT h + 1 : Nat) : Int)
  · have hlt' : j < nT h + 1 := by omega
    have hK9 := hK _ _ n89.symm B9
    simp only [go_sem, reduceIte, reduceCtorEq, Nat.reduceEqDiff, Nat.reduceBEq, Nat.reduceAdd, Nat.reduceMul, Nat.reduceLeDiff, g8, g9, g25, g26, hN, hlt, hK9, take_f', List.getElem?_cons_zero, List.nil_append, List.cons_append]
    refine ACalls.arg0 (y := .slice (eI [])) (fun w v hr => Rep.weaken_emp hr) ?_
    have hcall := boilGo_c h hv hour b8 b6 b3 b2 b9 n68 n38 n28 n89.symm j [] 0 fv1 _ H1 (by simp; omega) (by omega) hf1 hfv1 (hK _ _ n68 B6) (hK _ _ n38 B3) (hK _ _ n28 B2) hK9
    rw [← hok] at hcall
    refine hcall.mono ?_
    rintro r H4 ⟨rfl, ⟨fv', hf4, hfv4⟩, hK4⟩
    have hKall : ∀ x o, x ≠ b8 → HH x = some o → H4 x = some o := fun x o hx ho => hK4 x o hx (hK x o hx ho)
    have hsucc : boilAll h (j + 1) = boilAll h j ++ combos (nT h) j [] 0 := by simp only [boilAll]; rw [List.range_succ, List.flatMap_append]; simp
    have htry : tryAll ok [] (boilAll h (j + 1)) = tryAll ok (tryAll ok [] (boilAll h j)) (combos (nT h) j [] 0) := by rw [hsucc, tryAll_append, hany]; rfl
    cases hr : (combos (nT h) j [] 0).any ok
    · simp only [go_sem, reduceIte, reduceCtorEq, Nat.reduceEqDiff, Nat.reduceBEq, Nat.reduceAdd, Nat.reduceMul, Nat.reduceLeDiff, g8, g9, g25, g26, hN, wsucc (show j < 4611686018427387904 by omega), hlt']
      exact ⟨hKall, ⟨fv', hf4, by rw [htry]; exact hfv4⟩, by rw [hsucc, List.any_append, hany, hr]; rfl⟩
    · simp only [go_sem, reduceIte, reduceCtorEq, Nat.reduceEqDiff, Nat.reduceBEq, Nat.reduceAdd, Nat.reduceMul, Nat.reduceLeDiff, g8, hN, hf4, take_f', List.getElem?_cons_zero]
      refine fin_ret2 4 5 (by simp [upd_at, hN]) ?_
      simp only [upd_at, if_true, Nat.reduceEqDiff, if_false]
      refine fin0 H4 fv' (hExt H4 hKall) ?_
      obtain ⟨r, hr2⟩ := range_split (fun k => combos (nT h) k [] 0) hlt'
      have hany2 : (boilAll h (j + 1)).any ok = true := by rw [hsucc, List.any_append, hr, Bool.or_true]
      have : boilAll h (nT h + 1) = boilAll h (j + 1) ++ r := hr2
      rw [boilOf', ← hok, this, tryAll_append, hany2, if_pos rfl, htry]; exact hfv4
  · have : j = nT h + 1 := by omega
    subst this
    simp only [go_sem, reduceIte, reduceCtorEq, Nat.reduceEqDiff, Nat.reduceBEq, Nat.reduceAdd, Nat.reduceMul, Nat.reduceLeDiff, g8, g9, g25, g26, hN, hlt, hf1, take_f', List.getElem?_cons_zero]
    refine fin_ret2 4 5 (by simp [upd_at, hN]) ?_
    simp only [upd_at, if_true, Nat.reduceEqDiff, if_false]
    exact fin0 H1 fv1 (hExt H1 hK) (by rw [boilOf', ← hok]; exact hfv1)
end Go.Lift

