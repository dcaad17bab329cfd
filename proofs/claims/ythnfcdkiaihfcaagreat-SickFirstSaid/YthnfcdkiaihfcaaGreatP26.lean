/- Part 26 of the proof: the tools and contracts. Conditions: none. -/
import Derived.Test.YthnfcdkiaihfcaaGreatP25
import Derived.Test.YthnfcdkiaihfcaaGreatProg
set_option maxRecDepth 100000
set_option linter.unusedVariables false
namespace Go.Lift
open Go Go.Proofs
def cert10 : Nat → Option Cert := fun _ => none
def ac10 : ACode :=(.seq (.ops [uO 1 .box 0, oA 2 .mov [kF]]) (.seq (.seq (.ops [uO 11 lT9 1, uO 12 (.call 35) 11, uO 13 .not 12]) (.cond (.t 13) (.seq (.ops [oA 14 (.call 20) [], uM 2 14]) .ret) .skip)) (.seq (.ops [uO 16 lT9 1, uO 17 (.call 22) 16, uO 18 (.call 29) 17, uM 15 18, uO 19 x0 15, uO 20 x1 15, uM 3 19, uM 4 20]) (.seq (.seq (.ops [uM 21 4, oA 22 bN [.t 21, (kI 0)]]) (.cond (.t 22) (.seq (.ops [uO 24 lT9 1, uO 25 (.call 22) 24, uO 26 (.call 21) 25, uM 23 26, uO 27 x0 23, uO 28 x1 23, uM 5 27, uM 6 28]) (.seq (.ops [uM 29 4, oA 30 bE [.t 29, (kI 7)], uM 31 30, gM 32 6 31 true, oG 33 bE [.t 32, (kI 0)] 31 true, oA 34 .pick [.t 31, .t 33, kF], uM 35 34, oG 36 (.call 20) [] 35 true, oA 37 .pick [.t 35, .t 36, kF], uM 2 37]) .ret)) .skip)) (.seq (.seq (.ops [uM 38 3, uO 39 fA8 1, uO 40 lF 39, uO 41 .len 40, oA 42 (.bin .sub) [.t 41, (kI 1)], oA 43 (.call 47) [.t 38, (kI 0), .t 42], uO 44 .not 43]) (.cond (.t 44) (.seq (.ops [oA 2 .mov [kF]]) .ret) .skip)) (.seq (.ops [uO 46 lT9 1, uM 47 3, uO 48 (.conv .u64) 47, oA 49 (.bin .shl) [(kI 1), .t 48], oA 50 (.bin .sub) [.t 49, (kI 1)], uB 51 (.call 48) 46 50, uO 52 (.call 22) 51, uO 53 (.call 21) 52, uM 45 53, uO 54 x0 45, uO 55 x1 45, uM 7 54, uM 8 55]) (.seq (.ops [uO 57 lT9 1, uM 58 3, uO 59 (.conv .u64) 58, oA 60 (.bin .shl) [(kI 2), .t 59], oA 61 (.bin .sub) [.t 60, (kI 1)], uB 62 (.call 48) 57 61, uO 63 (.call 22) 62, uO 64 (.call 21) 63, uM 56 64, uO 65 x0 56, uO 66 x1 56, uM 9 65, uM 10 66]) (.seq (.ops [uM 67 8, oA 68 bE [.t 67, (kI 0)], uM 69 68, gM 70 10 69 true, oG 71 bE [.t 70, (kI 11)] 69 true, oA 72 .pick [.t 69, .t 71, kF], uM 73 72, oG 74 (.call 20) [] 73 true, oA 75 .pick [.t 73, .t 74, kF], uM 2 75]) .ret))))))))
theorem fc10 : fnC Tryz.prog 10 cert10 = some (76, [.tmp 2], ac10) := by kernel_rfl
end Go.Lift
set_option maxRecDepth 100000
set_option linter.unusedVariables false
namespace Go.Lift
open Go Go.Proofs
def cert48 : Nat → Option Cert := fun
  | 7 => some ⟨[0, 1, 2, 3, 4, 5, 6, 7], (.one 8 (.one 9 (.one 10 .done))), [[], [0], [], [2], [], [2, 3, 4], [2, 3, 4, 5], [2, 3, 4, 5, 6], [0, 1, 2, 3, 4, 5, 6, 7], [0, 1, 2, 3, 4, 5, 6, 7, 8], [0, 1, 2, 3, 4, 5, 6, 7, 8, 9]]⟩
  | _ => none
def ac48 : ACode :=(.seq (.ops [uO 2 .box 0, oA 4 (.alloc z9) []]) (.seq (.ops [uO 7 lT9 2, oA 5 (.alloc z9) [], oZ (.store 9) [.t 5, .t 7]]) (.seq (.ops [uO 8 fA8 5, oZ (.store 1) [.t 8, kE]]) (.seq (.seq (.ops [oA 6 .mov [(kI 0)]]) (.block 0 (.loop (.seq (.seq (.ops [uM 9 6, uO 10 fA8 2, uO 11 lF 10, uO 12 .len 11, uB 13 bL 9 12]) (.cond (.t 13) .skip (.exit 0))) (.seq (.block 1 (.seq (.ops [uM 16 1, uM 17 6, uO 18 (.conv .u64) 17, uB 19 (.bin .shr) 16 18, oA 20 (.bin .rem) [.t 19, (kI 2)], oA 21 bE [.t 20, (kI 1)]]) (.cond (.t 21) (.draw [(false, uO 22 fA8 5), (false, uO 23 lF 22), (false, uO 24 fA8 2), (false, uO 25 lF 24), (false, uM 26 6), (false, uB 27 (.idxaddr 2) 25 26), (false, uO 28 lT2 27), (false, uO 29 (.bslice 2) 28)] (.one (uB 30 (.append 2 16) 23 29) [] (.one (uO 31 fA8 5) [] (.one (oZ (.store 1) [.t 31, .t 30]) [] .done)))) .skip))) (.ops [uM 14 6, oA 15 bA [.t 14, (kI 1)], uM 6 15])))))) (.seq (.ops [uO 32 lT9 5, oZ (.store 9) [.t 4, .t 32]]) .ret)))))
theorem fc48 : fnC Tryz.prog 48 cert48 = some (33, [.cell 4 31], ac48) := by kernel_rfl
end Go.Lift
set_option linter.unusedSimpArgs false
set_option linter.unusedVariables false
namespace Go.Lift
open Go Go.Proofs
def beforeL : List Int → List Int → Bool
  | a :: xs, b :: bs => if a = b then beforeL xs bs else decide (a < b)
  | [], bs => decide (0 < bs.length)
  | _ :: _, [] => false
def shorterL (a b : List Int) : Bool := decide (a.length < b.length) || (decide (a.length = b.length) && beforeL a b)
end Go.Lift

set_option linter.unusedSimpArgs false
set_option linter.unusedVariables false
namespace Go.Lift
open Go Go.Proofs
theorem w_shl2 {i : Nat} (hi : i < 60) : IntKind.i64.wrap (2 * 2 ^ Nat.min i IntKind.i64.bits) = ((2 ^ (i + 1) : Nat) : Int) := by
  have h := w_shl (a := 2) (i := i) (by omega) (by
    have := Nat.pow_lt_pow_right (a := 2) (by omega) (show i + 1 < 62 by omega)
    rw [Nat.pow_succ] at this; omega)
  rw [Nat.pow_succ, Nat.mul_comm]
  exact h
theorem pred_pow {i : Nat} (hi : i < 62) : IntKind.i64.wrap (((2 ^ i : Nat) : Int) - 1) = ((2 ^ i - 1 : Nat) : Int) := by
  have h1 : 1 ≤ 2 ^ i := Nat.one_le_two_pow
  have h2 := two_lt hi
  generalize 2 ^ i = q at h1 h2
  rw [w64 (by omega) (by omega)]; omega
end Go.Lift

set_option linter.unusedSimpArgs false
set_option linter.unusedVariables false
namespace Go.Lift
open Go Go.Proofs
theorem truthsR_mem {t : Table} (hc : checkTable t = 0) (o : List Int) : o ∈ truthsR t ↔ isTruthT t o = true := by
  rw [truthsR_eq hc, List.mem_filter, isTruthT_iff hc, isTruthR, Bool.and_eq_true, decide_eq_true_eq, mem_allO]
  constructor
  · rintro ⟨h1, h2, h3⟩; exact ⟨h1, h3⟩
  · rintro ⟨h1, h2⟩; exact ⟨h1, h1, h2⟩
end Go.Lift

set_option linter.unusedSimpArgs false
set_option linter.unusedVariables false
namespace Go.Lift
open Go Go.Proofs
theorem thin_sm {h : House} (c1 : thinH h = true) : HSm h := by
  rw [thinH, Bool.and_eq_true] at c1; exact short_sm c1.1
end Go.Lift

set_option linter.unusedSimpArgs false
set_option linter.unusedVariables false
namespace Go.Lift
open Go Go.Proofs
/-- The least one that will do, of some lists. -/
structure IsMin (ok : List Int → Bool) (D : List Int → Prop) (x : List Int) : Prop where
  dom : D x
  good : ok x = true
  least : ∀ y, D y → ok y = true → shorterL y x = false
theorem IsMin.congr {ok ok' : List Int → Bool} {D D' : List Int → Prop} {x : List Int} (h : IsMin ok D x) (hd : ∀ y, D y ↔ D' y) (hok : ∀ y, D y → ok y = ok' y) : IsMin ok' D' x :=
  ⟨(hd x).1 h.dom, by rw [← hok x h.dom]; exact h.good, fun y hy ho => h.least y ((hd y).2 hy) (by rw [hok y ((hd y).2 hy)]; exact ho)⟩
end Go.Lift

set_option linter.unusedSimpArgs false
set_option linter.unusedVariables false
namespace Go.Lift
open Go Go.Proofs
/-- The house with other signs. -/
def reS (h : House) (ss : List Sign) : House := { h with signs := ss }
def sgn (bs : List Bool) (s : Sign) : Bool := bs.getD s.thing.toNat false == s.carries
theorem enumH_reS (h : House) (ss : List Sign) : ∀ (k : Nat) (pre : List Int), enumH (reS h ss) k pre = enumH h k pre
  | 0, _ => rfl
  | k + 1, pre => by
    simp only [enumH]
    congr 1
    funext n
    exact enumH_reS h ss k _
theorem allC_reS (h : House) (ss : List Sign) : allC (reS h ss) = allC h := by
  unfold allC
  congr 1
  funext o
  unfold coursesOf
  rw [enumH_reS]; rfl
theorem timesUpto_reS (h : House) (ss : List Sign) (m : Int) : ∀ j, timesUpto (reS h ss) m j = timesUpto h m j
  | 0 => rfl
  | j + 1 => by simp only [timesUpto, timesUpto_reS h ss m j]; rfl
theorem check_zero (h : House) : checkHouse h = 0 ↔ ¬ bigH h ∧ askErr h.table = 0 ∧ ¬ badH h ∧ allH h ∧ ¬ 2000 < manyH h := by
  unfold checkHouse
  by_cases h1 : bigH h
  · simp [h1]
  by_cases h2 : askErr h.table = 0
  rotate_left
  · simp [h1, h2]
  by_cases h3 : badH h
  · simp [h1, h2, h3]
  by_cases h4 : allH h
  rotate_left
  · simp [h1, h2, h3, h4]
  by_cases h5 : 2000 < manyH h
  · simp [h1, h2, h3, h4, h5]
  · simp [h1, h2, h3, h4, h5]
theorem check_reS {h : House} (hc : checkHouse h = 0) {ss : List Sign} (h5 : ss.length ≤ 5) (ht : ∀ s ∈ ss, thingOK h s.thing = true) : checkHouse (reS h ss) = 0 := by
  rw [check_zero] at hc ⊢
  obtain ⟨h1, h2, h3, h4, h6⟩ := hc
  refine ⟨?_, h2, h3, ⟨h4.1, h4.2.1, List.all_eq_true.2 ht⟩, ?_⟩
  · rintro (k | k | k | k | k)
    · exact h1 (.inl k)
    · exact h1 (.inr (.inl k))
    · exact h1 (.inr (.inr (.inl k)))
    · exact h1 (.inr (.inr (.inr (.inl k))))
    · have : (reS h ss).signs.length = ss.length := rfl
      omega
  · have : manyH (reS h ss) = manyH h := timesUpto_reS h ss _ _
    rw [this]; exact h6
theorem signs_ok {h : House} (hc : checkHouse h = 0) : h.signs.length ≤ 5 ∧ ∀ s ∈ h.signs, thingOK h s.thing = true := by
  rw [check_zero] at hc
  obtain ⟨h1, h2, h3, h4, h6⟩ := hc
  refine ⟨?_, List.all_eq_true.1 h4.2.2⟩
  apply Classical.byContradiction
  intro hn
  exact h1 (.inr (.inr (.inr (.inr (by omega)))))
theorem range_all {α : Type} (d : α) (l : List α) (p : α → Bool) : ((List.range l.length).all fun i => p (l.getD i d)) = l.all p := by
  rw [Bool.eq_iff_iff, List.all_eq_true, List.all_eq_true]
  constructor
  · intro h x hx
    obtain ⟨i, hi, rfl⟩ := List.getElem_of_mem hx
    have := h i (List.mem_range.2 hi)
    simpa [List.getD_eq_getElem?_getD, hi] using this
  · intro h i hi
    have hi' := List.mem_range.1 hi
    have : l.getD i d = l[i] := by simp [List.getD_eq_getElem?_getD, hi']
    rw [this]; exact h _ (List.getElem_mem _)
theorem isTrue_nil (h : House) (c : Course) : isTrue h [] c = h.signs.all (sgn (lastOf h c [])) := by
  rw [← range_all default, isTrue, rightOK]
  congr 1
  funext i
  unfold signRight sgn
  generalize (lastOf h c []).getD _ false = a
  generalize Sign.carries _ = b
  cases a <;> cases b <;> simp
theorem possible_iff (h : House) (out : List Int) : possibleP h out = true ↔ ∃ c ∈ allC h, isTrue h out c = true := by
  rw [possibleP, List.any_eq_true]
theorem possible_tru (h : House) : possibleP h [] = true ↔ truH h [] ≠ [] := by
  rw [possible_iff, truH, Ne, List.filter_eq_nil_iff]
  constructor
  · rintro ⟨c, hc, ht⟩ hall; exact hall c hc ht
  · intro hn; exact Classical.byContradiction fun hno => hn fun c hc ht => hno ⟨c, hc, ht⟩
theorem allC_ne {h : House} (hv : HV h) : ∃ c, c ∈ allC h := by
  have h1 : truthsT h.table ≠ [] := by
    intro h0
    have := hv.ask
    rw [askErr, if_pos hv.tab, if_pos h0] at this; cases this
  have h2 : truthsR h.table ≠ [] := fun h0 => h1 ((truths_nil hv.tab).1 h0)
  obtain ⟨o, l, ho⟩ := List.exists_cons_of_ne_nil h2
  have h3 : isTruthT h.table o = true := (truthsR_mem hv.tab o).1 (by rw [ho]; simp)
  refine ⟨⟨o, h.touches.map (·.lo)⟩, (mem_allC hv.tab _).2 ?_⟩
  rw [courseOK, h3, hoursOK]
  simp only [Bool.true_and, List.length_map, decide_true, List.all_eq_true, List.mem_range, decide_eq_true_eq]
  intro i hi
  have := hv.tim _ (List.getElem_mem hi)
  simp [List.getD_eq_getElem?_getD, hi]; omega
theorem cut_reS (h : House) (k : Nat) : cut h k = reS h (h.signs.take k) := rfl
theorem possible_reS (h : House) (ss : List Sign) : possibleP (reS h ss) [] = (allC h).any fun c => ss.all (sgn (lastOf h c [])) := by
  rw [possibleP, allC_reS]
  congr 1
  funext c
  rw [isTrue_nil]; rfl
end Go.Lift

set_option linter.unusedSimpArgs false
set_option linter.unusedVariables false
namespace Go.Lift
open Go Go.Proofs
theorem ask_zero {h : House} (h1 : checkHouse h = 0) (h2 : truH h [] ≠ []) : askErrH h true = 0 := by
  rw [askErrH, if_pos h1, if_pos rfl, if_neg h2]
end Go.Lift

set_option linter.unusedSimpArgs false
set_option linter.unusedVariables false
namespace Go.Lift
open Go Go.Proofs
def keepU (ss : List Sign) (m j : Nat) : List Sign := ((List.range j).filter m.testBit).map fun i => ss.getD i default
def keepB (ss : List Sign) (m : Nat) : List Sign := keepU ss m ss.length
theorem keepU_succ (ss : List Sign) (m j : Nat) : keepU ss m (j + 1) = keepU ss m j ++ (if m.testBit j = true then [ss.getD j default] else []) := by
  rw [keepU, List.range_succ, List.filter_append, List.map_append, keepU]
  congr 1
  cases hq : m.testBit j <;> simp [hq]
theorem keepU_len (ss : List Sign) (m j : Nat) : (keepU ss m j).length ≤ j := by
  rw [keepU, List.length_map]
  exact Nat.le_trans (List.length_filter_le _ _) (by simp)
theorem keepB_mem {ss : List Sign} {m : Nat} {s : Sign} (h : s ∈ keepB ss m) : s ∈ ss := by
  simp only [keepB, keepU, List.mem_map, List.mem_filter, List.mem_range] at h
  obtain ⟨i, ⟨hi, _⟩, rfl⟩ := h
  have : ss.getD i default = ss[i] := by simp [List.getD_eq_getElem?_getD, hi]
  rw [this]; exact List.getElem_mem _
theorem keep_all (ss : List Sign) (m : Nat) (p : Sign → Bool) : (keepB ss m).all p = true ↔ ∀ i, i < ss.length → m.testBit i = true → p (ss.getD i default) = true := by
  rw [List.all_eq_true]
  simp only [keepB, keepU, List.mem_map, List.mem_filter, List.mem_range]
  constructor
  · intro hall i hi hm; exact hall _ ⟨i, ⟨hi, hm⟩, rfl⟩
  · rintro hall s ⟨i, ⟨hi, hm⟩, rfl⟩; exact hall i hi hm
theorem possible_keep (h : House) (m : Nat) : possibleP (reS h (keepB h.signs m)) [] = true ↔ ∃ c ∈ allC h, ∀ i, i < h.signs.length → m.testBit i = true → sgn (lastOf h c []) (h.signs.getD i default) = true := by
  rw [possible_reS, List.any_eq_true]
  constructor
  · rintro ⟨c, hc, ha⟩; exact ⟨c, hc, (keep_all _ _ _).1 ha⟩
  · rintro ⟨c, hc, ha⟩; exact ⟨c, hc, (keep_all _ _ _).2 ha⟩
theorem possible_cut (h : House) (k : Nat) (hk : k ≤ h.signs.length) : possibleP (cut h k) [] = true ↔ ∃ c ∈ allC h, ∀ i, i < k → sgn (lastOf h c []) (h.signs.getD i default) = true := by
  rw [cut_reS, possible_reS, List.any_eq_true]
  have hl : (h.signs.take k).length = k := by simp; omega
  have key : ∀ c, (h.signs.take k).all (sgn (lastOf h c [])) = true ↔ ∀ i, i < k → sgn (lastOf h c []) (h.signs.getD i default) = true := by
    intro c
    rw [← range_all default, List.all_eq_true, hl]
    have e : ∀ i, i < k → (h.signs.take k).getD i default = h.signs.getD i default := fun i hi => by
      simp [List.getD_eq_getElem?_getD, List.getElem?_take, hi]
    constructor
    · intro hall i hi; rw [← e i hi]; exact hall i (List.mem_range.2 hi)
    · intro hall i hi; have hi := List.mem_range.1 hi; rw [e i hi]; exact hall i hi
  constructor
  · rintro ⟨c, hc, ha⟩; exact ⟨c, hc, (key c).1 ha⟩
  · rintro ⟨c, hc, ha⟩; exact ⟨c, hc, (key c).2 ha⟩
theorem keep_cut (h : House) (k : Nat) (hk : k ≤ h.signs.length) : possibleP (reS h (keepB h.signs (2 ^ k - 1))) [] = possibleP (cut h k) [] := by
  rw [Bool.eq_iff_iff, possible_keep, possible_cut _ _ hk]
  simp only [Nat.testBit_two_pow_sub_one, decide_eq_true_eq]
  constructor
  · rintro ⟨c, hc, ha⟩; exact ⟨c, hc, fun i hi => ha i (by omega) hi⟩
  · rintro ⟨c, hc, ha⟩; exact ⟨c, hc, fun i _ hi => ha i hi⟩
theorem check_keep {h : House} (hc : checkHouse h = 0) (m : Nat) : checkHouse (reS h (keepB h.signs m)) = 0 := by
  obtain ⟨h1, h2⟩ := signs_ok hc
  exact check_reS hc (Nat.le_trans (keepU_len _ _ _) h1) fun s hs => h2 s (keepB_mem hs)
theorem ask_keep {h : House} (hc : checkHouse h = 0) (m : Nat) : askErrH (reS h (keepB h.signs m)) true = if possibleP (reS h (keepB h.signs m)) [] = true then 0 else 11 := by
  rw [askErrH, if_pos (check_keep hc m), if_pos rfl]
  by_cases hp : possibleP (reS h (keepB h.signs m)) [] = true
  · rw [if_pos hp, if_neg ((possible_tru _).1 hp)]
  · rw [if_neg hp, if_pos]
    exact Classical.byContradiction fun hn => hp ((possible_tru _).2 hn)
theorem possible_none {h : House} (hv : HV h) : possibleP (cut h 0) [] = true := by
  obtain ⟨c, hc⟩ := allC_ne hv
  exact (possible_cut h 0 (by omega)).2 ⟨c, hc, fun i hi => by omega⟩
/-- What the first wrong sign says. -/
theorem first_some {h : House} (hv : HV h) {n : Nat} (hf : (List.range h.signs.length).find? (badAt h) = some n) : n < h.signs.length ∧ possibleP (cut h n) [] = true ∧ possibleP (cut h (n + 1)) [] = false := by
  rw [List.find?_range_eq_some] at hf
  obtain ⟨h1, h2, h3⟩ := hf
  have h2 := List.mem_range.1 h2
  refine ⟨h2, ?_, ?_⟩
  · cases n with
    | zero => exact possible_none hv
    | succ n =>
      have := h3 n (by omega)
      simpa [badAt] using this
  · simpa [badAt] using h1
theorem first_none {h : House} (hv : HV h) (hf : (List.range h.signs.length).find? (badAt h) = none) : possibleP h [] = true := by
  have hcut : possibleP (cut h h.signs.length) [] = possibleP h [] := by
    rw [cut_reS, List.take_length]; rfl
  rw [← hcut]
  rw [List.find?_range_eq_none] at hf
  cases hl : h.signs.length with
  | zero => exact possible_none hv
  | succ n =>
    have := hf n (by omega)
    simpa [badAt] using this
end Go.Lift

set_option linter.unusedSimpArgs false
set_option linter.unusedVariables false
namespace Go.Lift
open Go Go.Proofs
theorem ready_ok {h : House} (hr : readyH h = true) : HSm h ∧ checkHouse h = 0 := by
  rw [readyH, Bool.and_eq_true, decide_eq_true_eq] at hr
  exact ⟨thin_sm hr.1, hr.2⟩
end Go.Lift

set_option linter.unusedSimpArgs false
set_option linter.unusedVariables false
namespace Go.Lift
open Go Go.Proofs
theorem agg31 : isAggB Tryz.prog 31 = some true := by kernel_rfl
theorem sz31 : szB Tryz.prog 31 = some 9 := by kernel_rfl
theorem some_c (h : House) (m : Nat) (hm : m < 2 ^ 62) (h5 : h.signs.length ≤ 60) : Pure Tryz.prog 48 [eH h, i6 m] (eH (reS h (keepB h.signs m))) := by
  intro H
  refine fn_of hmix fc48 (by simp) ?_
  rw [ienv2]
  simp only [go_sem, reduceIte, reduceCtorEq, Nat.reduceEqDiff, Nat.reduceBEq, Nat.reduceAdd, Nat.reduceMul, Nat.reduceLeDiff, List.getElem?_cons_zero, List.getElem?_cons_succ, bne_self_eq_false, Int.reduceEq, ac48, eH]
  refine v_box _ rfl fun b1 hb1 => ?_
  have e1 := (Ext.refl H).new hb1 (.box [.slice (h.table.women.map eW), .slice (h.table.pieces.map eP), i6 h.table.wrong, .slice (eI h.sick), i6 h.others, i6 h.last, .slice (h.touches.map eTo), .slice (h.boiled.map eB), .slice (h.signs.map eS)])
  simp only [go_sem, reduceIte, reduceCtorEq, Nat.reduceEqDiff, Nat.reduceBEq, Nat.reduceAdd, Nat.reduceMul, Nat.reduceLeDiff, List.getElem?_cons_zero, List.getElem?_cons_succ, bne_self_eq_false, Int.reduceEq]
  refine v_alloc fun b2 hb2 => ?_
  have n12 : b1 ≠ b2 := fun h => by subst h; simp at hb2
  have z2 : H b2 = none := e1.isNone hb2
  have e2 := e1.new hb2 (.box [.emp, .emp, .int .i64 0, .emp, .int .i64 0, .int .i64 0, .emp, .emp, .emp])
  simp only [go_sem, reduceIte, reduceCtorEq, Nat.reduceEqDiff, Nat.reduceBEq, Nat.reduceAdd, Nat.reduceMul, Nat.reduceLeDiff, List.getElem?_cons_zero, List.getElem?_cons_succ, bne_self_eq_false, Int.reduceEq, updH_ne _ _ n12]
  refine v_alloc fun b3 hb3 => ?_
  have n13 : b1 ≠ b3 := fun h => by subst h; simp [updH, n12] at hb3
  have n23 : b2 ≠ b3 := fun h => by subst h; simp at hb3
  have z3 : H b3 = none := e2.isNone hb3
  simp only [go_sem, reduceIte, reduceCtorEq, Nat.reduceEqDiff, Nat.reduceBEq, Nat.reduceAdd, Nat.reduceMul, Nat.reduceLeDiff, List.getElem?_cons_zero, List.getElem?_cons_succ, bne_self_eq_false, Int.reduceEq, updH_ne _ _ n12, updH_ne _ _ n13]
  rw [v_store]
  refine ⟨rfl, rfl, by simp [AV.cells, AV.isCell], _, updH_same _ _ _, by simp, ?_⟩
  rw [c_agg, show placeAt [.emp, .emp, .int .i64 0, .emp, .int .i64 0, .int .i64 0, .emp, .emp, .emp] 0 [.slice (h.table.women.map eW), .slice (h.table.pieces.map eP), i6 h.table.wrong, .slice (eI h.sick), i6 h.others, i6 h.last, .slice (h.touches.map eTo), .slice (h.boiled.map eB), .slice (h.signs.map eS)] = [.slice (h.table.women.map eW), .slice (h.table.pieces.map eP), i6 h.table.wrong, .slice (eI h.sick), i6 h.others, i6 h.last, .slice (h.touches.map eTo), .slice (h.boiled.map eB), .slice (h.signs.map eS)] from rfl]
  simp only [go_sem, reduceIte, reduceCtorEq, Nat.reduceEqDiff, Nat.reduceBEq, Nat.reduceAdd, Nat.reduceMul, Nat.reduceLeDiff, List.getElem?_cons_zero, List.getElem?_cons_succ, bne_self_eq_false, Int.reduceEq]
  rw [v_store]
  refine ⟨rfl, rfl, by simp [AV.cells, AV.isCell], _, updH_same _ _ _, by simp, ?_⟩
  rw [show placeAt [.slice (h.table.women.map eW), .slice (h.table.pieces.map eP), i6 h.table.wrong, .slice (eI h.sick), i6 h.others, i6 h.last, .slice (h.touches.map eTo), .slice (h.boiled.map eB), .slice (h.signs.map eS)] (0 + 8) AV.emp.cells = [.slice (h.table.women.map eW), .slice (h.table.pieces.map eP), i6 h.table.wrong, .slice (eI h.sick), i6 h.others, i6 h.last, .slice (h.touches.map eTo), .slice (h.boiled.map eB), .emp] from rfl]
  simp only [go_sem, reduceIte, reduceCtorEq, Nat.reduceEqDiff, Nat.reduceBEq, Nat.reduceAdd, Nat.reduceMul, Nat.reduceLeDiff, List.getElem?_cons_zero, List.getElem?_cons_succ, bne_self_eq_false, Int.reduceEq]
  refine x_for h.signs.length (fun j env H1 => Ext H H1 ∧ H1 b1 = some (.box [.slice (h.table.women.map eW), .slice (h.table.pieces.map eP), i6 h.table.wrong, .slice (eI h.sick), i6 h.others, i6 h.last, .slice (h.touches.map eTo), .slice (h.boiled.map eB), .slice (h.signs.map eS)]) ∧ H1 b2 = some (.box [.emp, .emp, .int .i64 0, .emp, .int .i64 0, .int .i64 0, .emp, .emp, .emp]) ∧ (∃ v, H1 b3 = some (.box [.slice (h.table.women.map eW), .slice (h.table.pieces.map eP), i6 h.table.wrong, .slice (eI h.sick), i6 h.others, i6 h.last, .slice (h.touches.map eTo), .slice (h.boiled.map eB), v]) ∧ Grown 2 H H1 v ((keepU h.signs m j).map eS)) ∧ env 1 = i6 m ∧ env 2 = .ptr b1 0 ∧ env 4 = .ptr b2 0 ∧ env 5 = .ptr b3 0 ∧ env 6 = i6 j ∧ env 33 = .any)
    ⟨((e2.new hb3 _).upd z3 _).upd z3 _, by rw [updH_ne _ _ n13, updH_ne _ _ n13, updH_ne _ _ n13, updH_ne _ _ n12]; exact updH_same _ _ _, by rw [updH_ne _ _ n23, updH_ne _ _ n23, updH_ne _ _ n23]; exact updH_same _ _ _, ⟨.emp, updH_same _ _ _, .inl ⟨rfl, rfl⟩⟩, by simp [upd_at], by simp [upd_at], by simp [upd_at], by simp [upd_at], by simp [upd_at], by simp [upd_at]⟩ ?_
  rintro j env H1 hj ⟨hE, hB1, hB2, ⟨v1, hB3, hG⟩, g1, g2, g4, g5, g6, hN⟩
  have hu := u64w (show j < 2 ^ 62 by omega)
  have hs := shr_nat (a := m) (show j ≤ 64 by omega)
  have hkl := keepU_len h.signs m j
  by_cases hlt : (j : Int) < (h.signs.length : Int)
  · have hlt' : j < h.signs.length := by omega
    have hmod : (((m / 2 ^ j : Nat) : Int)).tmod 2 = ((m / 2 ^ j % 2 : Nat) : Int) := (Int.ofNat_tmod (m / 2 ^ j) 2).symm
    have hbit : m.testBit j = decide (m / 2 ^ j % 2 = 1) := Nat.testBit_eq_decide_div_mod_eq
    have hgl : h.signs.getD j default = h.signs[j] := by simp [List.getD_eq_getElem?_getD, hlt']
    by_cases hb : m / 2 ^ j % 2 = 1
    · have hb' : ((m / 2 ^ j % 2 : Nat) : Int) = 1 := by omega
      simp only [↓aops_nil, ↓aops_go, ↓aops_go0, ↓aops_if, ↓k_cont, ↓k_cont0, g_tt, g_ff, g_tf, g_ft, g_u, ↓apre_nil, ↓apre_if, ↓apre_go, pgo_det, Tag.isCall, popt_some, gp_tt, gp_ff, gp_tf, gp_ft, gp_u, ↓k_draw, opt_some, List.map_cons, List.map_nil, ev, upd_at, ↓x_skip, ↓x_label, ↓x_ret, ↓x_exit, ↓x_seq, ↓x_block, ↓x_ops, ↓x_cond, x_sel_t, x_sel_f, ↓x_draw, ↓q_kseq_n, ↓q_kseq_r, ↓q_kseq_e, ↓q_block_n, ↓q_block_r, ↓q_block_e, ↓q_loop_n, ↓q_loop_r, ↓q_loop_e, ↓l_done, d_mov, d_pick, d_not, d_nilchk, d_nilchk', d_conv, d_add, d_sub, d_mul, d_quo, d_rem, d_shl, d_shr, d_and, d_or, d_andnot, d_eql, d_neq, d_lss, d_leq, d_gtr, d_geq, d_eqb, d_neqb, d_mkfunc, d_load, d_fieldaddr, d_fieldaddr', d_field_t, d_field_f, d_idxaddr, d_idxaddr_g, elemO_some, d_idxaddr_m, d_arraddr, d_arraddr', d_idx_f, d_sub_s, d_sub_g, d_arrsub, d_arrall, d_extract, d_len, d_len_g, d_len_e, d_len_m, d_min, d_build, d_bslice0, d_bs1, d_bs2, d_bsa, d_eqagg, v_mov, v_pick, v_not, v_nilchk, v_conv, v_bin, v_binb, v_eqagg, v_mkfunc, v_load, v_fieldaddr, v_field, v_idxaddr, v_arraddr, v_idx, v_sub, v_arrsub, v_arrall, v_extract, v_len, v_min, v_build, v_bslice, v_lookup, v_call, v_callv, Nat.reduceEqDiff, Nat.reduceBEq, reduceIte, ite_true, ite_false, Bool.false_eq_true, Bool.true_eq_false, if_true, if_false, decide_eq_true_eq, decide_eq_false_iff_not, decide_true, decide_false, Nat.zero_add, Nat.add_zero, Nat.reduceAdd, reduceCtorEq, eq_self, not_true_eq_false, not_false_eq_true, Bool.not_true, Bool.not_false, Nat.reduceMul, List.length_cons, List.length_nil, at_elem, take_f, take_tt, Int.toNat_natCast, Option.some.injEq, Option.bind_some, Int.natCast_nonneg, true_and, and_true, and_self, ↓q_for_n, ↓q_for_r, ↓q_for_e, eI_len, List.length_map, at_obj, obj_box, updH_same, Nat.reduceLeDiff, Nat.zero_le, Nat.le_refl, List.drop_zero, List.drop_succ_cons, List.take_succ_cons, List.take_zero, c_agg, c_int, c_bool, c_slice, c_emp, c_grow, ↓l_one0, ↓l_one1, ↓k_l0, ↓k_l1, stab_nil, stab_cons, stab_if, st_tt, st_ff, st_tf, st_ft, st_u, List.getElem?_cons_zero, List.getElem?_cons_succ, bne_self_eq_false, Int.reduceEq, g1, g2, g4, g5, g6, hN, hB1, hB3, hu, hs, hlt, hmod, hb', take_f', map_get (f := eS) hlt', eS, show ¬ ((j : Int) < 0) by omega, show ¬ ((2 : Int) = 0) by omega, d_bsa]
      refine v_append hG hE rfl (eS_good _) (eS_good [h.signs[j]]) (eS_cell [h.signs[j]]) (by simp; omega) (by simp; omega) ?_
      intro v' H2 hg' he' hk'
      have K1 := hk'.box hG hB1
      have K2 := hk'.box hG hB2
      have K3 := hk'.box hG hB3
      simp only [go_sem, reduceIte, reduceCtorEq, Nat.reduceEqDiff, Nat.reduceBEq, Nat.reduceAdd, Nat.reduceMul, Nat.reduceLeDiff, List.getElem?_cons_zero, List.getElem?_cons_succ, bne_self_eq_false, Int.reduceEq, g1, g2, g4, g5, g6, hN]
      rw [v_store]
      refine ⟨hg'.cellv.1, by rw [hg'.cellv.2.1]; rfl, by rw [hg'.cellv.2.1]; intro y hy; simp at hy; subst hy; exact hg'.cellv.2.2, _, K3, by simp, ?_⟩
      rw [hg'.cellv.2.1, show placeAt [.slice (h.table.women.map eW), .slice (h.table.pieces.map eP), i6 h.table.wrong, .slice (eI h.sick), i6 h.others, i6 h.last, .slice (h.touches.map eTo), .slice (h.boiled.map eB), v1] (0 + 8) [v'] = [.slice (h.table.women.map eW), .slice (h.table.pieces.map eP), i6 h.table.wrong, .slice (eI h.sick), i6 h.others, i6 h.last, .slice (h.touches.map eTo), .slice (h.boiled.map eB), v'] from rfl]
      simp only [go_sem, reduceIte, reduceCtorEq, Nat.reduceEqDiff, Nat.reduceBEq, Nat.reduceAdd, Nat.reduceMul, Nat.reduceLeDiff, List.getElem?_cons_zero, List.getElem?_cons_succ, bne_self_eq_false, Int.reduceEq, g1, g2, g4, g5, g6, hN, wsucc (show j < 4611686018427387904 by omega), hlt', updH_ne _ _ n13, updH_ne _ _ n23, K1, K2]
      refine ⟨he'.upd z3 _, v', rfl, ?_⟩
      rw [keepU_succ, hbit, if_pos (by simp [hb]), List.map_append, hgl]; exact hg'.store K3 _
    · have hb' : ¬ ((m / 2 ^ j % 2 : Nat) : Int) = 1 := by omega
      simp only [↓aops_nil, ↓aops_go, ↓aops_go0, ↓aops_if, ↓k_cont, ↓k_cont0, g_tt, g_ff, g_tf, g_ft, g_u, ↓apre_nil, ↓apre_if, ↓apre_go, pgo_det, Tag.isCall, popt_some, gp_tt, gp_ff, gp_tf, gp_ft, gp_u, ↓k_draw, opt_some, List.map_cons, List.map_nil, ev, upd_at, ↓x_skip, ↓x_label, ↓x_ret, ↓x_exit, ↓x_seq, ↓x_block, ↓x_ops, ↓x_cond, x_sel_t, x_sel_f, ↓x_draw, ↓q_kseq_n, ↓q_kseq_r, ↓q_kseq_e, ↓q_block_n, ↓q_block_r, ↓q_block_e, ↓q_loop_n, ↓q_loop_r, ↓q_loop_e, ↓l_done, d_mov, d_pick, d_not, d_nilchk, d_nilchk', d_conv, d_add, d_sub, d_mul, d_quo, d_rem, d_shl, d_shr, d_and, d_or, d_andnot, d_eql, d_neq, d_lss, d_leq, d_gtr, d_geq, d_eqb, d_neqb, d_mkfunc, d_load, d_fieldaddr, d_fieldaddr', d_field_t, d_field_f, d_idxaddr, d_idxaddr_g, elemO_some, d_idxaddr_m, d_arraddr, d_arraddr', d_idx_f, d_sub_s, d_sub_g, d_arrsub, d_arrall, d_extract, d_len, d_len_g, d_len_e, d_len_m, d_min, d_build, d_bslice0, d_bs1, d_bs2, d_bsa, d_eqagg, v_mov, v_pick, v_not, v_nilchk, v_conv, v_bin, v_binb, v_eqagg, v_mkfunc, v_load, v_fieldaddr, v_field, v_idxaddr, v_arraddr, v_idx, v_sub, v_arrsub, v_arrall, v_extract, v_len, v_min, v_build, v_bslice, v_lookup, v_call, v_callv, Nat.reduceEqDiff, Nat.reduceBEq, reduceIte, ite_true, ite_false, Bool.false_eq_true, Bool.true_eq_false, if_true, if_false, decide_eq_true_eq, decide_eq_false_iff_not, decide_true, decide_false, Nat.zero_add, Nat.add_zero, Nat.reduceAdd, reduceCtorEq, eq_self, not_true_eq_false, not_false_eq_true, Bool.not_true, Bool.not_false, Nat.reduceMul, List.length_cons, List.length_nil, at_elem, take_f, take_tt, Int.toNat_natCast, Option.some.injEq, Option.bind_some, Int.natCast_nonneg, true_and, and_true, and_self, ↓q_for_n, ↓q_for_r, ↓q_for_e, eI_len, List.length_map, at_obj, obj_box, updH_same, Nat.reduceLeDiff, Nat.zero_le, Nat.le_refl, List.drop_zero, List.drop_succ_cons, List.take_succ_cons, List.take_zero, c_agg, c_int, c_bool, c_slice, c_emp, c_grow, ↓l_one0, ↓l_one1, ↓k_l0, ↓k_l1, stab_nil, stab_cons, stab_if, st_tt, st_ff, st_tf, st_ft, st_u, List.getElem?_cons_zero, List.getElem?_cons_succ, bne_self_eq_false, Int.reduceEq, g1, g2, g4, g5, g6, hN, hB1, hB2, hB3, hu, hs, hlt, hmod, hb', show ¬ ((j : Int) < 0) by omega, show ¬ ((2 : Int) = 0) by omega, wsucc (show j < 4611686018427387904 by omega), hlt']
      refine ⟨hE, v1, rfl, ?_⟩
      rw [keepU_succ, hbit, if_neg (by simp [hb]), List.append_nil]; exact hG
  · have : j = h.signs.length := by omega
    subst this
    simp only [go_sem, reduceIte, reduceCtorEq, Nat.reduceEqDiff, Nat.reduceBEq, Nat.reduceAdd, Nat.reduceMul, Nat.reduceLeDiff, List.getElem?_cons_zero, List.getElem?_cons_succ, bne_self_eq_false, Int.reduceEq, g1, g2, g4, g5, g6, hN, hlt, hB1, hB3, take_f']
    rw [v_store]
    refine ⟨rfl, rfl, by
      intro y hy
      simp only [AV.cells, List.mem_cons, List.not_mem_nil, or_false] at hy
      rcases hy with rfl | rfl | rfl | rfl | rfl | rfl | rfl | rfl | rfl
      · rfl
      · rfl
      · rfl
      · rfl
      · rfl
      · rfl
      · rfl
      · rfl
      · exact hG.cellv.2.2, _, hB2, by simp, ?_⟩
    rw [c_agg, show placeAt [.emp, .emp, .int .i64 0, .emp, .int .i64 0, .int .i64 0, .emp, .emp, .emp] 0 [.slice (h.table.women.map eW), .slice (h.table.pieces.map eP), i6 h.table.wrong, .slice (eI h.sick), i6 h.others, i6 h.last, .slice (h.touches.map eTo), .slice (h.boiled.map eB), v1] = [.slice (h.table.women.map eW), .slice (h.table.pieces.map eP), i6 h.table.wrong, .slice (eI h.sick), i6 h.others, i6 h.last, .slice (h.touches.map eTo), .slice (h.boiled.map eB), v1] from rfl]
    simp only [go_sem, reduceIte, reduceCtorEq, Nat.reduceEqDiff, Nat.reduceBEq, Nat.reduceAdd, Nat.reduceMul, Nat.reduceLeDiff, List.getElem?_cons_zero, List.getElem?_cons_succ, bne_self_eq_false, Int.reduceEq, g1, g2, g4, g5, g6, hN]
    have eF := hE.upd z2 (.box [.slice (h.table.women.map eW), .slice (h.table.pieces.map eP), i6 h.table.wrong, .slice (eI h.sick), i6 h.others, i6 h.last, .slice (h.touches.map eTo), .slice (h.boiled.map eB), v1])
    have gF := hG.store hB2 (.box [.slice (h.table.women.map eW), .slice (h.table.pieces.map eP), i6 h.table.wrong, .slice (eI h.sick), i6 h.others, i6 h.last, .slice (h.touches.map eTo), .slice (h.boiled.map eB), v1])
    refine fin_cell1 4 9 b2 31 _ (by simp [upd_at, hN]) agg31 sz31 (by simp [upd_at, g4]) (updH_same _ _ _) rfl ⟨eH (reS h (keepB h.signs m)), H, settle_agg eF rfl fun i x y hx hy w v hH hr => ?_, rfl, rfl⟩
    match i, hx, hy with
    | 0, hx, hy => cases hx; cases hy; exact hr.mono (Evolve.drop eF)
    | 1, hx, hy => cases hx; cases hy; exact hr.mono (Evolve.drop eF)
    | 2, hx, hy => cases hx; cases hy; exact hr.mono (Evolve.drop eF)
    | 3, hx, hy => cases hx; cases hy; exact hr.mono (Evolve.drop eF)
    | 4, hx, hy => cases hx; cases hy; exact hr.mono (Evolve.drop eF)
    | 5, hx, hy => cases hx; cases hy; exact hr.mono (Evolve.drop eF)
    | 6, hx, hy => cases hx; cases hy; exact hr.mono (Evolve.drop eF)
    | 7, hx, hy => cases hx; cases hy; exact hr.mono (Evolve.drop eF)
    | 8, hx, hy => cases hx; cases hy; exact (gF.weaken eF).2 w v hH hr
theorem HSm.signs' {h : House} (hs : HSm h) {ss : List Sign} (hl : ss.length ≤ 1073741824) : HSm (reS h ss) :=
  ⟨hs.women, hs.pieces, hs.marks, hs.sick, hs.touches, hs.boiled, hl⟩
theorem first_law (h : House) : Pure Tryz.prog 10 [eH h] (.bool true) := by
  intro H
  refine fn_of hmix fc10 (by simp) ?_
  rw [ienv1]
  simp only [go_sem, reduceIte, reduceCtorEq, Nat.reduceEqDiff, Nat.reduceBEq, Nat.reduceAdd, Nat.reduceMul, Nat.reduceLeDiff, List.getElem?_cons_zero, List.getElem?_cons_succ, bne_self_eq_false, Int.reduceEq, ac10, eH]
  refine v_box _ rfl fun b1 hb1 => ?_
  have e1 := (Ext.refl H).new hb1 (.box [.slice (h.table.women.map eW), .slice (h.table.pieces.map eP), i6 h.table.wrong, .slice (eI h.sick), i6 h.others, i6 h.last, .slice (h.touches.map eTo), .slice (h.boiled.map eB), .slice (h.signs.map eS)])
  simp only [go_sem, reduceIte, reduceCtorEq, Nat.reduceEqDiff, Nat.reduceBEq, Nat.reduceAdd, Nat.reduceMul, Nat.reduceLeDiff, List.getElem?_cons_zero, List.getElem?_cons_succ, bne_self_eq_false, Int.reduceEq]
  refine (ready_c h).go ?_
  cases c1 : readyH h
  · simp only [go_sem, reduceIte, reduceCtorEq, Nat.reduceEqDiff, Nat.reduceBEq, Nat.reduceAdd, Nat.reduceMul, Nat.reduceLeDiff, List.getElem?_cons_zero, List.getElem?_cons_succ, bne_self_eq_false, Int.reduceEq]
    refine awake_c.go ?_
    simp only [go_sem, reduceIte, reduceCtorEq, Nat.reduceEqDiff, Nat.reduceBEq, Nat.reduceAdd, Nat.reduceMul, Nat.reduceLeDiff, List.getElem?_cons_zero, List.getElem?_cons_succ, bne_self_eq_false, Int.reduceEq]
    exact fin_ret 2 (by simp [upd_at]) ⟨_, H, Settle.refl e1, by simp [upd_at], rfl⟩
  obtain ⟨hm, hc⟩ := ready_ok c1
  have hv := hv_of hm.tsm hm.sk hc
  have h5 := hv.ok.signs
  have hkm : ∀ m, HSm (reS h (keepB h.signs m)) := fun m => hm.signs' (by have := keepU_len h.signs m h.signs.length; unfold keepB; omega)
  simp only [go_sem, reduceIte, reduceCtorEq, Nat.reduceEqDiff, Nat.reduceBEq, Nat.reduceAdd, Nat.reduceMul, Nat.reduceLeDiff, List.getElem?_cons_zero, List.getElem?_cons_succ, bne_self_eq_false, Int.reduceEq]
  refine (house_c h hm).go ?_
  simp only [go_sem, reduceIte, reduceCtorEq, Nat.reduceEqDiff, Nat.reduceBEq, Nat.reduceAdd, Nat.reduceMul, Nat.reduceLeDiff, List.getElem?_cons_zero, List.getElem?_cons_succ, bne_self_eq_false, Int.reduceEq]
  refine (first_c h hm.tsm hm.sk).go ?_
  cases c3 : (List.range h.signs.length).find? (badAt h) with
  | none =>
    have hp := first_none hv c3
    have ha : askErrH h true = 0 := ask_zero hc ((possible_tru h).1 hp)
    simp only [go_sem, reduceIte, reduceCtorEq, Nat.reduceEqDiff, Nat.reduceBEq, Nat.reduceAdd, Nat.reduceMul, Nat.reduceLeDiff, List.getElem?_cons_zero, List.getElem?_cons_succ, bne_self_eq_false, Int.reduceEq, firstR, hc, c3, show ¬ (7 : Int) = 0 by omega]
    refine (house_c h hm).go ?_
    simp only [go_sem, reduceIte, reduceCtorEq, Nat.reduceEqDiff, Nat.reduceBEq, Nat.reduceAdd, Nat.reduceMul, Nat.reduceLeDiff, List.getElem?_cons_zero, List.getElem?_cons_succ, bne_self_eq_false, Int.reduceEq]
    refine (carry_c h hm.tsm hm.sk).go ?_
    simp only [go_sem, reduceIte, reduceCtorEq, Nat.reduceEqDiff, Nat.reduceBEq, Nat.reduceAdd, Nat.reduceMul, Nat.reduceLeDiff, List.getElem?_cons_zero, List.getElem?_cons_succ, bne_self_eq_false, Int.reduceEq, listR, ha]
    refine awake_c.go ?_
    simp only [go_sem, reduceIte, reduceCtorEq, Nat.reduceEqDiff, Nat.reduceBEq, Nat.reduceAdd, Nat.reduceMul, Nat.reduceLeDiff, List.getElem?_cons_zero, List.getElem?_cons_succ, bne_self_eq_false, Int.reduceEq]
    exact fin_ret 2 (by simp [upd_at]) ⟨_, H, Settle.refl e1, by simp [upd_at], rfl⟩
  | some n =>
    obtain ⟨p1, p2, p3⟩ := first_some hv c3
    have a1 : askErrH (reS h (keepB h.signs (2 ^ n - 1))) true = 0 := by rw [ask_keep hc, keep_cut h n (by omega), p2]; rfl
    have a2 : askErrH (reS h (keepB h.signs (2 ^ (n + 1) - 1))) true = 11 := by rw [ask_keep hc, keep_cut h (n + 1) (by omega), p3]; rfl
    have q1 := two_lt (show n < 62 by omega)
    have q2 := two_lt (show n + 1 < 62 by omega)
    have hin : (0 : Int) ≤ (n : Int) ∧ (n : Int) ≤ IntKind.i64.wrap ((h.signs.length : Int) - 1) := by rw [w64 (by omega) (by omega)]; omega
    simp only [go_sem, reduceIte, reduceCtorEq, Nat.reduceEqDiff, Nat.reduceBEq, Nat.reduceAdd, Nat.reduceMul, Nat.reduceLeDiff, List.getElem?_cons_zero, List.getElem?_cons_succ, bne_self_eq_false, Int.reduceEq, firstR, hc, c3, take_f']
    refine (in_c _ _ _).go ?_
    simp only [↓aops_nil, ↓aops_go, ↓aops_go0, ↓aops_if, ↓k_cont, ↓k_cont0, g_tt, g_ff, g_tf, g_ft, g_u, ↓apre_nil, ↓apre_if, ↓apre_go, pgo_det, Tag.isCall, popt_some, gp_tt, gp_ff, gp_tf, gp_ft, gp_u, ↓k_draw, opt_some, List.map_cons, List.map_nil, ev, upd_at, ↓x_skip, ↓x_label, ↓x_ret, ↓x_exit, ↓x_seq, ↓x_block, ↓x_ops, ↓x_cond, x_sel_t, x_sel_f, ↓x_draw, ↓q_kseq_n, ↓q_kseq_r, ↓q_kseq_e, ↓q_block_n, ↓q_block_r, ↓q_block_e, ↓q_loop_n, ↓q_loop_r, ↓q_loop_e, ↓l_done, d_mov, d_pick, d_not, d_nilchk, d_nilchk', d_conv, d_add, d_sub, d_mul, d_quo, d_rem, d_shl, d_shr, d_and, d_or, d_andnot, d_eql, d_neq, d_lss, d_leq, d_gtr, d_geq, d_eqb, d_neqb, d_mkfunc, d_load, d_fieldaddr, d_fieldaddr', d_field_t, d_field_f, d_idxaddr, d_idxaddr_g, elemO_some, d_idxaddr_m, d_arraddr, d_arraddr', d_idx_f, d_sub_s, d_sub_g, d_arrsub, d_arrall, d_extract, d_len, d_len_g, d_len_e, d_len_m, d_min, d_build, d_bslice0, d_bs1, d_bs2, d_bsa, d_eqagg, v_mov, v_pick, v_not, v_nilchk, v_conv, v_bin, v_binb, v_eqagg, v_mkfunc, v_load, v_fieldaddr, v_field, v_idxaddr, v_arraddr, v_idx, v_sub, v_arrsub, v_arrall, v_extract, v_len, v_min, v_build, v_bslice, v_lookup, v_call, v_callv, Nat.reduceEqDiff, Nat.reduceBEq, reduceIte, ite_true, ite_false, Bool.false_eq_true, Bool.true_eq_false, if_true, if_false, decide_eq_true_eq, decide_eq_false_iff_not, decide_true, decide_false, Nat.zero_add, Nat.add_zero, Nat.reduceAdd, reduceCtorEq, eq_self, not_true_eq_false, not_false_eq_true, Bool.not_true, Bool.not_false, Nat.reduceMul, List.length_cons, List.length_nil, at_elem, take_f, take_tt, Int.toNat_natCast, Option.some.injEq, Option.bind_some, Int.natCast_nonneg, true_and, and_true, and_self, ↓q_for_n, ↓q_for_r, ↓q_for_e, eI_len, List.length_map, at_obj, obj_box, updH_same, Nat.reduceLeDiff, Nat.zero_le, Nat.le_refl, List.drop_zero, List.drop_succ_cons, List.take_succ_cons, List.take_zero, c_agg, c_int, c_bool, c_slice, c_emp, c_grow, ↓l_one0, ↓l_one1, ↓k_l0, ↓k_l1, stab_nil, stab_cons, stab_if, st_tt, st_ff, st_tf, st_ft, st_u, List.getElem?_cons_zero, List.getElem?_cons_succ, bne_self_eq_false, Int.reduceEq, hin, u64w (show n < 2 ^ 62 by omega), w_shl1 (show n < 62 by omega), w_shl2 (show n < 60 by omega), show ¬ ((n : Int) < 0) by omega, pred_pow (show n < 62 by omega)]
    refine (some_c h (2 ^ n - 1) (by omega) (by omega)).go ?_
    simp only [go_sem, reduceIte, reduceCtorEq, Nat.reduceEqDiff, Nat.reduceBEq, Nat.reduceAdd, Nat.reduceMul, Nat.reduceLeDiff, List.getElem?_cons_zero, List.getElem?_cons_succ, bne_self_eq_false, Int.reduceEq]
    refine (house_c _ (hkm _)).go ?_
    simp only [go_sem, reduceIte, reduceCtorEq, Nat.reduceEqDiff, Nat.reduceBEq, Nat.reduceAdd, Nat.reduceMul, Nat.reduceLeDiff, List.getElem?_cons_zero, List.getElem?_cons_succ, bne_self_eq_false, Int.reduceEq]
    refine (carry_c _ (hkm _).tsm (hkm _).sk).go ?_
    simp only [↓aops_nil, ↓aops_go, ↓aops_go0, ↓aops_if, ↓k_cont, ↓k_cont0, g_tt, g_ff, g_tf, g_ft, g_u, ↓apre_nil, ↓apre_if, ↓apre_go, pgo_det, Tag.isCall, popt_some, gp_tt, gp_ff, gp_tf, gp_ft, gp_u, ↓k_draw, opt_some, List.map_cons, List.map_nil, ev, upd_at, ↓x_skip, ↓x_label, ↓x_ret, ↓x_exit, ↓x_seq, ↓x_block, ↓x_ops, ↓x_cond, x_sel_t, x_sel_f, ↓x_draw, ↓q_kseq_n, ↓q_kseq_r, ↓q_kseq_e, ↓q_block_n, ↓q_block_r, ↓q_block_e, ↓q_loop_n, ↓q_loop_r, ↓q_loop_e, ↓l_done, d_mov, d_pick, d_not, d_nilchk, d_nilchk', d_conv, d_add, d_sub, d_mul, d_quo, d_rem, d_shl, d_shr, d_and, d_or, d_andnot, d_eql, d_neq, d_lss, d_leq, d_gtr, d_geq, d_eqb, d_neqb, d_mkfunc, d_load, d_fieldaddr, d_fieldaddr', d_field_t, d_field_f, d_idxaddr, d_idxaddr_g, elemO_some, d_idxaddr_m, d_arraddr, d_arraddr', d_idx_f, d_sub_s, d_sub_g, d_arrsub, d_arrall, d_extract, d_len, d_len_g, d_len_e, d_len_m, d_min, d_build, d_bslice0, d_bs1, d_bs2, d_bsa, d_eqagg, v_mov, v_pick, v_not, v_nilchk, v_conv, v_bin, v_binb, v_eqagg, v_mkfunc, v_load, v_fieldaddr, v_field, v_idxaddr, v_arraddr, v_idx, v_sub, v_arrsub, v_arrall, v_extract, v_len, v_min, v_build, v_bslice, v_lookup, v_call, v_callv, Nat.reduceEqDiff, Nat.reduceBEq, reduceIte, ite_true, ite_false, Bool.false_eq_true, Bool.true_eq_false, if_true, if_false, decide_eq_true_eq, decide_eq_false_iff_not, decide_true, decide_false, Nat.zero_add, Nat.add_zero, Nat.reduceAdd, reduceCtorEq, eq_self, not_true_eq_false, not_false_eq_true, Bool.not_true, Bool.not_false, Nat.reduceMul, List.length_cons, List.length_nil, at_elem, take_f, take_tt, Int.toNat_natCast, Option.some.injEq, Option.bind_some, Int.natCast_nonneg, true_and, and_true, and_self, ↓q_for_n, ↓q_for_r, ↓q_for_e, eI_len, List.length_map, at_obj, obj_box, updH_same, Nat.reduceLeDiff, Nat.zero_le, Nat.le_refl, List.drop_zero, List.drop_succ_cons, List.take_succ_cons, List.take_zero, c_agg, c_int, c_bool, c_slice, c_emp, c_grow, ↓l_one0, ↓l_one1, ↓k_l0, ↓k_l1, stab_nil, stab_cons, stab_if, st_tt, st_ff, st_tf, st_ft, st_u, List.getElem?_cons_zero, List.getElem?_cons_succ, bne_self_eq_false, Int.reduceEq, listR, a1, u64w (show n < 2 ^ 62 by omega), w_shl1 (show n < 62 by omega), w_shl2 (show n < 60 by omega), show ¬ ((n : Int) < 0) by omega, pred_pow (show n + 1 < 62 by omega)]
    refine (some_c h (2 ^ (n + 1) - 1) (by omega) (by omega)).go ?_
    simp only [go_sem, reduceIte, reduceCtorEq, Nat.reduceEqDiff, Nat.reduceBEq, Nat.reduceAdd, Nat.reduceMul, Nat.reduceLeDiff, List.getElem?_cons_zero, List.getElem?_cons_succ, bne_self_eq_false, Int.reduceEq]
    refine (house_c _ (hkm _)).go ?_
    simp only [go_sem, reduceIte, reduceCtorEq, Nat.reduceEqDiff, Nat.reduceBEq, Nat.reduceAdd, Nat.reduceMul, Nat.reduceLeDiff, List.getElem?_cons_zero, List.getElem?_cons_succ, bne_self_eq_false, Int.reduceEq]
    refine (carry_c _ (hkm _).tsm (hkm _).sk).go ?_
    simp only [go_sem, reduceIte, reduceCtorEq, Nat.reduceEqDiff, Nat.reduceBEq, Nat.reduceAdd, Nat.reduceMul, Nat.reduceLeDiff, List.getElem?_cons_zero, List.getElem?_cons_succ, bne_self_eq_false, Int.reduceEq, listR, a2, show ¬ (11 : Int) = 0 by omega]
    refine awake_c.go ?_
    simp only [go_sem, reduceIte, reduceCtorEq, Nat.reduceEqDiff, Nat.reduceBEq, Nat.reduceAdd, Nat.reduceMul, Nat.reduceLeDiff, List.getElem?_cons_zero, List.getElem?_cons_succ, bne_self_eq_false, Int.reduceEq]
    exact fin_ret 2 (by simp [upd_at]) ⟨_, H, Settle.refl e1, by simp [upd_at], rfl⟩
end Go.Lift

