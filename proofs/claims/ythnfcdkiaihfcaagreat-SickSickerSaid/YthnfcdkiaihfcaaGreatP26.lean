/- Part 26 of the proof: the tools and contracts. Conditions: none. -/
import Derived.Test.YthnfcdkiaihfcaaGreatP25
import Derived.Test.YthnfcdkiaihfcaaGreatProg
set_option maxRecDepth 100000
set_option linter.unusedVariables false
namespace Go.Lift
open Go Go.Proofs
def cert9 : Nat → Option Cert := fun
  | 4 => some ⟨[0, 1], (.alt (.one 2 (.one 3 (.one 4 (.one 5 .done)))) (.one 3 (.one 2 (.one 4 (.one 5 .done))))), [[], [], [], [], [0, 2, 3], [0, 1, 2, 3, 4]]⟩
  | 18 => some ⟨[0, 1, 2, 3, 4, 5, 6, 7, 8, 9, 10, 11, 12, 13, 14, 15, 16, 17, 18, 19, 20, 21, 22, 23, 24, 25, 26, 27, 28, 29, 30, 31, 32, 33], .done, [[], [], [0, 1], [0, 1, 2], [0, 1, 2, 3], [0, 1, 2, 3, 4], [0, 1, 2, 3, 4, 5], [0, 1, 2, 3, 4, 5], [0, 1, 2, 3, 4, 5, 6, 7], [0, 1, 2, 3, 4, 5, 6, 7, 8], [0, 1, 2, 3, 4, 5], [0, 1, 2, 3, 4, 5], [0, 1, 2, 3, 4, 5, 10, 11], [0, 1, 2, 3, 4, 5, 10, 11, 12], [0, 1, 2, 3, 4, 5, 6, 7, 8, 9, 10, 11, 12, 13], [0, 1, 2, 3, 4, 5, 6, 7, 8, 9, 10, 11, 12, 13, 14], [0, 1, 2, 3, 4, 5, 6, 7, 8, 9, 10, 11, 12, 13, 14, 15], [0, 1, 2, 3, 4, 5, 6, 7, 8, 9, 10, 11, 12, 13, 14, 15, 16], [0, 1, 2, 3, 4, 5, 6, 7, 8, 9, 10, 11, 12, 13, 14, 15, 16], [0, 1, 2, 3, 4, 5, 6, 7, 8, 9, 10, 11, 12, 13, 14, 15, 16, 17, 18], [0, 1, 2, 3, 4, 5, 6, 7, 8, 9, 10, 11, 12, 13, 14, 15, 16, 17, 18, 19], [0, 1, 2, 3, 4, 5, 6, 7, 8, 9, 10, 11, 12, 13, 14, 15, 16, 17, 18, 19, 20], [0, 1, 2, 3, 4, 5, 6, 7, 8, 9, 10, 11, 12, 13, 14, 15, 16, 17, 18, 19, 20, 21], [0, 1, 2, 3, 4, 5, 6, 7, 8, 9, 10, 11, 12, 13, 14, 15, 16, 17, 18, 19, 20, 21, 22], [0, 1, 2, 3, 4, 5, 6, 7, 8, 9, 10, 11, 12, 13, 14, 15, 16, 17, 18, 19, 20, 21, 22], [0, 1, 2, 3, 4, 5, 6, 7, 8, 9, 10, 11, 12, 13, 14, 15, 16, 17, 18, 19, 20, 21, 22, 23, 24], [0, 1, 2, 3, 4, 5, 6, 7, 8, 9, 10, 11, 12, 13, 14, 15, 16, 17, 18, 19, 20, 21, 22, 23, 24, 25], [0, 1, 2, 3, 4, 5, 6, 7, 8, 9, 10, 11, 12, 13, 14, 15, 16, 17, 18, 19, 20, 21, 22], [0, 1, 2, 3, 4, 5, 6, 7, 8, 9, 10, 11, 12, 13, 14, 15, 16, 17, 18, 19, 20, 21, 22], [0, 1, 2, 3, 4, 5, 6, 7, 8, 9, 10, 11, 12, 13, 14, 15, 16, 17, 18, 19, 20, 21, 22, 27, 28], [0, 1, 2, 3, 4, 5, 6, 7, 8, 9, 10, 11, 12, 13, 14, 15, 16, 17, 18, 19, 20, 21, 22, 27, 28, 29], [0, 1, 2, 3, 4, 5, 6, 7, 8, 9, 10, 11, 12, 13, 14, 15, 16, 17, 18, 19, 20, 21, 22, 23, 24, 25, 26, 27, 28, 29, 30], [0, 1, 2, 3, 4, 5, 6, 7, 8, 9, 10, 11, 12, 13, 14, 15, 16, 17, 18, 19, 20, 21, 22, 23, 24, 25, 26, 27, 28, 29, 30, 31], [0, 1, 2, 3, 4, 5, 6, 7, 8, 9, 10, 11, 12, 13, 14, 15, 16, 17, 18, 19, 20, 21, 22, 23, 24, 25, 26, 27, 28, 29, 30, 31, 32]]⟩
  | _ => none
def ac9 : ACode :=(.seq (.ops [uO 2 .box 0, oA 4 .mov [kF]]) (.seq (.seq (.ops [uO 14 lT9 2, uO 15 (.call 35) 14, uO 16 .not 15, uM 17 16, gO 18 fA0 2 17 false, gO 19 fA0 18 17 false, gO 20 lF 19 17 false, gO 21 .len 20 17 false, oG 22 bE [.t 21, (kI 0)] 17 false, oA 23 .pick [.t 17, kT, .t 22]]) (.cond (.t 23) (.seq (.ops [oA 24 (.call 20) [], uM 4 24]) .ret) .skip)) (.seq (.ops [uM 25 1, uO 26 (.conv .i64) 25, uO 27 fA0 2, uO 28 fA0 27, uO 29 lF 28, uO 30 .len 29, uB 31 (.bin .rem) 26 30, uM 5 31]) (.seq (.draw [(true, uO 32 lT9 2), (true, uO 33 lT9 2)] (.alt (.one (oA 6 (.alloc z9) []) [uO 32 lT9 2, uO 33 lT9 2] (.one (oA 7 (.alloc z9) []) [uO 32 lT9 2, uO 33 lT9 2] (.one (oZ (.store 9) [.t 6, .t 32]) [uO 33 lT9 2] (.one (oZ (.store 9) [.t 7, .t 33]) [] .done)))) (.one (oA 7 (.alloc z9) []) [uO 32 lT9 2, uO 33 lT9 2] (.one (oA 6 (.alloc z9) []) [uO 32 lT9 2, uO 33 lT9 2] (.one (oZ (.store 9) [.t 6, .t 32]) [uO 33 lT9 2] (.one (oZ (.store 9) [.t 7, .t 33]) [] .done)))))) (.seq (.ops [uO 34 fA8 6, oZ (.store 1) [.t 34, kE], uO 35 fA8 7, oZ (.store 1) [.t 35, kE], uO 36 fA3 7, oZ (.store 1) [.t 36, kE]]) (.seq (.seq (.ops [oA 8 .mov [(kI 0)]]) (.block 0 (.loop (.seq (.seq (.ops [uM 37 8, uO 38 fA0 2, uO 39 fA0 38, uO 40 lF 39, uO 41 .len 40, uB 42 bL 37 41]) (.cond (.t 42) .skip (.exit 0))) (.seq (.block 1 (.seq (.ops [uM 45 8, uM 46 5, uB 47 bE 45 46, uM 48 47, gO 49 fA3 2 48 false, gO 50 lF 49 48 false, gM 51 8 48 false, gB 52 (.call 40) 50 51 48 false, oA 53 .pick [.t 48, kT, .t 52]]) (.cond (.t 53) (.ops [uO 54 fA3 7, uO 55 lF 54, uM 56 8, uO 57 (.bslice 1) 56, uB 58 (.append 1 8) 55 57, uO 59 fA3 7, oZ (.store 1) [.t 59, .t 58]]) .skip))) (.ops [uM 43 8, oA 44 bA [.t 43, (kI 1)], uM 8 44])))))) (.seq (.ops [uO 61 lT9 6, uO 62 (.call 22) 61, uO 63 (.call 21) 62, uM 60 63, uO 64 x0 60, uO 65 x1 60, uM 9 64, uM 10 65]) (.seq (.ops [uO 67 lT9 7, uO 68 (.call 22) 67, uO 69 (.call 21) 68, uM 66 69, uO 70 x0 66, uO 71 x1 66, uM 11 70, uM 12 71]) (.seq (.seq (.ops [uM 72 10, oA 73 bN [.t 72, (kI 0)], uM 74 73, gM 75 12 74 false, oG 76 bN [.t 75, (kI 0)] 74 false, oA 77 .pick [.t 74, kT, .t 76], uM 78 77, gM 79 9 78 false, gO 80 .len 79 78 false, gO 81 lT9 2 78 false, gO 82 (.call 25) 81 78 false, gB 83 bN 80 82 78 false, oA 84 .pick [.t 78, kT, .t 83], uM 85 84, gM 86 11 85 false, gO 87 .len 86 85 false, gM 88 9 85 false, gO 89 .len 88 85 false, gB 90 bN 87 89 85 false, oA 91 .pick [.t 85, kT, .t 90]]) (.cond (.t 91) (.seq (.ops [oA 4 .mov [kF]]) .ret) .skip)) (.seq (.seq (.ops [oA 13 .mov [(kI 0)]]) (.block 2 (.loop (.seq (.seq (.ops [uM 92 13, uM 93 9, uO 94 .len 93, uB 95 bL 92 94]) (.cond (.t 95) .skip (.exit 2))) (.seq (.block 3 (.seq (.draw [(false, uM 98 9), (false, uM 99 13), (false, uB 100 (.idxaddr 1) 98 99), (false, uO 101 lF 100), (false, oA 102 bE [.t 101, (kI 1)]), (false, uM 103 102), (false, gM 104 11 103 true), (false, gM 105 13 103 true), (false, gB 106 (.idxaddr 1) 104 105 103 true), (false, gO 107 lF 106 103 true), (false, gM 108 9 103 true), (false, gM 109 13 103 true), (false, gB 110 (.idxaddr 1) 108 109 103 true), (false, gO 111 lF 110 103 true), (false, gB 112 bN 107 111 103 true), (false, oA 113 .pick [.t 103, .t 112, kF]), (false, uM 114 113), (false, gM 115 11 114 false), (false, gM 116 13 114 false), (false, gB 117 (.idxaddr 1) 115 116 114 false), (false, gO 118 lF 117 114 false), (false, oG 119 bE [.t 118, (kI 2)] 114 false), (false, gM 120 119 114 false), (false, gM 121 9 120 true), (false, gM 122 13 120 true), (false, gB 123 (.idxaddr 1) 121 122 120 true), (false, gO 124 lF 123 120 true), (false, gM 125 11 120 true), (false, gM 126 13 120 true), (false, gB 127 (.idxaddr 1) 125 126 120 true), (false, gO 128 lF 127 120 true), (false, gB 129 bN 124 128 120 true), (false, oG 130 .pick [.t 120, .t 129, kF] 114 false), (false, oA 131 .pick [.t 114, kT, .t 130])] .done) (.cond (.t 131) (.seq (.ops [oA 4 .mov [kF]]) .ret) .skip))) (.ops [uM 96 13, oA 97 bA [.t 96, (kI 1)], uM 13 97])))))) (.seq (.ops [oA 132 (.call 20) [], uM 4 132]) .ret)))))))))))
theorem fc9 : fnC Tryz.prog 9 cert9 = some (133, [.tmp 4], ac9) := by kernel_rfl
end Go.Lift
set_option linter.unusedSimpArgs false
set_option linter.unusedVariables false
namespace Go.Lift
open Go Go.Proofs
def beforeL : List Int → List Int → Bool
  | a :: xs, b :: bs => if a = b then beforeL xs bs else decide (a < b)
  | [], bs => decide (0 < bs.length)
  | _ :: _, [] => false
def shorterL (a b : List Int) : Bool := decide (a.length < b.length) || (decide (a.length = b.length) && beforeL a b)
end Go.Lift

set_option linter.unusedSimpArgs false
set_option linter.unusedVariables false
namespace Go.Lift
open Go Go.Proofs
theorem Grown.wk {sz : Nat} {H0 H : AHeap} {v : AV} {es : List (List AV)} (g : Grown sz H0 H v es) : Wk v (.slice es) := fun _ _ _ hr => by
  rcases g with ⟨rfl, rfl⟩ | ⟨b, cap, rfl, _⟩
  · exact Rep.weaken_emp hr
  · exact Rep.weaken_slice hr
end Go.Lift

set_option linter.unusedSimpArgs false
set_option linter.unusedVariables false
namespace Go.Lift
open Go Go.Proofs
theorem truthsR_mem {t : Table} (hc : checkTable t = 0) (o : List Int) : o ∈ truthsR t ↔ isTruthT t o = true := by
  rw [truthsR_eq hc, List.mem_filter, isTruthT_iff hc, isTruthR, Bool.and_eq_true, decide_eq_true_eq, mem_allO]
  constructor
  · rintro ⟨h1, h2, h3⟩; exact ⟨h1, h3⟩
  · rintro ⟨h1, h2⟩; exact ⟨h1, h1, h2⟩
end Go.Lift

set_option linter.unusedSimpArgs false
set_option linter.unusedVariables false
namespace Go.Lift
open Go Go.Proofs
theorem thin_sm {h : House} (c1 : thinH h = true) : HSm h := by
  rw [thinH, Bool.and_eq_true] at c1; exact short_sm c1.1
end Go.Lift

set_option linter.unusedSimpArgs false
set_option linter.unusedVariables false
namespace Go.Lift
open Go Go.Proofs
/-- The least one that will do, of some lists. -/
structure IsMin (ok : List Int → Bool) (D : List Int → Prop) (x : List Int) : Prop where
  dom : D x
  good : ok x = true
  least : ∀ y, D y → ok y = true → shorterL y x = false
theorem IsMin.congr {ok ok' : List Int → Bool} {D D' : List Int → Prop} {x : List Int} (h : IsMin ok D x) (hd : ∀ y, D y ↔ D' y) (hok : ∀ y, D y → ok y = ok' y) : IsMin ok' D' x :=
  ⟨(hd x).1 h.dom, by rw [← hok x h.dom]; exact h.good, fun y hy ho => h.least y ((hd y).2 hy) (by rw [hok y ((hd y).2 hy)]; exact ho)⟩
def Inc (n : Nat) (x : List Int) : Prop := x.Pairwise (· < ·) ∧ ∀ a ∈ x, ∃ i : Nat, a = (i : Int) ∧ i < n
end Go.Lift

set_option linter.unusedSimpArgs false
set_option linter.unusedVariables false
namespace Go.Lift
open Go Go.Proofs
/-- The house with other signs. -/
def reS (h : House) (ss : List Sign) : House := { h with signs := ss }
def sgn (bs : List Bool) (s : Sign) : Bool := bs.getD s.thing.toNat false == s.carries
theorem enumH_reS (h : House) (ss : List Sign) : ∀ (k : Nat) (pre : List Int), enumH (reS h ss) k pre = enumH h k pre
  | 0, _ => rfl
  | k + 1, pre => by
    simp only [enumH]
    congr 1
    funext n
    exact enumH_reS h ss k _
theorem allC_reS (h : House) (ss : List Sign) : allC (reS h ss) = allC h := by
  unfold allC
  congr 1
  funext o
  unfold coursesOf
  rw [enumH_reS]; rfl
theorem timesUpto_reS (h : House) (ss : List Sign) (m : Int) : ∀ j, timesUpto (reS h ss) m j = timesUpto h m j
  | 0 => rfl
  | j + 1 => by simp only [timesUpto, timesUpto_reS h ss m j]; rfl
theorem check_zero (h : House) : checkHouse h = 0 ↔ ¬ bigH h ∧ askErr h.table = 0 ∧ ¬ badH h ∧ allH h ∧ ¬ 2000 < manyH h := by
  unfold checkHouse
  by_cases h1 : bigH h
  · simp [h1]
  by_cases h2 : askErr h.table = 0
  rotate_left
  · simp [h1, h2]
  by_cases h3 : badH h
  · simp [h1, h2, h3]
  by_cases h4 : allH h
  rotate_left
  · simp [h1, h2, h3, h4]
  by_cases h5 : 2000 < manyH h
  · simp [h1, h2, h3, h4, h5]
  · simp [h1, h2, h3, h4, h5]
theorem check_reS {h : House} (hc : checkHouse h = 0) {ss : List Sign} (h5 : ss.length ≤ 5) (ht : ∀ s ∈ ss, thingOK h s.thing = true) : checkHouse (reS h ss) = 0 := by
  rw [check_zero] at hc ⊢
  obtain ⟨h1, h2, h3, h4, h6⟩ := hc
  refine ⟨?_, h2, h3, ⟨h4.1, h4.2.1, List.all_eq_true.2 ht⟩, ?_⟩
  · rintro (k | k | k | k | k)
    · exact h1 (.inl k)
    · exact h1 (.inr (.inl k))
    · exact h1 (.inr (.inr (.inl k)))
    · exact h1 (.inr (.inr (.inr (.inl k))))
    · have : (reS h ss).signs.length = ss.length := rfl
      omega
  · have : manyH (reS h ss) = manyH h := timesUpto_reS h ss _ _
    rw [this]; exact h6
theorem range_all {α : Type} (d : α) (l : List α) (p : α → Bool) : ((List.range l.length).all fun i => p (l.getD i d)) = l.all p := by
  rw [Bool.eq_iff_iff, List.all_eq_true, List.all_eq_true]
  constructor
  · intro h x hx
    obtain ⟨i, hi, rfl⟩ := List.getElem_of_mem hx
    have := h i (List.mem_range.2 hi)
    simpa [List.getD_eq_getElem?_getD, hi] using this
  · intro h i hi
    have hi' := List.mem_range.1 hi
    have : l.getD i d = l[i] := by simp [List.getD_eq_getElem?_getD, hi']
    rw [this]; exact h _ (List.getElem_mem _)
theorem isTrue_nil (h : House) (c : Course) : isTrue h [] c = h.signs.all (sgn (lastOf h c [])) := by
  rw [← range_all default, isTrue, rightOK]
  congr 1
  funext i
  unfold signRight sgn
  generalize (lastOf h c []).getD _ false = a
  generalize Sign.carries _ = b
  cases a <;> cases b <;> simp
theorem allC_ne {h : House} (hv : HV h) : ∃ c, c ∈ allC h := by
  have h1 : truthsT h.table ≠ [] := by
    intro h0
    have := hv.ask
    rw [askErr, if_pos hv.tab, if_pos h0] at this; cases this
  have h2 : truthsR h.table ≠ [] := fun h0 => h1 ((truths_nil hv.tab).1 h0)
  obtain ⟨o, l, ho⟩ := List.exists_cons_of_ne_nil h2
  have h3 : isTruthT h.table o = true := (truthsR_mem hv.tab o).1 (by rw [ho]; simp)
  refine ⟨⟨o, h.touches.map (·.lo)⟩, (mem_allC hv.tab _).2 ?_⟩
  rw [courseOK, h3, hoursOK]
  simp only [Bool.true_and, List.length_map, decide_true, List.all_eq_true, List.mem_range, decide_eq_true_eq]
  intro i hi
  have := hv.tim _ (List.getElem_mem hi)
  simp [List.getD_eq_getElem?_getD, hi]; omega
end Go.Lift

set_option linter.unusedSimpArgs false
set_option linter.unusedVariables false
namespace Go.Lift
open Go Go.Proofs
def Le (c d : List Bool) : Prop := ∀ i, c.getD i false = true → d.getD i false = true
theorem getD_set (c : List Bool) (k i : Nat) (b : Bool) (hk : k < c.length) : (c.set k b).getD i false = if i = k then b else c.getD i false := by
  simp only [List.getD_eq_getElem?_getD, List.getElem?_set, hk, if_true]
  by_cases h : k = i
  · subst h; simp
  · rw [if_neg h, if_neg (fun e => h e.symm)]
theorem fold_rel {α β : Type} {R : α → β → Prop} {f : α → Nat → α} {g : β → Nat → β} : ∀ (n : Nat) {a : α} {b : β}, R a b → (∀ i x y, i < n → R x y → R (f x i) (g y i)) → R ((List.range n).foldl f a) ((List.range n).foldl g b)
  | 0, _, _, h, _ => h
  | n + 1, a, b, h, hs => by
    rw [List.range_succ, List.foldl_append, List.foldl_append]
    exact hs n _ _ (by omega) (fold_rel n h fun i x y hi => hs i x y (by omega))
theorem startOf_get (h : House) (o : List Int) : ∀ j, j ≤ 10 → ∀ i, (startOf h o j).getD i false = (decide (i < j) && decide (o.getD i 0 ∈ h.sick))
  | 0, _, i => by
    simp only [startOf, List.range_zero, List.foldl_nil, List.getD_eq_getElem?_getD, List.getElem?_replicate]
    split <;> simp
  | j + 1, hj, i => by
    have e : startOf h o (j + 1) = sickAt h o (startOf h o j) j := range_fold _ _ _
    rw [e, sickAt, getD_set _ _ _ _ (by rw [startOf_len]; omega), startOf_get h o j (by omega)]
    by_cases hi : i = j
    · subst hi; simp
    · rw [if_neg hi]
      by_cases h1 : i < j
      · simp [h1, show i < j + 1 by omega]
      · simp [h1, show ¬ i < j + 1 by omega]
theorem boilOf_get (keys : List (Int × Int)) (k : Int) (c : List Bool) (hc : c.length = 10) : ∀ j, j ≤ 10 → ∀ i, (boilOf keys k c j).getD i false = (c.getD i false && !(decide (i < j) && decide (((i : Int), k) ∈ keys)))
  | 0, _, i => by simp [boilOf]
  | j + 1, hj, i => by
    have e : boilOf keys k c (j + 1) = boilAt keys k (boilOf keys k c j) j := range_fold _ _ _
    have ih := boilOf_get keys k c hc j (by omega)
    rw [e, boilAt]
    by_cases hk : ((j : Int), k) ∈ keys
    · rw [if_pos hk, getD_set _ _ _ _ (by rw [boilOf_len keys k c j hc]; omega), ih]
      by_cases hi : i = j
      · subst hi; simp [hk]
      · rw [if_neg hi]
        by_cases h1 : i < j
        · simp [h1, show i < j + 1 by omega]
        · simp [h1, show ¬ i < j + 1 by omega]
    · rw [if_neg hk, ih]
      by_cases hi : i = j
      · subst hi; simp [hk]
      · by_cases h1 : i < j
        · simp [h1, show i < j + 1 by omega]
        · simp [h1, show ¬ i < j + 1 by omega]
def tA (h : House) (i : Nat) : Nat := (h.touches.getD i default).a.toNat
def tB (h : House) (i : Nat) : Nat := (h.touches.getD i default).b.toNat
theorem touchAt_get (h : House) (hrs : List Int) (k : Int) (c : List Bool) (i n : Nat) (ha : tA h i < c.length) (hb : tB h i < c.length) :
    (touchAt h hrs k c i).getD n false = (c.getD n false || (decide (hrs.getD i 0 = k) && (c.getD (tA h i) false || c.getD (tB h i) false) && (decide (n = tA h i) || decide (n = tB h i)))) := by
  have e : touchAt h hrs k c i = if hrs.getD i 0 = k ∧ (c.getD (tA h i) false || c.getD (tB h i) false) = true then (c.set (tA h i) true).set (tB h i) true else c := rfl
  rw [e]
  by_cases hc : hrs.getD i 0 = k ∧ (c.getD (tA h i) false || c.getD (tB h i) false) = true
  · rw [if_pos hc, getD_set _ _ _ _ (by rw [List.length_set]; exact hb), getD_set _ _ _ _ ha, hc.2, decide_eq_true hc.1]
    by_cases h1 : n = tB h i
    · simp [h1]
    · by_cases h2 : n = tA h i
      · simp [h1, h2]
      · simp [h1, h2]
  · rw [if_neg hc]
    by_cases h1 : hrs.getD i 0 = k
    · have h2 : (c.getD (tA h i) false || c.getD (tB h i) false) = false := by
        rw [Bool.eq_false_iff]; exact fun h2 => hc ⟨h1, h2⟩
      rw [h2]; simp
    · rw [decide_eq_false h1]; simp
theorem tAB {h : House} (hk : HOK h) {i : Nat} (hi : i < h.touches.length) : tA h i < 10 ∧ tB h i < 10 := by
  obtain ⟨a, b, h1, h2, h3, h4⟩ := hk.touch _ (List.getElem_mem hi)
  have e : h.touches.getD i default = h.touches[i] := by simp [List.getD_eq_getElem?_getD, hi]
  rw [tA, tB, e, h1, h2]
  exact ⟨by omega, by omega⟩
def Le10 (c d : List Bool) : Prop := c.length = 10 ∧ d.length = 10 ∧ Le c d
theorem touchAt_le {h x : House} {hrs hrs' : List Int} {k : Int} {c d : List Bool} {i : Nat} (ha : tA h i < 10) (hb : tB h i < 10) (ea : tA x i = tA h i) (eb : tB x i = tB h i) (eh : hrs'.getD i 0 = hrs.getD i 0) (hl : Le10 c d) :
    Le10 (touchAt h hrs k c i) (touchAt x hrs' k d i) := by
  obtain ⟨h1, h2, h3⟩ := hl
  refine ⟨touchAt_len _ _ _ _ _ h1, touchAt_len _ _ _ _ _ h2, fun n hn => ?_⟩
  rw [touchAt_get _ _ _ _ _ _ (by omega) (by omega)] at hn ⊢
  rw [ea, eb, eh]
  simp only [Bool.or_eq_true, Bool.and_eq_true] at hn ⊢
  rcases hn with hn | ⟨⟨q1, q2⟩, q3⟩
  · exact .inl (h3 _ hn)
  · refine .inr ⟨⟨q1, ?_⟩, q3⟩
    rcases q2 with q2 | q2
    · exact .inl (h3 _ q2)
    · exact .inr (h3 _ q2)
theorem touchAt_more {x : House} {hrs : List Int} {k : Int} {c d : List Bool} {i : Nat} (ha : tA x i < 10) (hb : tB x i < 10) (hl : Le10 c d) : Le10 c (touchAt x hrs k d i) := by
  obtain ⟨h1, h2, h3⟩ := hl
  refine ⟨h1, touchAt_len _ _ _ _ _ h2, fun n hn => ?_⟩
  rw [touchAt_get _ _ _ _ _ _ (by omega) (by omega), h3 n hn]; rfl
theorem touchOf_more {x : House} {hrs : List Int} {k : Int} {c d : List Bool} (n : Nat) (hx : ∀ i, i < x.touches.length → tA x i < 10 ∧ tB x i < 10) : ∀ m, n + m ≤ x.touches.length → Le10 c (touchOf x hrs k d n) → Le10 c (touchOf x hrs k d (n + m))
  | 0, _, h => h
  | m + 1, hm, h => by
    have e : touchOf x hrs k d (n + m + 1) = touchAt x hrs k (touchOf x hrs k d (n + m)) (n + m) := range_fold _ _ _
    have hb := hx (n + m) (by omega)
    rw [← Nat.add_assoc, e]
    exact touchAt_more hb.1 hb.2 (touchOf_more n hx m (by omega) h)
/-- What one house has more than another. -/
structure More (h x : House) (o o' hrs hrs' : List Int) (keys keys' : List (Int × Int)) : Prop where
  pcs : x.table.pieces.length = h.table.pieces.length
  things : nT x = nT h
  last : x.last = h.last
  own : ∀ i, i < h.table.pieces.length → o.getD i 0 ∈ h.sick → o'.getD i 0 ∈ x.sick
  keys : ∀ q, q ∈ keys' → q ∈ keys
  len : h.touches.length ≤ x.touches.length
  same : ∀ i, i < h.touches.length → tA x i = tA h i ∧ tB x i = tB h i ∧ hrs'.getD i 0 = hrs.getD i 0
theorem play_le {h x : House} (hk : HOK h) (xk : HOK x) {o o' hrs hrs' : List Int} {keys keys' : List (Int × Int)} (m : More h x o o' hrs hrs' keys keys') : Le (playOf h o hrs keys) (playOf x o' hrs' keys') := by
  have hp := hk.pcs
  have hn := nT_le hk
  have key : Le10 (playOf h o hrs keys) (playOf x o' hrs' keys') := by
    unfold playOf hoursOf
    rw [m.last]
    refine fold_rel (R := Le10) _ ⟨startOf_len _ _ _, startOf_len _ _ _, fun i hi => ?_⟩ ?_
    · rw [startOf_get _ _ _ (by omega), Bool.and_eq_true, decide_eq_true_eq, decide_eq_true_eq] at hi
      rw [startOf_get _ _ _ (by rw [m.pcs]; omega), m.pcs, decide_eq_true hi.1, decide_eq_true (m.own i hi.1 hi.2)]; rfl
    · intro k c d _ hl
      unfold hourAt
      obtain ⟨l1, l2, l3⟩ := hl
      have hb : Le10 (boilOf keys k c (nT h)) (boilOf keys' k d (nT x)) := by
        refine ⟨boilOf_len _ _ _ _ l1, boilOf_len _ _ _ _ l2, fun i hi => ?_⟩
        rw [boilOf_get _ _ _ l1 _ hn, Bool.and_eq_true] at hi
        rw [boilOf_get _ _ _ l2 _ (by rw [m.things]; exact hn), l3 i hi.1, m.things]
        cases hq : decide (((i : Int), (k : Int)) ∈ keys')
        · simp
        · have := m.keys _ (of_decide_eq_true hq)
          have h2 := hi.2
          rw [decide_eq_true this] at h2
          rw [h2]; rfl
      have hh : Le10 (touchOf h hrs k (boilOf keys k c (nT h)) h.touches.length) (touchOf x hrs' k (boilOf keys' k d (nT x)) h.touches.length) := by
        unfold touchOf
        refine fold_rel (R := Le10) _ hb fun i c d hi hl => ?_
        obtain ⟨s1, s2, s3⟩ := m.same i hi
        have hab := tAB hk hi
        exact touchAt_le hab.1 hab.2 s1 s2 s3 hl
      obtain ⟨q, hq⟩ := Nat.exists_eq_add_of_le m.len
      rw [hq]
      exact touchOf_more _ (fun i hi => tAB xk hi) q (by omega) hh
  exact key.2.2
end Go.Lift

set_option linter.unusedSimpArgs false
set_option linter.unusedVariables false
namespace Go.Lift
open Go Go.Proofs
theorem ask_zero {h : House} (h1 : checkHouse h = 0) (h2 : truH h [] ≠ []) : askErrH h true = 0 := by
  rw [askErrH, if_pos h1, if_pos rfl, if_neg h2]
end Go.Lift

set_option linter.unusedSimpArgs false
set_option linter.unusedVariables false
namespace Go.Lift
open Go Go.Proofs
theorem isWhose_iff {h : House} (ht : truH h [] ≠ []) (w : Nat) : isWhose h w = true ↔ ∃ c ∈ truH h [], harmedP h w c = true := by
  rw [isWhose, verdictOf, decide_eq_true_eq]
  have hpos : 0 < (truH h []).length := List.length_pos_iff.2 ht
  have key : (∃ c ∈ truH h [], harmedP h w c = true) ↔ (truH h []).countP (harmedP h w) ≠ 0 := by
    rw [Ne, List.countP_eq_zero]
    constructor
    · rintro ⟨x, hx, hp⟩ hall; exact hall x hx hp
    · intro hne; exact Classical.byContradiction fun hno => hne fun x hx hp => hno ⟨x, hx, hp⟩
  rw [key]
  by_cases h1 : (truH h []).countP (harmedP h w) = (truH h []).length
  · rw [if_pos h1]
    exact ⟨fun _ => by omega, fun _ => by decide⟩
  · rw [if_neg h1]
    by_cases h2 : (truH h []).countP (harmedP h w) = 0
    · rw [if_pos h2]; simp [h2]
    · rw [if_neg h2]; exact ⟨fun _ => h2, fun _ => by decide⟩
theorem harmedP_iff (h : House) (w : Int) (c : Course) : harmedP h w c = true ↔ ∃ i, i < h.table.pieces.length ∧ (lastOf h c []).getD i false = true ∧ (pad7 c.owners).getD i 0 = w ∧ ¬ (pad7 c.owners).getD i 0 ∈ h.sick := by
  rw [harmedP, List.any_eq_true]
  constructor
  · rintro ⟨i, hi, hh⟩
    simp only [harmedAt, Bool.and_eq_true, decide_eq_true_eq, Bool.not_eq_true', decide_eq_false_iff_not] at hh
    exact ⟨i, List.mem_range.1 hi, hh.1.1, hh.1.2, hh.2⟩
  · rintro ⟨i, hi, h1, h2, h3⟩
    refine ⟨i, List.mem_range.2 hi, ?_⟩
    simp only [harmedAt, Bool.and_eq_true, decide_eq_true_eq, Bool.not_eq_true', decide_eq_false_iff_not]
    exact ⟨⟨h1, h2⟩, h3⟩
end Go.Lift

set_option linter.unusedSimpArgs false
set_option linter.unusedVariables false
namespace Go.Lift
open Go Go.Proofs
theorem verdict_one {α : Type} (l : List α) (p : α → Bool) : verdictOf (l.countP p) l.length = 1 ↔ ∀ c ∈ l, p c = true := by
  rw [← List.countP_eq_length, verdictOf]
  by_cases h1 : l.countP p = l.length
  · simp [h1]
  · rw [if_neg h1]
    split
    · constructor
      · intro h; omega
      · intro h; exact absurd h h1
    · constructor
      · intro h; omega
      · intro h; exact absurd h h1
theorem verdict_two {α : Type} {l : List α} (hl : l ≠ []) (p : α → Bool) : verdictOf (l.countP p) l.length = 2 ↔ ∀ c ∈ l, p c = false := by
  have hpos := List.length_pos_iff.2 hl
  have key : (∀ c ∈ l, p c = false) ↔ l.countP p = 0 := by
    rw [List.countP_eq_zero]
    exact ⟨fun h c hc => by rw [h c hc]; simp, fun h c hc => by simpa using h c hc⟩
  rw [key, verdictOf]
  by_cases h1 : l.countP p = l.length
  · rw [if_pos h1]
    exact ⟨fun h => by omega, fun h => by omega⟩
  · rw [if_neg h1]
    by_cases h2 : l.countP p = 0
    · rw [if_pos h2]; exact ⟨fun _ => h2, fun _ => rfl⟩
    · rw [if_neg h2]; exact ⟨fun h => by omega, fun h => absurd h h2⟩
theorem verdict_range {α : Type} (l : List α) (p : α → Bool) : 1 ≤ verdictOf (l.countP p) l.length ∧ verdictOf (l.countP p) l.length ≤ 3 := by
  rw [verdictOf]; split
  · omega
  · split <;> omega
/-- One house has the same things, and no other truths. -/
structure SubH (x h : House) : Prop where
  pcs : x.table.pieces.length = h.table.pieces.length
  wom : x.table.women.length = h.table.women.length
  sick : x.sick = h.sick
  nT : nT x = nT h
  last : ∀ c more, lastOf x c more = lastOf h c more
  tru : ∀ c ∈ truH x [], c ∈ truH h []
theorem SubH.ne {x h : House} (s : SubH x h) (hx : truH x [] ≠ []) : truH h [] ≠ [] := by
  obtain ⟨c, l, e⟩ := List.exists_cons_of_ne_nil hx
  intro h0
  have := s.tru c (by rw [e]; simp)
  rw [h0] at this; cases this
theorem SubH.carry {x h : House} (s : SubH x h) (hx : truH x [] ≠ []) (i : Nat) (hn : carryAt h i ≠ 3) : carryAt x i = carryAt h i := by
  have hr := verdict_range (truH h []) (carriesP h i)
  have hp : carriesP x i = carriesP h i := by
    funext c; rw [carriesP, carriesP, s.last]
  have hc : carryAt h i = 1 ∨ carryAt h i = 2 := by unfold carryAt at *; omega
  rcases hc with hc | hc
  · rw [hc, carryAt, verdict_one]
    rw [carryAt, verdict_one] at hc
    intro c hm; rw [hp]; exact hc c (s.tru c hm)
  · rw [hc, carryAt, verdict_two hx]
    rw [carryAt, verdict_two (s.ne hx)] at hc
    intro c hm; rw [hp]; exact hc c (s.tru c hm)
theorem SubH.whose {x h : House} (s : SubH x h) (hx : truH x [] ≠ []) (w : Nat) (hw : isWhose x w = true) : isWhose h w = true := by
  rw [isWhose_iff hx] at hw
  rw [isWhose_iff (s.ne hx)]
  obtain ⟨c, hc, hp⟩ := hw
  refine ⟨c, s.tru c hc, ?_⟩
  rw [harmedP_iff] at hp ⊢
  rw [s.pcs, s.last, s.sick] at hp
  exact hp
theorem SubH.len {x h : House} (s : SubH x h) (hx : truH x [] ≠ []) : (whoseS x).length ≤ (whoseS h).length := by
  rw [whoseS, whoseS, whoseUpto, whoseUpto, List.length_map, List.length_map, ← List.countP_eq_length_filter, ← List.countP_eq_length_filter, s.wom]
  exact List.countP_mono_left fun w _ hw => s.whose hx w hw
theorem truH_reS (h : House) (ss : List Sign) (c : Course) : c ∈ truH (reS h ss) [] ↔ c ∈ allC h ∧ ∀ s ∈ ss, sgn (lastOf h c []) s = true := by
  rw [truH, List.mem_filter, allC_reS, isTrue_nil, List.all_eq_true]; rfl
theorem truH_self (h : House) (c : Course) : c ∈ truH h [] ↔ c ∈ allC h ∧ ∀ s ∈ h.signs, sgn (lastOf h c []) s = true := truH_reS h h.signs c
end Go.Lift

set_option linter.unusedSimpArgs false
set_option linter.unusedVariables false
namespace Go.Lift
open Go Go.Proofs
def reSK (h : House) (sk : List Int) : House := { h with sick := sk }
theorem enumH_reSK (h : House) (sk : List Int) : ∀ (k : Nat) (pre : List Int), enumH (reSK h sk) k pre = enumH h k pre
  | 0, _ => rfl
  | k + 1, pre => by
    simp only [enumH]
    congr 1
    funext n
    exact enumH_reSK h sk k _
theorem allC_reSK (h : House) (sk : List Int) : allC (reSK h sk) = allC h := by
  unfold allC
  congr 1
  funext o
  unfold coursesOf
  rw [enumH_reSK]; rfl
theorem timesUpto_reSK (h : House) (sk : List Int) (m : Int) : ∀ j, timesUpto (reSK h sk) m j = timesUpto h m j
  | 0 => rfl
  | j + 1 => by simp only [timesUpto, timesUpto_reSK h sk m j]; rfl
theorem check_reSK {h : House} (hc : checkHouse h = 0) {sk : List Int} (hr : risingOK sk h.table.women.length = true) : checkHouse (reSK h sk) = 0 := by
  rw [check_zero] at hc ⊢
  obtain ⟨h1, h2, h3, h4, h6⟩ := hc
  refine ⟨h1, h2, ?_, h4, ?_⟩
  · rintro (k | k | k | k)
    · exact h3 (.inl k)
    · exact h3 (.inr (.inl k))
    · exact h3 (.inr (.inr (.inl k)))
    · have : risingOK (reSK h sk).sick (reSK h sk).table.women.length = risingOK sk h.table.women.length := rfl
      rw [this, hr] at k; cases k
  · have : manyH (reSK h sk) = manyH h := timesUpto_reSK h sk _ _
    rw [this]; exact h6
theorem tru_nil (h : House) (c : Course) : c ∈ truH (reS h []) [] ↔ c ∈ allC h := by
  rw [truH_reS]; simp
theorem nil_ne {h : House} (hv : HV h) : truH (reS h []) [] ≠ [] := by
  obtain ⟨c, hc⟩ := allC_ne hv
  intro h0
  have := (tru_nil h c).2 hc
  rw [h0] at this; cases this
theorem check_nil {h : House} (hc : checkHouse h = 0) : checkHouse (reS h []) = 0 := check_reS hc (by simp) fun s hs => by cases hs
/-- With more sick women more things carry a sickness. -/
theorem last_sicker {h : House} (hk : HOK h) {sk : List Int} (xk : HOK (reSK (reS h []) sk)) (hs : ∀ a ∈ h.sick, a ∈ sk) (c : Course) : Le (lastOf (reS h []) c []) (lastOf (reSK (reS h []) sk) c []) := by
  have hk' : HOK (reS h []) := ⟨hk.sm, hk.pcs, hk.sk, hk.others, hk.last, hk.touches, hk.touch, hk.boiled, by show (0 : Nat) ≤ 5; omega, fun s hs => by cases hs⟩
  exact play_le hk' xk ⟨rfl, rfl, rfl, fun i hi ho => hs _ ho, fun q hq => hq, Nat.le_refl _, fun i hi => ⟨rfl, rfl, rfl⟩⟩
theorem sicker_one {h : House} (hv : HV h) {sk : List Int} (xk : HOK (reSK (reS h []) sk)) (hs : ∀ a ∈ h.sick, a ∈ sk) (i : Nat) : (carryAt (reS h []) i = 1 → carryAt (reSK (reS h []) sk) i = 1) ∧ (carryAt (reSK (reS h []) sk) i = 2 → carryAt (reS h []) i = 2) := by
  have hm : ∀ c, c ∈ truH (reSK (reS h []) sk) [] ↔ c ∈ truH (reS h []) [] := by
    intro c
    rw [truH_self, truH_self, allC_reSK]
    exact ⟨fun h => ⟨h.1, fun s hs => by cases hs⟩, fun h => ⟨h.1, fun s hs => by cases hs⟩⟩
  have hne := nil_ne hv
  have hne2 : truH (reSK (reS h []) sk) [] ≠ [] := by
    obtain ⟨c, l, e⟩ := List.exists_cons_of_ne_nil hne
    intro h0
    have := (hm c).2 (by rw [e]; simp)
    rw [h0] at this; cases this
  rw [carryAt, carryAt, verdict_one, verdict_one, verdict_two hne, verdict_two hne2]
  constructor
  · intro hall c hc
    exact last_sicker hv.ok xk hs c i (hall c ((hm c).1 hc))
  · intro hall c hc
    have := hall c ((hm c).2 hc)
    rw [carriesP] at this ⊢
    rw [Bool.eq_false_iff]
    intro ht
    rw [last_sicker hv.ok xk hs c i ht] at this; cases this
theorem sick_women {h : House} (hc : checkHouse h = 0) (hv : HV h) {a : Int} (ha : a ∈ h.sick) : ∃ i : Nat, a = (i : Int) ∧ i < h.table.women.length := by
  have hw5 := (checkTable_len hv.tab).1
  have hb := ((check_zero h).1 hc).2.2.1
  have hr : risingOK h.sick h.table.women.length = true := by
    cases hq : risingOK h.sick h.table.women.length
    · exact absurd (.inr (.inr (.inr hq))) hb
    · rfl
  rw [rising_eq _ _ (by omega) (by omega), risingR, List.all_eq_true] at hr
  obtain ⟨i, hi, rfl⟩ := List.getElem_of_mem ha
  have := hr i (List.mem_range.2 hi)
  have e : h.sick.getD i 0 = h.sick[i] := by simp [List.getD_eq_getElem?_getD, hi]
  rw [risingRAt, e, Bool.and_eq_true, decide_eq_true_eq, w64 (by omega) (by omega)] at this
  exact ⟨h.sick[i].toNat, by omega, by omega⟩
theorem filter_inc (p : Nat → Bool) (n : Nat) : Inc n (((List.range n).filter p).map Int.ofNat) := by
  refine ⟨List.Pairwise.map Int.ofNat (fun a b hab => Int.ofNat_lt.2 hab) (List.Pairwise.filter _ List.pairwise_lt_range), fun a ha => ?_⟩
  simp only [List.mem_map, List.mem_filter, List.mem_range] at ha
  obtain ⟨i, ⟨hi, _⟩, rfl⟩ := ha
  exact ⟨i, rfl, hi⟩
end Go.Lift

set_option linter.unusedSimpArgs false
set_option linter.unusedVariables false
namespace Go.Lift
open Go Go.Proofs
theorem ready_ok {h : House} (hr : readyH h = true) : HSm h ∧ checkHouse h = 0 := by
  rw [readyH, Bool.and_eq_true, decide_eq_true_eq] at hr
  exact ⟨thin_sm hr.1, hr.2⟩
end Go.Lift

set_option linter.unusedSimpArgs false
set_option linter.unusedVariables false
namespace Go.Lift
open Go Go.Proofs
theorem HSm.signs' {h : House} (hs : HSm h) {ss : List Sign} (hl : ss.length ≤ 1073741824) : HSm (reS h ss) :=
  ⟨hs.women, hs.pieces, hs.marks, hs.sick, hs.touches, hs.boiled, hl⟩
end Go.Lift

set_option linter.unusedSimpArgs false
set_option linter.unusedVariables false
namespace Go.Lift
open Go Go.Proofs Go.Proofs.YthnfcdkiaihfcaaGreat
theorem rising_inc {n : Nat} (hn : n ≤ 10) {l : List Int} (h : Inc n l) : risingR l n = true := by
  rw [risingR, List.all_eq_true]
  intro i hi
  have hi := List.mem_range.1 hi
  obtain ⟨a, ha, han⟩ := h.2 _ (List.getElem_mem hi)
  have e : l.getD i 0 = (a : Int) := by rw [List.getD_eq_getElem?_getD, List.getElem?_eq_getElem hi, ← ha]; rfl
  rw [risingRAt, e, w64 (by omega) (by omega), Bool.and_eq_true, decide_eq_true_eq]
  refine ⟨by omega, ?_⟩
  by_cases h0 : i = 0
  · simp [h0]
  · have hi1 : i - 1 < l.length := by omega
    have e1 : l.getD (i - 1) 0 = l[i - 1] := by rw [List.getD_eq_getElem?_getD, List.getElem?_eq_getElem hi1]; rfl
    have := (List.pairwise_iff_getElem.1 h.1) (i - 1) i hi1 hi (by omega)
    rw [ha] at this
    rw [e1, decide_eq_false (show ¬ (a : Int) ≤ l[i - 1] by omega)]; simp
end Go.Lift

set_option linter.unusedSimpArgs false
set_option linter.unusedVariables false
namespace Go.Lift
open Go Go.Proofs
theorem Pure.wk {P : Program} {f : FuncId} {x y r : AV} {xs : List AV} (hp : Pure P f (y :: xs) r) (h : Wk x y) : Pure P f (x :: xs) r :=
  fun H => ACalls.arg0 (fun w v hr => h H w v hr) (hp H)
theorem wk9 {a b c d e f g i j a' b' c' d' e' f' g' i' j' : AV} (h1 : Wk a a') (h2 : Wk b b') (h3 : Wk c c') (h4 : Wk d d') (h5 : Wk e e') (h6 : Wk f f') (h7 : Wk g g') (h8 : Wk i i') (h9 : Wk j j') : Wk (.agg [a, b, c, d, e, f, g, i, j]) (.agg [a', b', c', d', e', f', g', i', j']) :=
  Wk.agg rfl fun n x y hx hy => by
    match n, hx, hy with
    | 0, hx, hy => cases hx; cases hy; exact h1
    | 1, hx, hy => cases hx; cases hy; exact h2
    | 2, hx, hy => cases hx; cases hy; exact h3
    | 3, hx, hy => cases hx; cases hy; exact h4
    | 4, hx, hy => cases hx; cases hy; exact h5
    | 5, hx, hy => cases hx; cases hy; exact h6
    | 6, hx, hy => cases hx; cases hy; exact h7
    | 7, hx, hy => cases hx; cases hy; exact h8
    | 8, hx, hy => cases hx; cases hy; exact h9
theorem carry_len (h : House) : (carryOf h).length = nT h := by simp [carryOf]
end Go.Lift

set_option linter.unusedSimpArgs false
set_option linter.unusedVariables false
namespace Go.Lift
open Go Go.Proofs
theorem atl_mono {P : Program} : ∀ (t : ATr) {K K' : Env → AHeap → Prop}, (∀ env H, K env H → K' env H) → ∀ {env H}, atl P t K env H → atl P t K' env H := by
  intro t
  induction t with
  | done => intro K K' hK env H h; exact hK _ _ h
  | one o us t ih =>
    intro K K' hK env H h
    simp only [atl, aop1] at h ⊢
    split at h
    · exact aopV_mono (fun r H' h => ⟨h.1, ih hK h.2⟩) h
    · split at h
      · split at h
        · rename_i hb; rw [if_pos hb]; exact aopV_mono (fun r H' h => ⟨h.1, ih hK h.2⟩) h
        · rename_i hb; rw [if_neg hb]; exact ⟨h.1, ih hK h.2⟩
      · exact ⟨h.1, ih hK h.2⟩
      · exact h
  | alt a b iha ihb => intro K K' hK env H h; exact ⟨iha hK h.1, ihb hK h.2⟩
theorem atl_cut {P : Program} {t : ATr} {K : Env → AHeap → Prop} {env : Env} {H : AHeap} (I : Env → AHeap → Prop) (h : atl P t I env H) (hI : ∀ env H, I env H → K env H) : atl P t K env H := atl_mono t hI h
/-- What a step on the heap leaves as it was. -/
structure Step (H H' : AHeap) (b : Nat) : Prop where
  keep : ∀ c o, c ≠ b → H c = some o → H' c = some o
  ext : ∀ H0, Ext H0 H → H0 b = none → Ext H0 H'
  grown : ∀ sz H0 v es, Grown sz H0 H v es → Grown sz H0 H' v es
theorem v_alloc' {P : Program} {R : AV → AHeap → Prop} {H : AHeap} {zs : List AV} (h : ∀ b H', H b = none → H' b = some (.box zs) → Step H H' b → R (.ptr b 0) H') : aopV P (.alloc zs) [] H R :=
  v_alloc fun b hb => h b _ hb (updH_same _ _ _) ⟨fun c o hc ho => by rw [updH_ne _ _ hc]; exact ho, fun H0 e hn => e.upd hn _, fun sz H0 v es g => g.new hb _⟩
theorem v_store' {P : Program} {R : AV → AHeap → Prop} {H : AHeap} {n b off : Nat} {x : AV} {cs : List AV} (hb : H b = some (.box cs)) (hx : x.ok = true) (hl : x.cells.length = n) (hc : ∀ y ∈ x.cells, AV.isCell y = true) (ho : off + n ≤ cs.length)
    (h : ∀ H', H' b = some (.box (placeAt cs off x.cells)) → Step H H' b → R .any H') : aopV P (.store n) [.ptr b off, x] H R := by
  rw [v_store]
  exact ⟨hx, hl, hc, cs, hb, ho, h _ (updH_same _ _ _) ⟨fun c o hc ho => by rw [updH_ne _ _ hc]; exact ho, fun H0 e hn => e.upd hn _, fun sz H0 v es g => g.store hb _⟩⟩
theorem ne_of {H : AHeap} {a b : Nat} {o : AObj} (ha : H a = some o) (hb : H b = none) : a ≠ b := fun e => by subst e; rw [ha] at hb; cases hb
theorem Grown.one {sz : Nat} {H0 H : AHeap} {v : AV} {es : List (List AV)} (g : Grown sz H0 H v es) : v.ok = true ∧ v.cells.length = 1 ∧ ∀ y ∈ v.cells, AV.isCell y = true := by
  refine ⟨g.cellv.1, by rw [g.cellv.2.1]; rfl, ?_⟩
  rw [g.cellv.2.1]; intro y hy; simp at hy; subst hy; exact g.cellv.2.2
/-- The cells of a house, with the lists of the sick, of the touches, of the boilings and of the signs given. -/
def hc4 (h : House) (a b c d : AV) : List AV := [.slice (h.table.women.map eW), .slice (h.table.pieces.map eP), i6 h.table.wrong, a, i6 h.others, i6 h.last, b, c, d]
theorem wkH {x h : House} {a b c d : AV} (ht : x.table = h.table) (ho : x.others = h.others) (hl : x.last = h.last) (ha : Wk a (.slice (eI x.sick))) (hb : Wk b (.slice (x.touches.map eTo))) (hc : Wk c (.slice (x.boiled.map eB))) (hd : Wk d (.slice (x.signs.map eS))) : Wk (.agg (hc4 h a b c d)) (eH x) := by
  unfold eH hc4
  rw [ht, ho, hl]
  exact wk9 (Wk.refl _) (Wk.refl _) (Wk.refl _) ha (Wk.refl _) (Wk.refl _) hb hc hd
def skAt (h : House) (w i : Nat) : Bool := decide (i = w) || decide ((i : Int) ∈ h.sick)
def skUpto (h : House) (w j : Nat) : List Int := ((List.range j).filter (skAt h w)).map Int.ofNat
theorem skUpto_succ (h : House) (w j : Nat) : skUpto h w (j + 1) = skUpto h w j ++ (if skAt h w j = true then [(j : Int)] else []) := by
  rw [skUpto, List.range_succ, List.filter_append, List.map_append, skUpto]
  congr 1
  cases hq : skAt h w j <;> simp [hq]
theorem skUpto_len (h : House) (w j : Nat) : (skUpto h w j).length ≤ j := by
  rw [skUpto, List.length_map]
  exact Nat.le_trans (List.length_filter_le _ _) (by simp)
theorem HSm.sick' {h : House} (hs : HSm h) {sk : List Int} (hl : sk.length ≤ 1073741824) : HSm (reSK h sk) :=
  ⟨hs.women, hs.pieces, hs.marks, hl, hs.touches, hs.boiled, hs.signs⟩
theorem ne_nosigns {h : House} (hv : HV h) (hs : h.signs = []) : truH h [] ≠ [] := by
  obtain ⟨c, hc⟩ := allC_ne hv
  intro h0
  have := (truH_self h c).2 ⟨hc, fun s hm => by rw [hs] at hm; cases hm⟩
  rw [h0] at this; cases this
set_option maxHeartbeats 1000000 in
theorem sicker_law (h : House) (n : Nat) (hn : n < 256) : Pure Tryz.prog 9 [eH h, .int .u8 (n : Int)] (.bool true) := by
  intro H
  refine fn_of hmix fc9 (by simp) ?_
  rw [ienv2]
  simp only [go_sem, reduceIte, reduceCtorEq, Nat.reduceEqDiff, Nat.reduceBEq, Nat.reduceAdd, Nat.reduceMul, Nat.reduceLeDiff, List.getElem?_cons_zero, List.getElem?_cons_succ, bne_self_eq_false, Int.reduceEq, ac9, eH]
  refine v_box _ rfl fun b1 hb1 => ?_
  have e1 := (Ext.refl H).new hb1 (.box [.slice (h.table.women.map eW), .slice (h.table.pieces.map eP), i6 h.table.wrong, .slice (eI h.sick), i6 h.others, i6 h.last, .slice (h.touches.map eTo), .slice (h.boiled.map eB), .slice (h.signs.map eS)])
  simp only [go_sem, reduceIte, reduceCtorEq, Nat.reduceEqDiff, Nat.reduceBEq, Nat.reduceAdd, Nat.reduceMul, Nat.reduceLeDiff, List.getElem?_cons_zero, List.getElem?_cons_succ, bne_self_eq_false, Int.reduceEq]
  refine (ready_c h).go ?_
  cases c1 : readyH h
  · simp only [go_sem, reduceIte, reduceCtorEq, Nat.reduceEqDiff, Nat.reduceBEq, Nat.reduceAdd, Nat.reduceMul, Nat.reduceLeDiff, List.getElem?_cons_zero, List.getElem?_cons_succ, bne_self_eq_false, Int.reduceEq]
    refine awake_c.go ?_
    simp only [go_sem, reduceIte, reduceCtorEq, Nat.reduceEqDiff, Nat.reduceBEq, Nat.reduceAdd, Nat.reduceMul, Nat.reduceLeDiff, List.getElem?_cons_zero, List.getElem?_cons_succ, bne_self_eq_false, Int.reduceEq]
    exact fin_ret 4 (by simp [upd_at]) ⟨_, H, Settle.refl e1, by simp [upd_at], rfl⟩
  obtain ⟨hm, hc⟩ := ready_ok c1
  have hv := hv_of hm.tsm hm.sk hc
  have hnt := nT_le hv.ok
  have hw5 := (checkTable_len hv.tab).1
  by_cases m0 : (h.table.women.length : Int) = 0
  · simp only [go_sem, reduceIte, reduceCtorEq, Nat.reduceEqDiff, Nat.reduceBEq, Nat.reduceAdd, Nat.reduceMul, Nat.reduceLeDiff, List.getElem?_cons_zero, List.getElem?_cons_succ, bne_self_eq_false, Int.reduceEq, take_f', m0]
    refine awake_c.go ?_
    simp only [go_sem, reduceIte, reduceCtorEq, Nat.reduceEqDiff, Nat.reduceBEq, Nat.reduceAdd, Nat.reduceMul, Nat.reduceLeDiff, List.getElem?_cons_zero, List.getElem?_cons_succ, bne_self_eq_false, Int.reduceEq]
    exact fin_ret 4 (by simp [upd_at]) ⟨_, H, Settle.refl e1, by simp [upd_at], rfl⟩
  have hwl : n % h.table.women.length < h.table.women.length := Nat.mod_lt _ (by omega)
  have f1 : IntKind.i64.wrap (n : Int) = (n : Int) := w64 (by omega) (by omega)
  simp only [go_sem, reduceIte, reduceCtorEq, Nat.reduceEqDiff, Nat.reduceBEq, Nat.reduceAdd, Nat.reduceMul, Nat.reduceLeDiff, List.getElem?_cons_zero, List.getElem?_cons_succ, bne_self_eq_false, Int.reduceEq, take_f', m0, f1, ← Int.ofNat_tmod]
  generalize hw : n % h.table.women.length = w at hwl
  refine atl_cut (I := fun env H6 => Ext H H6 ∧ H6 b1 = some (.box [.slice (h.table.women.map eW), .slice (h.table.pieces.map eP), i6 h.table.wrong, .slice (eI h.sick), i6 h.others, i6 h.last, .slice (h.touches.map eTo), .slice (h.boiled.map eB), .slice (h.signs.map eS)]) ∧ env 2 = .ptr b1 0 ∧ env 5 = i6 w ∧ env 133 = .any ∧ ∃ b6 b7, b6 ≠ b7 ∧ b1 ≠ b6 ∧ b1 ≠ b7 ∧ H b6 = none ∧ H b7 = none ∧ env 6 = .ptr b6 0 ∧ env 7 = .ptr b7 0 ∧ H6 b6 = some (.box [.slice (h.table.women.map eW), .slice (h.table.pieces.map eP), i6 h.table.wrong, .slice (eI h.sick), i6 h.others, i6 h.last, .slice (h.touches.map eTo), .slice (h.boiled.map eB), .slice (h.signs.map eS)]) ∧ H6 b7 = some (.box [.slice (h.table.women.map eW), .slice (h.table.pieces.map eP), i6 h.table.wrong, .slice (eI h.sick), i6 h.others, i6 h.last, .slice (h.touches.map eTo), .slice (h.boiled.map eB), .slice (h.signs.map eS)])) ?_ ?_
  · have B1 : updH H b1 (.box [.slice (h.table.women.map eW), .slice (h.table.pieces.map eP), i6 h.table.wrong, .slice (eI h.sick), i6 h.others, i6 h.last, .slice (h.touches.map eTo), .slice (h.boiled.map eB), .slice (h.signs.map eS)]) b1 = some (.box [.slice (h.table.women.map eW), .slice (h.table.pieces.map eP), i6 h.table.wrong, .slice (eI h.sick), i6 h.others, i6 h.last, .slice (h.touches.map eTo), .slice (h.boiled.map eB), .slice (h.signs.map eS)]) := updH_same _ _ _
    generalize updH H b1 (.box [.slice (h.table.women.map eW), .slice (h.table.pieces.map eP), i6 h.table.wrong, .slice (eI h.sick), i6 h.others, i6 h.last, .slice (h.touches.map eTo), .slice (h.boiled.map eB), .slice (h.signs.map eS)]) = H1 at e1 B1 ⊢
    rw [l_alt]
    constructor
    · simp only [go_sem, reduceIte, reduceCtorEq, Nat.reduceEqDiff, Nat.reduceBEq, Nat.reduceAdd, Nat.reduceMul, Nat.reduceLeDiff, List.getElem?_cons_zero, List.getElem?_cons_succ, bne_self_eq_false, Int.reduceEq]
      refine v_alloc' fun b6 H2 hn6 hb6 st6 => ?_
      have n16 := ne_of B1 hn6
      have B1 := st6.keep b1 _ n16 B1
      have e2 := st6.ext H e1 (e1.isNone hn6)
      simp only [go_sem, reduceIte, reduceCtorEq, Nat.reduceEqDiff, Nat.reduceBEq, Nat.reduceAdd, Nat.reduceMul, Nat.reduceLeDiff, List.getElem?_cons_zero, List.getElem?_cons_succ, bne_self_eq_false, Int.reduceEq, B1]
      refine v_alloc' fun b7 H3 hn7 hb7 st7 => ?_
      have n17 := ne_of B1 hn7
      have n67 := ne_of hb6 hn7
      have B1 := st7.keep b1 _ n17 B1
      have hb6 := st7.keep b6 _ n67 hb6
      have e3 := st7.ext H e2 (e2.isNone hn7)
      simp only [go_sem, reduceIte, reduceCtorEq, Nat.reduceEqDiff, Nat.reduceBEq, Nat.reduceAdd, Nat.reduceMul, Nat.reduceLeDiff, List.getElem?_cons_zero, List.getElem?_cons_succ, bne_self_eq_false, Int.reduceEq, B1]
      refine v_store' hb6 rfl rfl (by simp [AV.cells, AV.isCell]) (by simp) fun H4 hc6 st => ?_
      have B1 := st.keep b1 _ n16 B1
      have hb7 := st.keep b7 _ n67.symm hb7
      have e4 := st.ext H e3 (e1.isNone hn6)
      simp only [go_sem, reduceIte, reduceCtorEq, Nat.reduceEqDiff, Nat.reduceBEq, Nat.reduceAdd, Nat.reduceMul, Nat.reduceLeDiff, List.getElem?_cons_zero, List.getElem?_cons_succ, bne_self_eq_false, Int.reduceEq, B1]
      refine v_store' hb7 rfl rfl (by simp [AV.cells, AV.isCell]) (by simp) fun H5 hc7 st => ?_
      have B1 := st.keep b1 _ n17 B1
      have hc6 := st.keep b6 _ n67 hc6
      have e5 := st.ext H e4 (e2.isNone hn7)
      simp only [go_sem, reduceIte, reduceCtorEq, Nat.reduceEqDiff, Nat.reduceBEq, Nat.reduceAdd, Nat.reduceMul, Nat.reduceLeDiff, List.getElem?_cons_zero, List.getElem?_cons_succ, bne_self_eq_false, Int.reduceEq, B1]
      exact ⟨e5, b6, b7, n67, n16, n17, e1.isNone hn6, e2.isNone hn7, rfl, rfl, hc6, hc7⟩
    · simp only [go_sem, reduceIte, reduceCtorEq, Nat.reduceEqDiff, Nat.reduceBEq, Nat.reduceAdd, Nat.reduceMul, Nat.reduceLeDiff, List.getElem?_cons_zero, List.getElem?_cons_succ, bne_self_eq_false, Int.reduceEq]
      refine v_alloc' fun b7 H2 hn7 hb7 st7 => ?_
      have n17 := ne_of B1 hn7
      have B1 := st7.keep b1 _ n17 B1
      have e2 := st7.ext H e1 (e1.isNone hn7)
      simp only [go_sem, reduceIte, reduceCtorEq, Nat.reduceEqDiff, Nat.reduceBEq, Nat.reduceAdd, Nat.reduceMul, Nat.reduceLeDiff, List.getElem?_cons_zero, List.getElem?_cons_succ, bne_self_eq_false, Int.reduceEq, B1]
      refine v_alloc' fun b6 H3 hn6 hb6 st6 => ?_
      have n16 := ne_of B1 hn6
      have n76 := ne_of hb7 hn6
      have B1 := st6.keep b1 _ n16 B1
      have hb7 := st6.keep b7 _ n76 hb7
      have e3 := st6.ext H e2 (e2.isNone hn6)
      simp only [go_sem, reduceIte, reduceCtorEq, Nat.reduceEqDiff, Nat.reduceBEq, Nat.reduceAdd, Nat.reduceMul, Nat.reduceLeDiff, List.getElem?_cons_zero, List.getElem?_cons_succ, bne_self_eq_false, Int.reduceEq, B1]
      refine v_store' hb6 rfl rfl (by simp [AV.cells, AV.isCell]) (by simp) fun H4 hc6 st => ?_
      have B1 := st.keep b1 _ n16 B1
      have hb7 := st.keep b7 _ n76 hb7
      have e4 := st.ext H e3 (e2.isNone hn6)
      simp only [go_sem, reduceIte, reduceCtorEq, Nat.reduceEqDiff, Nat.reduceBEq, Nat.reduceAdd, Nat.reduceMul, Nat.reduceLeDiff, List.getElem?_cons_zero, List.getElem?_cons_succ, bne_self_eq_false, Int.reduceEq, B1]
      refine v_store' hb7 rfl rfl (by simp [AV.cells, AV.isCell]) (by simp) fun H5 hc7 st => ?_
      have B1 := st.keep b1 _ n17 B1
      have hc6 := st.keep b6 _ n76.symm hc6
      have e5 := st.ext H e4 (e1.isNone hn7)
      simp only [go_sem, reduceIte, reduceCtorEq, Nat.reduceEqDiff, Nat.reduceBEq, Nat.reduceAdd, Nat.reduceMul, Nat.reduceLeDiff, List.getElem?_cons_zero, List.getElem?_cons_succ, bne_self_eq_false, Int.reduceEq, B1]
      exact ⟨e5, b6, b7, n76.symm, n16, n17, e2.isNone hn6, e1.isNone hn7, rfl, rfl, hc6, hc7⟩
  clear e1
  rintro env H6 ⟨e6, B1, g2, g5, hN, b6, b7, n67, n16, n17, z6, z7, g6, g7, B6, B7⟩
  simp only [go_sem, reduceIte, reduceCtorEq, Nat.reduceEqDiff, Nat.reduceBEq, Nat.reduceAdd, Nat.reduceMul, Nat.reduceLeDiff, List.getElem?_cons_zero, List.getElem?_cons_succ, bne_self_eq_false, Int.reduceEq, g2, g5, g6, g7, hN, B1, B6, B7]
  refine v_store' B6 rfl rfl (by simp [AV.cells, AV.isCell]) (by simp) fun H7 B6 st => ?_
  have B1 := st.keep b1 _ n16 B1
  have B7 := st.keep b7 _ n67.symm B7
  have e7 := st.ext H e6 z6
  simp only [go_sem, reduceIte, reduceCtorEq, Nat.reduceEqDiff, Nat.reduceBEq, Nat.reduceAdd, Nat.reduceMul, Nat.reduceLeDiff, List.getElem?_cons_zero, List.getElem?_cons_succ, bne_self_eq_false, Int.reduceEq, g2, g5, g6, g7, hN, B1, B6, B7]
  refine v_store' B7 rfl rfl (by simp [AV.cells, AV.isCell]) (by simp) fun H8 B7 st => ?_
  have B1 := st.keep b1 _ n17 B1
  have B6 := st.keep b6 _ n67 B6
  have e8 := st.ext H e7 z7
  simp only [go_sem, reduceIte, reduceCtorEq, Nat.reduceEqDiff, Nat.reduceBEq, Nat.reduceAdd, Nat.reduceMul, Nat.reduceLeDiff, List.getElem?_cons_zero, List.getElem?_cons_succ, bne_self_eq_false, Int.reduceEq, g2, g5, g6, g7, hN, B1, B6, B7]
  refine v_store' B7 rfl rfl (by simp [AV.cells, AV.isCell]) (by simp [placeAt]) fun H9 B7 st => ?_
  have B1 := st.keep b1 _ n17 B1
  have B6 := st.keep b6 _ n67 B6
  have e9 := st.ext H e8 z7
  replace B6 : H9 b6 = some (.box (hc4 h (.slice (eI h.sick)) (.slice (h.touches.map eTo)) (.slice (h.boiled.map eB)) .emp)) := B6
  replace B7 : H9 b7 = some (.box (hc4 h .emp (.slice (h.touches.map eTo)) (.slice (h.boiled.map eB)) .emp)) := B7
  simp only [go_sem, reduceIte, reduceCtorEq, Nat.reduceEqDiff, Nat.reduceBEq, Nat.reduceAdd, Nat.reduceMul, Nat.reduceLeDiff, List.getElem?_cons_zero, List.getElem?_cons_succ, bne_self_eq_false, Int.reduceEq, g2, g5, g6, g7, hN]
  refine x_for h.table.women.length (fun j env H1 => Ext H H1 ∧ H1 b1 = some (.box [.slice (h.table.women.map eW), .slice (h.table.pieces.map eP), i6 h.table.wrong, .slice (eI h.sick), i6 h.others, i6 h.last, .slice (h.touches.map eTo), .slice (h.boiled.map eB), .slice (h.signs.map eS)]) ∧ H1 b6 = some (.box (hc4 h (.slice (eI h.sick)) (.slice (h.touches.map eTo)) (.slice (h.boiled.map eB)) .emp)) ∧ (∃ v, H1 b7 = some (.box (hc4 h v (.slice (h.touches.map eTo)) (.slice (h.boiled.map eB)) .emp)) ∧ Grown 1 H H1 v (eI (skUpto h w j))) ∧ env 2 = .ptr b1 0 ∧ env 5 = i6 w ∧ env 6 = .ptr b6 0 ∧ env 7 = .ptr b7 0 ∧ env 8 = i6 j ∧ env 133 = .any)
    ⟨e9, B1, B6, ⟨.emp, B7, .inl ⟨rfl, rfl⟩⟩, by simp [upd_at, g2], by simp [upd_at, g5], by simp [upd_at, g6], by simp [upd_at, g7], by simp [upd_at], by simp [upd_at, hN]⟩ ?_
  clear e6 e7 e8 e9 B1 B6 B7 g2 g5 g6 g7 hN st
  rintro j env H1 hj ⟨hE, B1, B6, ⟨v, B7, hG⟩, g2, g5, g6, g7, g8, hN⟩
  have hsl := skUpto_len h w j
  by_cases hlt : (j : Int) < (h.table.women.length : Int)
  · have hlt' : j < h.table.women.length := by omega
    by_cases q1 : (j : Int) = (w : Int)
    · have hq : skAt h w j = true := by rw [skAt, decide_eq_true (show j = w by omega)]; rfl
      have e : j = w := by omega
      subst e
      simp only [go_sem, reduceIte, reduceCtorEq, Nat.reduceEqDiff, Nat.reduceBEq, Nat.reduceAdd, Nat.reduceMul, Nat.reduceLeDiff, List.getElem?_cons_zero, List.getElem?_cons_succ, bne_self_eq_false, Int.reduceEq, g2, g5, g6, g7, g8, hN, B1, B6, B7, hc4, take_f', hlt, d_bs1]
      refine v_append hG hE rfl (eI_good _) (one_good (j : Int)) (one_cell (j : Int)) (by simp; omega) (by simp; omega) ?_
      intro v' H2 hg' he' hk'
      have K1 := hk'.box hG B1
      have K6 := hk'.box hG B6
      have K7 := hk'.box hG B7
      simp only [go_sem, reduceIte, reduceCtorEq, Nat.reduceEqDiff, Nat.reduceBEq, Nat.reduceAdd, Nat.reduceMul, Nat.reduceLeDiff, List.getElem?_cons_zero, List.getElem?_cons_succ, bne_self_eq_false, Int.reduceEq, g2, g5, g6, g7, g8, hN]
      refine v_store' K7 hg'.one.1 hg'.one.2.1 hg'.one.2.2 (by simp [hc4]) fun H3 K7 st => ?_
      have K1 := st.keep b1 _ n17 K1
      have K6 := st.keep b6 _ n67 K6
      have he3 := st.ext H he' z7
      have hg3 := st.grown _ _ _ _ hg'
      simp only [go_sem, reduceIte, reduceCtorEq, Nat.reduceEqDiff, Nat.reduceBEq, Nat.reduceAdd, Nat.reduceMul, Nat.reduceLeDiff, List.getElem?_cons_zero, List.getElem?_cons_succ, bne_self_eq_false, Int.reduceEq, g2, g5, g6, g7, g8, hN, K1, K6, hc4, wsucc (show j < 4611686018427387904 by omega), hlt']
      refine ⟨he3, v', by rw [K7, hg'.cellv.2.1]; rfl, ?_⟩
      rw [skUpto_succ, hq, if_pos rfl, eI_app]; exact hg3
    · simp only [go_sem, reduceIte, reduceCtorEq, Nat.reduceEqDiff, Nat.reduceBEq, Nat.reduceAdd, Nat.reduceMul, Nat.reduceLeDiff, List.getElem?_cons_zero, List.getElem?_cons_succ, bne_self_eq_false, Int.reduceEq, g2, g5, g6, g7, g8, hN, B1, B6, B7, hc4, take_f', hlt, q1]
      refine (has_c h.sick j hv.ok.sk).go ?_
      by_cases q2 : (j : Int) ∈ h.sick
      · have hq : skAt h w j = true := by rw [skAt, decide_eq_true q2]; simp
        simp only [go_sem, reduceIte, reduceCtorEq, Nat.reduceEqDiff, Nat.reduceBEq, Nat.reduceAdd, Nat.reduceMul, Nat.reduceLeDiff, List.getElem?_cons_zero, List.getElem?_cons_succ, bne_self_eq_false, Int.reduceEq, g2, g5, g6, g7, g8, hN, B1, B6, B7, hc4, take_f', q2, d_bs1]
        refine v_append hG hE rfl (eI_good _) (one_good (j : Int)) (one_cell (j : Int)) (by simp; omega) (by simp; omega) ?_
        intro v' H2 hg' he' hk'
        have K1 := hk'.box hG B1
        have K6 := hk'.box hG B6
        have K7 := hk'.box hG B7
        simp only [go_sem, reduceIte, reduceCtorEq, Nat.reduceEqDiff, Nat.reduceBEq, Nat.reduceAdd, Nat.reduceMul, Nat.reduceLeDiff, List.getElem?_cons_zero, List.getElem?_cons_succ, bne_self_eq_false, Int.reduceEq, g2, g5, g6, g7, g8, hN]
        refine v_store' K7 hg'.one.1 hg'.one.2.1 hg'.one.2.2 (by simp [hc4]) fun H3 K7 st => ?_
        have K1 := st.keep b1 _ n17 K1
        have K6 := st.keep b6 _ n67 K6
        have he3 := st.ext H he' z7
        have hg3 := st.grown _ _ _ _ hg'
        simp only [go_sem, reduceIte, reduceCtorEq, Nat.reduceEqDiff, Nat.reduceBEq, Nat.reduceAdd, Nat.reduceMul, Nat.reduceLeDiff, List.getElem?_cons_zero, List.getElem?_cons_succ, bne_self_eq_false, Int.reduceEq, g2, g5, g6, g7, g8, hN, K1, K6, hc4, wsucc (show j < 4611686018427387904 by omega), hlt']
        refine ⟨he3, v', by rw [K7, hg'.cellv.2.1]; rfl, ?_⟩
        rw [skUpto_succ, hq, if_pos rfl, eI_app]; exact hg3
      · have hq : skAt h w j = false := by rw [skAt, decide_eq_false q2, decide_eq_false (show ¬ j = w by omega)]; rfl
        simp only [go_sem, reduceIte, reduceCtorEq, Nat.reduceEqDiff, Nat.reduceBEq, Nat.reduceAdd, Nat.reduceMul, Nat.reduceLeDiff, List.getElem?_cons_zero, List.getElem?_cons_succ, bne_self_eq_false, Int.reduceEq, g2, g5, g6, g7, g8, hN, B1, B6, B7, hc4, q2, wsucc (show j < 4611686018427387904 by omega), hlt']
        refine ⟨hE, v, rfl, ?_⟩
        rw [skUpto_succ, hq, if_neg (by simp), List.append_nil]; exact hG
  have : j = h.table.women.length := by omega
  subst this
  have hinc : Inc h.table.women.length (skUpto h w h.table.women.length) := filter_inc _ _
  have hr : risingOK (skUpto h w h.table.women.length) h.table.women.length = true := by
    rw [rising_eq _ _ (by omega) (by omega)]; exact rising_inc (by omega) hinc
  have xm : HSm (reS h []) := hm.signs' (by simp)
  have ym : HSm (reSK (reS h []) (skUpto h w h.table.women.length)) := xm.sick' (by omega)
  have xc := check_nil hc
  have yc : checkHouse (reSK (reS h []) (skUpto h w h.table.women.length)) = 0 := check_reSK xc hr
  have xv := hv_of xm.tsm xm.sk xc
  have yv := hv_of ym.tsm ym.sk yc
  have ax := ask_zero xc (ne_nosigns xv rfl)
  have ay := ask_zero yc (ne_nosigns yv rfl)
  have hsub : ∀ a ∈ h.sick, a ∈ skUpto h w h.table.women.length := by
    intro a ha
    obtain ⟨i, rfl, hi⟩ := sick_women hc hv ha
    simp only [skUpto, List.mem_map, List.mem_filter, List.mem_range]
    exact ⟨i, ⟨hi, by rw [skAt, decide_eq_true ha]; simp⟩, rfl⟩
  have hone := sicker_one hv yv.ok hsub
  have wx : Wk (.agg (hc4 h (.slice (eI h.sick)) (.slice (h.touches.map eTo)) (.slice (h.boiled.map eB)) .emp)) (eH (reS h [])) := wkH rfl rfl rfl (Wk.refl _) (Wk.refl _) (Wk.refl _) Wk.emp
  have wy : Wk (.agg (hc4 h v (.slice (h.touches.map eTo)) (.slice (h.boiled.map eB)) .emp)) (eH (reSK (reS h []) (skUpto h w h.table.women.length))) := wkH rfl rfl rfl hG.wk (Wk.refl _) (Wk.refl _) Wk.emp
  have lx : (carryOf (reS h [])).length = nT h := carry_len _
  have ly : (carryOf (reSK (reS h []) (skUpto h w h.table.women.length))).length = nT h := carry_len _
  simp only [go_sem, reduceIte, reduceCtorEq, Nat.reduceEqDiff, Nat.reduceBEq, Nat.reduceAdd, Nat.reduceMul, Nat.reduceLeDiff, List.getElem?_cons_zero, List.getElem?_cons_succ, bne_self_eq_false, Int.reduceEq, g2, g5, g6, g7, g8, hN, B1, B6, B7, hc4, take_f', hlt]
  refine ((house_c _ xm).wk wx).go ?_
  simp only [go_sem, reduceIte, reduceCtorEq, Nat.reduceEqDiff, Nat.reduceBEq, Nat.reduceAdd, Nat.reduceMul, Nat.reduceLeDiff, List.getElem?_cons_zero, List.getElem?_cons_succ, bne_self_eq_false, Int.reduceEq]
  refine (carry_c _ xm.tsm xm.sk).go ?_
  simp only [go_sem, reduceIte, reduceCtorEq, Nat.reduceEqDiff, Nat.reduceBEq, Nat.reduceAdd, Nat.reduceMul, Nat.reduceLeDiff, List.getElem?_cons_zero, List.getElem?_cons_succ, bne_self_eq_false, Int.reduceEq, listR, ax, g2, g5, g6, g7, g8, hN, B1, B6, B7, hc4]
  refine ((house_c _ ym).wk wy).go ?_
  simp only [go_sem, reduceIte, reduceCtorEq, Nat.reduceEqDiff, Nat.reduceBEq, Nat.reduceAdd, Nat.reduceMul, Nat.reduceLeDiff, List.getElem?_cons_zero, List.getElem?_cons_succ, bne_self_eq_false, Int.reduceEq]
  refine (carry_c _ ym.tsm ym.sk).go ?_
  simp only [go_sem, reduceIte, reduceCtorEq, Nat.reduceEqDiff, Nat.reduceBEq, Nat.reduceAdd, Nat.reduceMul, Nat.reduceLeDiff, List.getElem?_cons_zero, List.getElem?_cons_succ, bne_self_eq_false, Int.reduceEq, listR, ay, g2, g5, g6, g7, g8, hN, B1, B6, B7]
  refine (thingsR_c h).go ?_
  rw [thingsW_ok hv.ok]
  simp only [go_sem, reduceIte, reduceCtorEq, Nat.reduceEqDiff, Nat.reduceBEq, Nat.reduceAdd, Nat.reduceMul, Nat.reduceLeDiff, List.getElem?_cons_zero, List.getElem?_cons_succ, bne_self_eq_false, Int.reduceEq, lx, ly, g2, g5, g6, g7, g8, hN, B1, B6, B7, bne_self_eq_false]
  generalize hy : reSK (reS h []) (skUpto h w h.table.women.length) = y at *
  refine x_for (nT h) (fun j env H1 => Ext H H1 ∧ env 9 = .slice (eI (carryOf (reS h []))) ∧ env 11 = .slice (eI (carryOf y)) ∧ env 13 = i6 j ∧ env 133 = .any)
    ⟨hE, by simp [upd_at], by simp [upd_at], by simp [upd_at], by simp [upd_at, hN]⟩ ?_
  clear hE B1 B6 B7 g2 g5 g6 g7 g8 hN hlt hG
  rintro j env H1 hj ⟨hE, g9, g11, g13, hN⟩
  by_cases hlt : (j : Int) < (nT h : Int)
  · have hlt' : j < nT h := by omega
    have gx : (eI (carryOf (reS h [])))[j]? = some [i6 (carryAt (reS h []) j)] := by rw [eI_get (by omega)]; simp [carryOf]
    have gy : (eI (carryOf y))[j]? = some [i6 (carryAt y j)] := by rw [eI_get (by omega)]; simp [carryOf]
    by_cases u1 : carryAt (reS h []) j = 1
    · have v1 := (hone j).1 u1
      simp only [go_sem, reduceIte, reduceCtorEq, Nat.reduceEqDiff, Nat.reduceBEq, Nat.reduceAdd, Nat.reduceMul, Nat.reduceLeDiff, List.getElem?_cons_zero, List.getElem?_cons_succ, bne_self_eq_false, Int.reduceEq, g9, g11, g13, hN, lx, hlt, gx, gy, u1, v1, wsucc (show j < 4611686018427387904 by omega), hlt']
      exact hE
    · by_cases v2 : carryAt y j = 2
      · have u2 := (hone j).2 v2
        simp only [go_sem, reduceIte, reduceCtorEq, Nat.reduceEqDiff, Nat.reduceBEq, Nat.reduceAdd, Nat.reduceMul, Nat.reduceLeDiff, List.getElem?_cons_zero, List.getElem?_cons_succ, bne_self_eq_false, Int.reduceEq, g9, g11, g13, hN, lx, hlt, gx, gy, u2, v2, wsucc (show j < 4611686018427387904 by omega), hlt']
        exact hE
      · simp only [go_sem, reduceIte, reduceCtorEq, Nat.reduceEqDiff, Nat.reduceBEq, Nat.reduceAdd, Nat.reduceMul, Nat.reduceLeDiff, List.getElem?_cons_zero, List.getElem?_cons_succ, bne_self_eq_false, Int.reduceEq, g9, g11, g13, hN, lx, hlt, gx, gy, u1, v2, wsucc (show j < 4611686018427387904 by omega), hlt']
        exact hE
  · simp only [go_sem, reduceIte, reduceCtorEq, Nat.reduceEqDiff, Nat.reduceBEq, Nat.reduceAdd, Nat.reduceMul, Nat.reduceLeDiff, List.getElem?_cons_zero, List.getElem?_cons_succ, bne_self_eq_false, Int.reduceEq, g9, g11, g13, hN, lx, hlt]
    refine awake_c.go ?_
    simp only [go_sem, reduceIte, reduceCtorEq, Nat.reduceEqDiff, Nat.reduceBEq, Nat.reduceAdd, Nat.reduceMul, Nat.reduceLeDiff, List.getElem?_cons_zero, List.getElem?_cons_succ, bne_self_eq_false, Int.reduceEq]
    exact fin_ret 4 (by simp [upd_at, hN]) ⟨_, H, Settle.refl hE, by simp [upd_at], rfl⟩
end Go.Lift

