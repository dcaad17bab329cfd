/- Part 26 of the proof: the tools and contracts. Conditions: none. -/
import Derived.Test.YthnfcdkiaihfcaaGreatP25
import Derived.Test.YthnfcdkiaihfcaaGreatProg
set_option maxRecDepth 100000
set_option linter.unusedVariables false
namespace Go.Lift
open Go Go.Proofs
def cert18 : Nat → Option Cert := fun
  | 3 => some ⟨[0, 1, 2, 3, 4, 5, 6, 7, 8, 9, 10, 11, 12, 13], .done, [[], [0], [], [2], [2, 3], [0, 1, 2, 3, 4], [], [6], [], [8], [6, 7, 8, 9], [6, 7, 8, 9, 10], [0, 1, 2, 3, 4, 5, 8, 9], [0, 1, 2, 3, 4, 5, 6, 7, 8, 9, 10, 11, 12]]⟩
  | 7 => some ⟨[0, 1, 2, 3, 4, 5, 6, 7, 8, 9, 10, 11, 12], .done, [[], [0], [], [], [0, 1, 3], [0, 1, 2, 3, 4], [], [0, 1, 2, 3, 4, 5, 6], [], [], [0, 1, 2, 3, 4, 5, 6, 7, 9], [0, 1, 2, 3, 4, 5, 6, 7, 8, 9, 10], [0, 1, 2, 3, 4, 5, 6, 7, 8, 9, 10, 11]]⟩
  | _ => none
def ac18 : ACode :=(.seq (.ops [uO 3 .box 0, oA 6 .mov [kF]]) (.seq (.seq (.ops [uO 15 lT9 3, uO 16 (.call 35) 15, uO 17 .not 16, uM 18 17, gO 19 lT9 3 18 false, gO 20 (.call 25) 19 18 false, oG 21 bE [.t 20, (kI 0)] 18 false, oA 22 .pick [.t 18, kT, .t 21]]) (.cond (.t 22) (.seq (.ops [oA 23 (.call 20) [], uM 6 23]) .ret) .skip)) (.seq (.draw [(false, uM 24 1), (false, uO 25 (.conv .i64) 24), (false, uO 26 fA5 3), (false, uO 27 lF 26), (false, oA 28 bA [.t 27, (kI 1)]), (false, uB 29 (.bin .rem) 25 28), (false, uM 30 2), (false, uO 31 (.conv .i64) 30), (false, uO 32 lT9 3), (false, uO 33 (.call 25) 32), (false, uB 34 (.bin .rem) 31 33), (false, uO 35 (.bslice 1) 34), (false, uM 7 29), (false, uM 8 35)] .done) (.seq (.ops [uO 37 lT9 3, uO 38 (.call 22) 37, uM 39 7, uB 40 (.call 44) 38 39, uM 36 40, uO 41 x0 36, uO 42 x1 36, uM 9 41, uM 10 42]) (.seq (.ops [uO 44 lT9 3, uO 45 (.call 22) 44, uM 46 7, uB 47 (.call 58) 45 46, uM 43 47, uO 48 x0 43, uO 49 x1 43, uM 11 48, uM 12 49]) (.seq (.ops [uO 51 lT9 3, uO 52 (.call 22) 51, uO 53 (.call 23) 52, uM 50 53, uO 54 x0 50, uO 55 x1 50, uM 13 54, uM 14 55]) (.seq (.seq (.draw [(false, uO 56 lT9 3), (false, uO 57 (.call 22) 56), (false, uM 58 7), (false, uM 59 8), (false, uO 60 (.call 39) 59), (false, oA 61 (.call 52) [.t 57, .t 58, .t 60, (kI 1)]), (false, uO 62 lT9 3), (false, uO 63 (.call 22) 62), (false, uM 64 7), (false, uM 65 8), (false, uO 66 (.call 39) 65), (false, oA 67 (.call 59) [.t 63, .t 64, .t 66, (kI 1)]), (false, uB 68 (.binb .neq) 61 67)] .done) (.cond (.t 68) (.seq (.ops [oA 6 .mov [kF]]) .ret) .skip)) (.seq (.seq (.ops [uM 69 10, oA 70 bN [.t 69, (kI 0)]]) (.cond (.t 70) (.seq (.ops [uM 71 10, oA 72 bE [.t 71, (kI 11)], uM 73 72, gM 74 12 73 true, gM 75 10 73 true, gB 76 bE 74 75 73 true, oA 77 .pick [.t 73, .t 76, kF], uM 78 77, gM 79 14 78 true, gM 80 10 78 true, gB 81 bE 79 80 78 true, oA 82 .pick [.t 78, .t 81, kF], uM 83 82, oG 84 (.call 20) [] 83 true, oA 85 .pick [.t 83, .t 84, kF], uM 6 85]) .ret) .skip)) (.seq (.seq (.ops [uM 86 14, oA 87 bN [.t 86, (kI 0)], uM 88 87, gM 89 9 88 false, gO 90 .len 89 88 false, oG 91 bE [.t 90, (kI 0)] 88 false, gM 92 13 88 false, gO 93 .len 92 88 false, oG 94 bE [.t 93, (kI 0)] 88 false, gB 95 (.binb .neq) 91 94 88 false, oA 96 .pick [.t 88, kT, .t 95]]) (.cond (.t 96) (.seq (.ops [oA 6 .mov [kF]]) .ret) .skip)) (.seq (.ops [uM 97 9, uO 98 .len 97, oA 99 (.bin .gtr) [.t 98, (kI 1)], uM 100 99, gM 101 12 100 false, oG 102 bE [.t 101, (kI 0)] 100 false, gM 103 102 100 false, gM 104 9 103 true, gM 105 11 103 true, gB 106 (.call 28) 104 105 103 true, oG 107 .pick [.t 103, .t 106, kF] 100 false, oA 108 .pick [.t 100, kT, .t 107], uM 109 108, gM 110 12 109 true, oG 111 bE [.t 110, (kI 0)] 109 true, gM 112 111 109 true, gM 113 11 112 true, gO 114 .len 113 112 true, oG 115 (.bin .gtr) [.t 114, (kI 1)] 112 true, oG 116 .pick [.t 112, .t 115, kF] 109 true, gM 117 116 109 true, gM 118 12 117 false, oG 119 bE [.t 118, (kI 10)] 117 false, oG 120 .pick [.t 117, kT, .t 119] 109 true, gM 121 120 109 true, gM 122 9 121 false, gO 123 .len 122 121 false, gM 124 11 121 false, gO 125 .len 124 121 false, gB 126 bE 123 125 121 false, oG 127 .pick [.t 121, kT, .t 126] 109 true, oA 128 .pick [.t 109, .t 127, kF], uM 129 128, oG 130 (.call 20) [] 129 true, oA 131 .pick [.t 129, .t 130, kF], uM 6 131]) .ret))))))))))
theorem fc18 : fnC Tryz.prog 18 cert18 = some (132, [.tmp 6], ac18) := by kernel_rfl
end Go.Lift
set_option linter.unusedSimpArgs false
set_option linter.unusedVariables false
namespace Go.Lift
open Go Go.Proofs
def beforeL : List Int → List Int → Bool
  | a :: xs, b :: bs => if a = b then beforeL xs bs else decide (a < b)
  | [], bs => decide (0 < bs.length)
  | _ :: _, [] => false
def shorterL (a b : List Int) : Bool := decide (a.length < b.length) || (decide (a.length = b.length) && beforeL a b)
end Go.Lift

set_option linter.unusedSimpArgs false
set_option linter.unusedVariables false
namespace Go.Lift
open Go Go.Proofs
theorem own_woman {h : House} (hv : HV h) {c : Course} (hc : courseOK h c = true) {i : Nat} (hi : i < h.table.pieces.length) : ∃ w : Nat, c.owners.getD i 0 = (w : Int) ∧ w < h.table.women.length := by
  simp only [courseOK, Bool.and_eq_true] at hc
  obtain ⟨h1, _⟩ := (isTruthT_iff hv.tab _).1 hc.1
  obtain ⟨h3, h4, h5⟩ := allO_owner (checkTable_len hv.tab).2 h1
  obtain ⟨w, hw, hwl⟩ := h5 i hi
  refine ⟨w, ?_, hwl⟩
  rw [← hw, pad7_get _ _ (by omega)]
theorem pad_get {h : House} (hv : HV h) {c : Course} (hc : courseOK h c = true) {i : Nat} (hi : i < h.table.pieces.length) : (pad7 c.owners).getD i 0 = c.owners.getD i 0 := by
  have := (courseOK_len hc).1
  rw [pad7_get _ _ (by omega)]
end Go.Lift

set_option linter.unusedSimpArgs false
set_option linter.unusedVariables false
namespace Go.Lift
open Go Go.Proofs
theorem thin_sm {h : House} (c1 : thinH h = true) : HSm h := by
  rw [thinH, Bool.and_eq_true] at c1; exact short_sm c1.1
end Go.Lift

set_option linter.unusedSimpArgs false
set_option linter.unusedVariables false
namespace Go.Lift
open Go Go.Proofs
theorem before_irr : ∀ a : List Int, beforeL a a = false
  | [] => rfl
  | a :: xs => by rw [beforeL, if_pos rfl, before_irr xs]
theorem before_trans : ∀ a b c : List Int, beforeL a b = true → beforeL b c = true → beforeL a c = true
  | [], b, [], _, h2 => by
    cases b with
    | nil => exact h2
    | cons b bs => simp [beforeL] at h2
  | [], _, c :: cs, _, _ => by simp [beforeL]
  | a :: xs, [], _, h1, _ => by simp [beforeL] at h1
  | a :: xs, b :: bs, [], _, h2 => by simp [beforeL] at h2
  | a :: xs, b :: bs, c :: cs, h1, h2 => by
    simp only [beforeL] at h1 h2 ⊢
    by_cases e1 : a = b
    · subst e1
      rw [if_pos rfl] at h1
      by_cases e2 : a = c
      · rw [if_pos e2] at h2 ⊢; exact before_trans xs bs cs h1 h2
      · rw [if_neg e2] at h2 ⊢; exact h2
    · rw [if_neg e1, decide_eq_true_eq] at h1
      by_cases e2 : b = c
      · subst e2; rw [if_neg e1]; exact decide_eq_true h1
      · rw [if_neg e2, decide_eq_true_eq] at h2
        rw [if_neg (by omega)]; exact decide_eq_true (by omega)
theorem before_total : ∀ a b : List Int, beforeL a b = true ∨ beforeL b a = true ∨ a = b
  | [], [] => .inr (.inr rfl)
  | [], _ :: _ => .inl (by simp [beforeL])
  | _ :: _, [] => .inr (.inl (by simp [beforeL]))
  | a :: xs, b :: bs => by
    simp only [beforeL]
    by_cases e : a = b
    · subst e
      simp only [if_true]
      rcases before_total xs bs with h | h | h
      · exact .inl h
      · exact .inr (.inl h)
      · exact .inr (.inr (by rw [h]))
    · rw [if_neg e, if_neg (fun h => e h.symm)]
      rcases Int.lt_or_gt_of_ne e with h | h
      · exact .inl (decide_eq_true h)
      · exact .inr (.inl (decide_eq_true h))
theorem before_pre : ∀ (p a b : List Int), beforeL (p ++ a) (p ++ b) = beforeL a b
  | [], _, _ => rfl
  | x :: p, a, b => by rw [List.cons_append, List.cons_append, beforeL, if_pos rfl, before_pre p]
theorem shorter_iff (a b : List Int) : shorterL a b = true ↔ a.length < b.length ∨ (a.length = b.length ∧ beforeL a b = true) := by
  simp [shorterL]
theorem shorter_irr (a : List Int) : shorterL a a = false := by
  rw [Bool.eq_false_iff, Ne, shorter_iff, before_irr]
  rintro (h | h)
  · omega
  · cases h.2
theorem shorter_trans {a b c : List Int} (h1 : shorterL a b = true) (h2 : shorterL b c = true) : shorterL a c = true := by
  rw [shorter_iff] at *
  rcases h1 with h1 | h1 <;> rcases h2 with h2 | h2
  · exact .inl (by omega)
  · exact .inl (by omega)
  · exact .inl (by omega)
  · exact .inr ⟨by omega, before_trans _ _ _ h1.2 h2.2⟩
theorem shorter_asym {a b : List Int} (h : shorterL a b = true) : shorterL b a = false := by
  rw [Bool.eq_false_iff]
  intro h2
  have := shorter_trans h h2
  rw [shorter_irr] at this; cases this
theorem shorter_total {a b : List Int} (h1 : shorterL a b = false) (h2 : shorterL b a = false) : a = b := by
  rw [Bool.eq_false_iff, Ne, shorter_iff] at h1 h2
  have hl : a.length = b.length := by omega
  rcases before_total a b with h | h | h
  · exact absurd (.inr ⟨hl, h⟩) h1
  · exact absurd (.inr ⟨hl.symm, h⟩) h2
  · exact h
/-- The least one that will do, of some lists. -/
structure IsMin (ok : List Int → Bool) (D : List Int → Prop) (x : List Int) : Prop where
  dom : D x
  good : ok x = true
  least : ∀ y, D y → ok y = true → shorterL y x = false
theorem IsMin.congr {ok ok' : List Int → Bool} {D D' : List Int → Prop} {x : List Int} (h : IsMin ok D x) (hd : ∀ y, D y ↔ D' y) (hok : ∀ y, D y → ok y = ok' y) : IsMin ok' D' x :=
  ⟨(hd x).1 h.dom, by rw [← hok x h.dom]; exact h.good, fun y hy ho => h.least y ((hd y).2 hy) (by rw [hok y ((hd y).2 hy)]; exact ho)⟩
theorem find_min {ok : List Int → Bool} {l : List (List Int)} (hs : l.Pairwise fun a b => shorterL a b = true) {x : List Int} (h : l.find? ok = some x) : IsMin ok (· ∈ l) x := by
  obtain ⟨h1, l1, bs, rfl, h2⟩ := List.find?_eq_some_iff_append.1 h
  refine ⟨by simp, h1, fun y hy ho => ?_⟩
  rw [List.pairwise_append] at hs
  rcases List.mem_append.1 hy with hy | hy
  · have := h2 y hy; rw [ho] at this; cases this
  · rcases List.mem_cons.1 hy with rfl | hy
    · exact shorter_irr _
    · exact shorter_asym ((List.pairwise_cons.1 hs.2.1).1 y hy)
theorem tryAll_find {ok : List Int → Bool} : ∀ {l : List (List Int)} {x : List Int} (old : List Int), l.find? ok = some x → tryAll ok old l = x
  | [], x, _, h => by cases h
  | y :: l, x, old, h => by
    rw [tryAll]
    rw [List.find?_cons] at h
    cases hy : ok y
    · rw [hy] at h; simp only [Bool.false_eq_true, if_false]; exact tryAll_find y h
    · rw [hy] at h; cases h; rfl
theorem any_find {α : Type} {ok : α → Bool} {l : List α} (h : l.any ok = true) : ∃ x, l.find? ok = some x := by
  cases hf : l.find? ok with
  | some x => exact ⟨x, rfl⟩
  | none =>
    rw [List.any_eq_true] at h
    obtain ⟨x, hx, ho⟩ := h
    exact absurd ho (List.find?_eq_none.1 hf x hx)
def Inc (n : Nat) (x : List Int) : Prop := x.Pairwise (· < ·) ∧ ∀ a ∈ x, ∃ i : Nat, a = (i : Int) ∧ i < n
def IncF (n : Nat) : Nat → List Int → Prop
  | _, [] => True
  | f, a :: l => ∃ i : Nat, a = (i : Int) ∧ f ≤ i ∧ i < n ∧ IncF n (i + 1) l
theorem IncF.room {n : Nat} : ∀ {l : List Int} {f : Nat}, IncF n f l → l ≠ [] → f + l.length ≤ n
  | [], _, _, h => absurd rfl h
  | a :: l, f, h, _ => by
    obtain ⟨i, rfl, h1, h2, h3⟩ := h
    cases l with
    | nil => simp; omega
    | cons b l => have := h3.room (by simp); simp only [List.length_cons] at this ⊢; omega
theorem incF_iff {n : Nat} : ∀ {l : List Int} {f : Nat}, IncF n f l ↔ l.Pairwise (· < ·) ∧ ∀ a ∈ l, ∃ i : Nat, a = (i : Int) ∧ f ≤ i ∧ i < n
  | [], f => by simp [IncF]
  | a :: l, f => by
    rw [List.pairwise_cons]
    constructor
    · rintro ⟨i, rfl, h1, h2, h3⟩
      obtain ⟨k1, k2⟩ := (incF_iff (l := l) (f := i + 1)).1 h3
      refine ⟨⟨fun b hb => ?_, k1⟩, fun b hb => ?_⟩
      · obtain ⟨j, rfl, h4, h5⟩ := k2 b hb; omega
      · rcases List.mem_cons.1 hb with rfl | hb
        · exact ⟨i, rfl, h1, h2⟩
        · obtain ⟨j, rfl, h4, h5⟩ := k2 b hb; exact ⟨j, rfl, by omega, h5⟩
    · rintro ⟨⟨h1, h2⟩, h3⟩
      obtain ⟨i, rfl, h4, h5⟩ := h3 a List.mem_cons_self
      refine ⟨i, rfl, h4, h5, incF_iff.2 ⟨h2, fun b hb => ?_⟩⟩
      obtain ⟨j, rfl, h6, h7⟩ := h3 b (List.mem_cons_of_mem _ hb)
      have := h1 _ hb
      exact ⟨j, rfl, by omega, h7⟩
theorem inc_incF {n : Nat} {l : List Int} : Inc n l ↔ IncF n 0 l := by
  rw [incF_iff, Inc]; simp
theorem mem_combos (n : Nat) : ∀ (k f : Nat) (pre x : List Int), x ∈ combos n k pre f ↔ ∃ s, x = pre ++ s ∧ s.length = k ∧ IncF n f s
  | 0, f, pre, x => by
    simp only [combos, List.mem_singleton]
    constructor
    · rintro rfl; exact ⟨[], by simp, rfl, trivial⟩
    · rintro ⟨s, rfl, h, _⟩; rw [List.length_eq_zero_iff.1 h]; simp
  | k + 1, f, pre, x => by
    simp only [combos, List.mem_flatMap, List.mem_range]
    constructor
    · rintro ⟨j, hj, hx⟩
      obtain ⟨s, rfl, h1, h2⟩ := (mem_combos n k _ _ _).1 hx
      exact ⟨((f + j : Nat) : Int) :: s, by simp, by simp [h1], f + j, rfl, by omega, by omega, h2⟩
    · rintro ⟨s, rfl, h1, h2⟩
      cases s with
      | nil => simp at h1
      | cons a s =>
        obtain ⟨i, rfl, h3, h4, h5⟩ := h2
        simp only [List.length_cons] at h1
        have hroom : i + k < n := by
          rcases Nat.eq_zero_or_pos s.length with h | h
          · omega
          · have := h5.room (List.length_pos_iff.1 h); omega
        refine ⟨i - f, by omega, (mem_combos n k _ _ _).2 ⟨s, ?_, by omega, ?_⟩⟩
        · rw [show f + (i - f) = i by omega]; simp
        · rw [show f + (i - f) = i by omega]; exact h5
theorem combos_sorted (n : Nat) : ∀ (k f : Nat) (pre : List Int), (combos n k pre f).Pairwise fun a b => beforeL a b = true
  | 0, _, _ => by simp [combos]
  | k + 1, f, pre => by
    rw [combos, List.pairwise_flatMap]
    refine ⟨fun j _ => combos_sorted n k _ _, ?_⟩
    refine List.Pairwise.imp ?_ List.pairwise_lt_range
    intro a b hab x hx y hy
    obtain ⟨s1, rfl, _⟩ := (mem_combos n k _ _ _).1 hx
    obtain ⟨s2, rfl, _⟩ := (mem_combos n k _ _ _).1 hy
    rw [List.append_assoc, List.append_assoc, before_pre]
    simp only [List.singleton_append, beforeL]
    rw [if_neg (by omega)]; exact decide_eq_true (by omega)
def combosAll (n : Nat) : List (List Int) := (List.range (n + 1)).flatMap fun k => combos n k [] 0
theorem by_length {f : Nat → List (List Int)} {m : Nat} (h1 : ∀ k, (f k).Pairwise fun a b => beforeL a b = true) (h2 : ∀ k, ∀ x ∈ f k, x.length = k) : ((List.range m).flatMap f).Pairwise fun a b => shorterL a b = true := by
  rw [List.pairwise_flatMap]
  refine ⟨fun k _ => ?_, ?_⟩
  · refine List.Pairwise.imp_of_mem ?_ (h1 k)
    intro a b ha hb hab
    rw [shorter_iff]
    exact .inr ⟨by rw [h2 k a ha, h2 k b hb], hab⟩
  · refine List.Pairwise.imp ?_ List.pairwise_lt_range
    intro a b hab x hx y hy
    rw [shorter_iff]
    exact .inl (by rw [h2 a x hx, h2 b y hy]; exact hab)
theorem combosAll_sorted (n : Nat) : (combosAll n).Pairwise fun a b => shorterL a b = true :=
  by_length (fun k => combos_sorted n k 0 []) fun k x hx => by
    obtain ⟨s, rfl, h, _⟩ := (mem_combos n k 0 [] x).1 hx
    simpa using h
theorem mem_combosAll {n : Nat} {x : List Int} : x ∈ combosAll n ↔ Inc n x := by
  simp only [combosAll, List.mem_flatMap, List.mem_range, mem_combos, inc_incF, List.nil_append]
  constructor
  · rintro ⟨k, _, s, rfl, _, h⟩; exact h
  · intro h
    refine ⟨x.length, ?_, x, rfl, rfl, h⟩
    rcases Nat.eq_zero_or_pos x.length with h0 | h0
    · omega
    · have := h.room (List.length_pos_iff.1 h0); omega
theorem tryAll_min {ok : List Int → Bool} {n : Nat} {x : List Int} (hx : Inc n x) (ho : ok x = true) : IsMin ok (Inc n) (tryAll ok [] (combosAll n)) := by
  obtain ⟨y, hy⟩ := any_find (ok := ok) (l := combosAll n) (List.any_eq_true.2 ⟨x, mem_combosAll.2 hx, ho⟩)
  rw [tryAll_find [] hy]
  exact (find_min (combosAll_sorted n) hy).congr (fun y => mem_combosAll) (fun _ _ => rfl)
theorem bitsUpto_sorted (m p : Nat) : (bitsUpto m p).Pairwise (· < ·) := by
  rw [bitsUpto]
  refine List.Pairwise.map Int.ofNat (fun a b hab => ?_) (List.Pairwise.filter _ List.pairwise_lt_range)
  exact Int.ofNat_lt.2 hab
theorem bits_inc {n m : Nat} (hn : n ≤ 62) (hm : m < 2 ^ n) : Inc n (bitsL m) := by
  rw [bitsL_of hn hm]
  refine ⟨bitsUpto_sorted m n, fun a ha => ?_⟩
  simp only [bitsUpto, List.mem_map, List.mem_filter, List.mem_range] at ha
  obtain ⟨i, h, rfl⟩ := ha
  exact ⟨i, rfl, h.1⟩
end Go.Lift

set_option linter.unusedSimpArgs false
set_option linter.unusedVariables false
namespace Go.Lift
open Go Go.Proofs
theorem check_zero (h : House) : checkHouse h = 0 ↔ ¬ bigH h ∧ askErr h.table = 0 ∧ ¬ badH h ∧ allH h ∧ ¬ 2000 < manyH h := by
  unfold checkHouse
  by_cases h1 : bigH h
  · simp [h1]
  by_cases h2 : askErr h.table = 0
  rotate_left
  · simp [h1, h2]
  by_cases h3 : badH h
  · simp [h1, h2, h3]
  by_cases h4 : allH h
  rotate_left
  · simp [h1, h2, h3, h4]
  by_cases h5 : 2000 < manyH h
  · simp [h1, h2, h3, h4, h5]
  · simp [h1, h2, h3, h4, h5]
theorem mem_bitsL (m i : Nat) : (i : Int) ∈ bitsL m ↔ i < 62 ∧ m.testBit i = true := by
  simp only [bitsL, bitsUpto, List.mem_map, List.mem_filter, List.mem_range]
  constructor
  · rintro ⟨j, hj, e⟩
    have : j = i := by
      have : ((j : Nat) : Int) = (i : Int) := e
      omega
    subst this; exact hj
  · intro hi; exact ⟨i, hi, rfl⟩
end Go.Lift

set_option linter.unusedSimpArgs false
set_option linter.unusedVariables false
namespace Go.Lift
open Go Go.Proofs
def Zer (c : List Bool) : Prop := ∀ i, c.getD i false = false
theorem getD_set (c : List Bool) (k i : Nat) (b : Bool) (hk : k < c.length) : (c.set k b).getD i false = if i = k then b else c.getD i false := by
  simp only [List.getD_eq_getElem?_getD, List.getElem?_set, hk, if_true]
  by_cases h : k = i
  · subst h; simp
  · rw [if_neg h, if_neg (fun e => h e.symm)]
theorem startOf_get (h : House) (o : List Int) : ∀ j, j ≤ 10 → ∀ i, (startOf h o j).getD i false = (decide (i < j) && decide (o.getD i 0 ∈ h.sick))
  | 0, _, i => by
    simp only [startOf, List.range_zero, List.foldl_nil, List.getD_eq_getElem?_getD, List.getElem?_replicate]
    split <;> simp
  | j + 1, hj, i => by
    have e : startOf h o (j + 1) = sickAt h o (startOf h o j) j := range_fold _ _ _
    rw [e, sickAt, getD_set _ _ _ _ (by rw [startOf_len]; omega), startOf_get h o j (by omega)]
    by_cases hi : i = j
    · subst hi; simp
    · rw [if_neg hi]
      by_cases h1 : i < j
      · simp [h1, show i < j + 1 by omega]
      · simp [h1, show ¬ i < j + 1 by omega]
theorem boilOf_get (keys : List (Int × Int)) (k : Int) (c : List Bool) (hc : c.length = 10) : ∀ j, j ≤ 10 → ∀ i, (boilOf keys k c j).getD i false = (c.getD i false && !(decide (i < j) && decide (((i : Int), k) ∈ keys)))
  | 0, _, i => by simp [boilOf]
  | j + 1, hj, i => by
    have e : boilOf keys k c (j + 1) = boilAt keys k (boilOf keys k c j) j := range_fold _ _ _
    have ih := boilOf_get keys k c hc j (by omega)
    rw [e, boilAt]
    by_cases hk : ((j : Int), k) ∈ keys
    · rw [if_pos hk, getD_set _ _ _ _ (by rw [boilOf_len keys k c j hc]; omega), ih]
      by_cases hi : i = j
      · subst hi; simp [hk]
      · rw [if_neg hi]
        by_cases h1 : i < j
        · simp [h1, show i < j + 1 by omega]
        · simp [h1, show ¬ i < j + 1 by omega]
    · rw [if_neg hk, ih]
      by_cases hi : i = j
      · subst hi; simp [hk]
      · by_cases h1 : i < j
        · simp [h1, show i < j + 1 by omega]
        · simp [h1, show ¬ i < j + 1 by omega]
def tA (h : House) (i : Nat) : Nat := (h.touches.getD i default).a.toNat
def tB (h : House) (i : Nat) : Nat := (h.touches.getD i default).b.toNat
theorem touchAt_get (h : House) (hrs : List Int) (k : Int) (c : List Bool) (i n : Nat) (ha : tA h i < c.length) (hb : tB h i < c.length) :
    (touchAt h hrs k c i).getD n false = (c.getD n false || (decide (hrs.getD i 0 = k) && (c.getD (tA h i) false || c.getD (tB h i) false) && (decide (n = tA h i) || decide (n = tB h i)))) := by
  have e : touchAt h hrs k c i = if hrs.getD i 0 = k ∧ (c.getD (tA h i) false || c.getD (tB h i) false) = true then (c.set (tA h i) true).set (tB h i) true else c := rfl
  rw [e]
  by_cases hc : hrs.getD i 0 = k ∧ (c.getD (tA h i) false || c.getD (tB h i) false) = true
  · rw [if_pos hc, getD_set _ _ _ _ (by rw [List.length_set]; exact hb), getD_set _ _ _ _ ha, hc.2, decide_eq_true hc.1]
    by_cases h1 : n = tB h i
    · simp [h1]
    · by_cases h2 : n = tA h i
      · simp [h1, h2]
      · simp [h1, h2]
  · rw [if_neg hc]
    by_cases h1 : hrs.getD i 0 = k
    · have h2 : (c.getD (tA h i) false || c.getD (tB h i) false) = false := by
        rw [Bool.eq_false_iff]; exact fun h2 => hc ⟨h1, h2⟩
      rw [h2]; simp
    · rw [decide_eq_false h1]; simp
theorem tAB {h : House} (hk : HOK h) {i : Nat} (hi : i < h.touches.length) : tA h i < 10 ∧ tB h i < 10 := by
  obtain ⟨a, b, h1, h2, h3, h4⟩ := hk.touch _ (List.getElem_mem hi)
  have e : h.touches.getD i default = h.touches[i] := by simp [List.getD_eq_getElem?_getD, hi]
  rw [tA, tB, e, h1, h2]
  exact ⟨by omega, by omega⟩
theorem zer_touch {h : House} (hk : HOK h) {hrs : List Int} {k : Int} {c : List Bool} (hc : c.length = 10) (hz : Zer c) : ∀ j, j ≤ h.touches.length → Zer (touchOf h hrs k c j)
  | 0, _ => hz
  | j + 1, hj => fun n => by
    have e : touchOf h hrs k c (j + 1) = touchAt h hrs k (touchOf h hrs k c j) j := range_fold _ _ _
    have hab := tAB hk (show j < h.touches.length by omega)
    have hl := touchOf_len h hrs k c j hc
    have ih := zer_touch hk hc hz (hrs := hrs) (k := k) j (by omega)
    rw [e, touchAt_get _ _ _ _ _ _ (by omega) (by omega), ih, ih, ih]; simp
theorem hoursOf_succ (h : House) (o hrs : List Int) (keys : List (Int × Int)) (j : Nat) : hoursOf h o hrs keys (j + 1) = hourAt h hrs keys (hoursOf h o hrs keys j) j := range_fold _ _ _
theorem zer_boil {h : House} (hk : HOK h) {o hrs : List Int} {keys : List (Int × Int)} {k : Nat} (hb : ∀ i, (hoursOf h o hrs keys k).getD i false = true → i < nT h ∧ ((i : Int), (k : Int)) ∈ keys) : Zer (hoursOf h o hrs keys (k + 1)) := by
  have hl := hoursOf_len h o hrs keys k
  rw [hoursOf_succ, hourAt]
  refine zer_touch hk (boilOf_len _ _ _ _ hl) (fun i => ?_) _ (Nat.le_refl _)
  rw [boilOf_get _ _ _ hl _ (nT_le hk)]
  cases hi : (hoursOf h o hrs keys k).getD i false
  · rfl
  · obtain ⟨h1, h2⟩ := hb i hi
    rw [decide_eq_true h1, decide_eq_true h2]; rfl
theorem zer_more {h : House} (hk : HOK h) {o hrs : List Int} {keys : List (Int × Int)} {k : Nat} (hz : Zer (hoursOf h o hrs keys k)) : ∀ m, Zer (hoursOf h o hrs keys (k + m))
  | 0 => hz
  | m + 1 => zer_boil hk fun i hi => by
    have := zer_more hk hz m i
    rw [show (hoursOf h o hrs keys (k.add m)).getD i false = (hoursOf h o hrs keys (k + m)).getD i false from rfl, this] at hi; cases hi
theorem zer_play {h : House} (hk : HOK h) {o hrs : List Int} {keys : List (Int × Int)} {k : Nat} (hkl : k ≤ h.last.toNat + 1) (hz : Zer (hoursOf h o hrs keys k)) : Zer (playOf h o hrs keys) := by
  obtain ⟨m, hm⟩ := Nat.exists_eq_add_of_le hkl
  rw [playOf, hm]; exact zer_more hk hz m
theorem touch_lt {h : House} (hc : checkHouse h = 0) (hk : HOK h) {i : Nat} (hi : i < h.touches.length) : tA h i < nT h ∧ tB h i < nT h := by
  have h4 := (List.all_eq_true.1 ((check_zero h).1 hc).2.2.2.1.1) _ (List.getElem_mem hi)
  simp only [touchOK, Bool.and_eq_true] at h4
  have ha := h4.1.1.1.1.1
  have hb := h4.1.1.1.1.2
  have hn := nT_le hk
  have e : h.touches.getD i default = h.touches[i] := by simp [List.getD_eq_getElem?_getD, hi]
  simp only [thingOK, thingsW_ok hk, decide_eq_true_eq, w64 (x := (nT h : Int) - 1) (by omega) (by omega)] at ha hb
  rw [tA, tB, e]; omega
theorem things_sub {h : House} (hc : checkHouse h = 0) (hk : HOK h) (o hrs : List Int) (keys : List (Int × Int)) : ∀ j i, (hoursOf h o hrs keys j).getD i false = true → i < nT h
  | 0, i, hi => by
    have hp := hk.pcs
    have : hoursOf h o hrs keys 0 = startOf h o h.table.pieces.length := rfl
    rw [this, startOf_get _ _ _ (by omega), Bool.and_eq_true, decide_eq_true_eq] at hi
    have := hi.1
    unfold nT; omega
  | j + 1, i, hi => by
    have hl := hoursOf_len h o hrs keys j
    have ih := things_sub hc hk o hrs keys j
    rw [hoursOf_succ, hourAt] at hi
    have : ∀ m, m ≤ h.touches.length → ∀ i, (touchOf h hrs j (boilOf keys j (hoursOf h o hrs keys j) (nT h)) m).getD i false = true → i < nT h := by
      intro m
      induction m with
      | zero =>
        intro _ i hi
        have e : touchOf h hrs j (boilOf keys j (hoursOf h o hrs keys j) (nT h)) 0 = boilOf keys j (hoursOf h o hrs keys j) (nT h) := rfl
        rw [e, boilOf_get _ _ _ hl _ (nT_le hk), Bool.and_eq_true] at hi
        exact ih i hi.1
      | succ m imh =>
        intro hm i hi
        have e : touchOf h hrs j (boilOf keys j (hoursOf h o hrs keys j) (nT h)) (m + 1) = touchAt h hrs j (touchOf h hrs j (boilOf keys j (hoursOf h o hrs keys j) (nT h)) m) m := range_fold _ _ _
        have hab := tAB hk (show m < h.touches.length by omega)
        have hlt := touch_lt hc hk (show m < h.touches.length by omega)
        have hl2 := touchOf_len h hrs j _ m (boilOf_len keys j _ (nT h) hl)
        rw [e, touchAt_get _ _ _ _ _ _ (by omega) (by omega)] at hi
        simp only [Bool.or_eq_true, Bool.and_eq_true, decide_eq_true_eq] at hi
        rcases hi with hi | ⟨_, rfl | rfl⟩
        · exact imh (by omega) i hi
        · exact hlt.1
        · exact hlt.2
    exact this _ (Nat.le_refl _) i hi
theorem safe_zer {h : House} {c : Course} {more : List Boiling} (hz : Zer (lastOf h c more)) : safeC h more c = true := by
  rw [safeC, List.all_eq_true]
  intro i _
  rw [safeAt, hz i]; rfl
theorem safe_iff (h : House) (more : List Boiling) (c : Course) : safeC h more c = true ↔ ∀ i, i < h.table.pieces.length → (lastOf h c more).getD i false = true → (pad7 c.owners).getD i 0 ∈ h.sick := by
  rw [safeC, List.all_eq_true]
  constructor
  · intro hall i hi ht
    have := hall i (List.mem_range.2 hi)
    rw [safeAt, ht] at this
    simpa using this
  · intro hall i hi
    rw [safeAt]
    cases ht : (lastOf h c more).getD i false
    · rfl
    · rw [decide_eq_true (hall i (List.mem_range.1 hi) ht)]; rfl
theorem safeP_iff (h : House) (more : List Boiling) : safeP h more = true ↔ ∀ c ∈ truH h [], safeC h more c = true := by
  rw [safeP, List.all_eq_true]
/-- All that is boiled in an hour keeps all safe. -/
theorem boil_all {h : House} (hc : checkHouse h = 0) (hk : HOK h) {k : Nat} (hkl : (k : Int) ≤ h.last) {l : List Int} (hl : ∀ i, i < nT h → (i : Int) ∈ l) (c : Course) : safeC h (atOf l k) c = true := by
  refine safe_zer (zer_play hk (k := k + 1) (by omega) (zer_boil hk fun i hi => ?_))
  have hi := things_sub hc hk _ _ _ _ i hi
  refine ⟨hi, ?_⟩
  simp only [List.map_append, List.mem_append, atOf, List.map_map, List.mem_map]
  exact .inr ⟨(i : Int), hl i hi, rfl⟩
end Go.Lift

set_option linter.unusedSimpArgs false
set_option linter.unusedVariables false
namespace Go.Lift
open Go Go.Proofs
theorem hour_nat {h : House} {k : Int} (hh : hourOK h k = true) : ∃ n : Nat, k = (n : Int) ∧ (n : Int) ≤ h.last := by
  rw [hourOK, decide_eq_true_eq] at hh
  exact ⟨k.toNat, by omega, by omega⟩
theorem boil_full {h : House} (hc : checkHouse h = 0) (hk : HOK h) {k : Int} (hh : hourOK h k = true) : safeP h (atOf (bitsL (2 ^ nT h - 1)) k) = true := by
  obtain ⟨n, rfl, hn⟩ := hour_nat hh
  have := nT_le hk
  rw [safeP_iff]
  refine fun c _ => boil_all hc hk hn (fun i hi => (mem_bitsL _ _).2 ⟨by omega, ?_⟩) c
  rw [Nat.testBit_two_pow_sub_one]; exact decide_eq_true hi
theorem boil_min {h : House} (hc : checkHouse h = 0) (hk : HOK h) {k : Int} (hh : hourOK h k = true) : IsMin (fun x => safeP h (atOf x k)) (Inc (nT h)) (boilOf' h k) := by
  have hn := nT_le hk
  exact tryAll_min (ok := fun x => safeP h (atOf x k)) (n := nT h) (bits_inc (m := 2 ^ nT h - 1) (by omega) (by have : 1 ≤ 2 ^ nT h := Nat.one_le_two_pow; omega)) (boil_full hc hk hh)
theorem inc_len {n : Nat} {x : List Int} (h : Inc n x) : x.length ≤ n := by
  rcases Nat.eq_zero_or_pos x.length with h0 | h0
  · omega
  · have := (inc_incF.1 h).room (List.length_pos_iff.1 h0); omega
def Ord (n : Nat) (x : List Int) : Prop := ∀ a ∈ x, ∃ i : Nat, a = (i : Int) ∧ i < n
theorem mem_orders (n : Nat) : ∀ (k : Nat) (pre x : List Int), x ∈ orders n k pre ↔ ∃ s, x = pre ++ s ∧ s.length = k ∧ Ord n s
  | 0, pre, x => by
    simp only [orders, List.mem_singleton]
    constructor
    · rintro rfl; exact ⟨[], by simp, rfl, fun a ha => by cases ha⟩
    · rintro ⟨s, rfl, h, _⟩; rw [List.length_eq_zero_iff.1 h]; simp
  | k + 1, pre, x => by
    simp only [orders, List.mem_flatMap, List.mem_range]
    constructor
    · rintro ⟨j, hj, hx⟩
      obtain ⟨s, rfl, h1, h2⟩ := (mem_orders n k _ _).1 hx
      refine ⟨(j : Int) :: s, by simp, by simp [h1], fun a ha => ?_⟩
      rcases List.mem_cons.1 ha with rfl | ha
      · exact ⟨j, rfl, hj⟩
      · exact h2 a ha
    · rintro ⟨s, rfl, h1, h2⟩
      cases s with
      | nil => simp at h1
      | cons a s =>
        obtain ⟨i, rfl, hi⟩ := h2 a List.mem_cons_self
        exact ⟨i, hi, (mem_orders n k _ _).2 ⟨s, by simp, by simpa using h1, fun b hb => h2 b (List.mem_cons_of_mem _ hb)⟩⟩
theorem orders_sorted (n : Nat) : ∀ (k : Nat) (pre : List Int), (orders n k pre).Pairwise fun a b => beforeL a b = true
  | 0, _ => by simp [orders]
  | k + 1, pre => by
    rw [orders, List.pairwise_flatMap]
    refine ⟨fun j _ => orders_sorted n k _, ?_⟩
    refine List.Pairwise.imp ?_ List.pairwise_lt_range
    intro a b hab x hx y hy
    obtain ⟨s1, rfl, _⟩ := (mem_orders n k _ _).1 hx
    obtain ⟨s2, rfl, _⟩ := (mem_orders n k _ _).1 hy
    rw [List.append_assoc, List.append_assoc, before_pre]
    simp only [List.singleton_append, beforeL]
    rw [if_neg (by omega)]; exact decide_eq_true (by omega)
def OrdD (h : House) (k : Int) (x : List Int) : Prop := x.length ≤ orderN h k ∧ Ord (nT h) x
theorem orders_len {n k : Nat} {x : List Int} (hx : x ∈ orders n k []) : x.length = k := by
  obtain ⟨s, rfl, h1, _⟩ := (mem_orders n k [] x).1 hx
  simpa using h1
theorem mem_orderL {h : House} {k : Int} {x : List Int} : x ∈ orderL h k ↔ OrdD h k x := by
  simp only [orderL, orderAll, List.mem_flatMap, List.mem_range, mem_orders, List.nil_append, OrdD]
  constructor
  · rintro ⟨m, hm, s, rfl, h1, h2⟩; exact ⟨by omega, h2⟩
  · rintro ⟨h1, h2⟩; exact ⟨x.length, by omega, x, rfl, rfl, h2⟩
theorem orderL_sorted (h : House) (k : Int) : (orderL h k).Pairwise fun a b => shorterL a b = true :=
  by_length (fun k => orders_sorted _ k []) fun k x hx => orders_len hx
theorem order_min {h : House} {k : Int} (ha : ((orderL h k).any fun x => safeP h (rowOf x k)) = true) : IsMin (fun x => safeP h (rowOf x k)) (OrdD h k) (orderOf h k) := by
  obtain ⟨y, hy⟩ := any_find ha
  rw [orderOf, tryAll_find [] hy]
  exact (find_min (orderL_sorted h k) hy).congr (fun y => mem_orderL) (fun _ _ => rfl)
theorem thing_of {h : House} (hk : HOK h) {x : List Int} : x.all (thingOK h) = true ↔ Ord (nT h) x := by
  have hn := nT_le hk
  rw [List.all_eq_true]
  simp only [thingOK, thingsW_ok hk, w64 (x := (nT h : Int) - 1) (by omega) (by omega), decide_eq_true_eq]
  constructor
  · intro hall a ha
    have := hall a ha
    exact ⟨a.toNat, by omega, by omega⟩
  · intro hall a ha
    obtain ⟨i, rfl, hi⟩ := hall a ha
    omega
theorem longest_val {h : House} (hk : HOK h) {k : Int} (hh : hourOK h k = true) : longestOf h k = if h.last - k + 1 < 3 then h.last - k + 1 else 3 := by
  obtain ⟨n, rfl, hn⟩ := hour_nat hh
  obtain ⟨m, h1, h2⟩ := hk.last
  rw [longestOf, w64 (x := h.last - (n : Int)) (by omega) (by omega), w64 (x := h.last - (n : Int) + 1) (by omega) (by omega)]
theorem orderN_val {h : House} (hk : HOK h) {k : Int} (hh : hourOK h k = true) : (orderN h k : Int) = longestOf h k ∧ orderN h k ≤ 3 ∧ 1 ≤ orderN h k := by
  obtain ⟨n, rfl, hn⟩ := hour_nat hh
  obtain ⟨m, h1, h2⟩ := hk.last
  rw [orderN, longest_val hk hh]
  split <;> omega
end Go.Lift

set_option linter.unusedSimpArgs false
set_option linter.unusedVariables false
namespace Go.Lift
open Go Go.Proofs
theorem ask_ok {h : House} {f : Bool} (he : askErrH h f = 0) : checkHouse h = 0 ∧ f = true ∧ truH h [] ≠ [] := by
  unfold askErrH at he
  by_cases h1 : checkHouse h = 0
  · rw [if_pos h1] at he
    cases f
    · simp at he
    · refine ⟨h1, rfl, fun h2 => ?_⟩
      rw [if_pos rfl, if_pos h2] at he; cases he
  · rw [if_neg h1] at he; exact absurd he h1
theorem boilOf_len' {h : House} (hc : checkHouse h = 0) (hk : HOK h) {k : Int} (hh : hourOK h k = true) : (boilOf' h k).length ≤ 10 := by
  have h1 := inc_len (boil_min hc hk hh).dom
  have h2 := nT_le hk
  omega
end Go.Lift

set_option linter.unusedSimpArgs false
set_option linter.unusedVariables false
namespace Go.Lift
open Go Go.Proofs
theorem isWhose_iff {h : House} (ht : truH h [] ≠ []) (w : Nat) : isWhose h w = true ↔ ∃ c ∈ truH h [], harmedP h w c = true := by
  rw [isWhose, verdictOf, decide_eq_true_eq]
  have hpos : 0 < (truH h []).length := List.length_pos_iff.2 ht
  have key : (∃ c ∈ truH h [], harmedP h w c = true) ↔ (truH h []).countP (harmedP h w) ≠ 0 := by
    rw [Ne, List.countP_eq_zero]
    constructor
    · rintro ⟨x, hx, hp⟩ hall; exact hall x hx hp
    · intro hne; exact Classical.byContradiction fun hno => hne fun x hx hp => hno ⟨x, hx, hp⟩
  rw [key]
  by_cases h1 : (truH h []).countP (harmedP h w) = (truH h []).length
  · rw [if_pos h1]
    exact ⟨fun _ => by omega, fun _ => by decide⟩
  · rw [if_neg h1]
    by_cases h2 : (truH h []).countP (harmedP h w) = 0
    · rw [if_pos h2]; simp [h2]
    · rw [if_neg h2]; exact ⟨fun _ => h2, fun _ => by decide⟩
theorem harmedP_iff (h : House) (w : Int) (c : Course) : harmedP h w c = true ↔ ∃ i, i < h.table.pieces.length ∧ (lastOf h c []).getD i false = true ∧ (pad7 c.owners).getD i 0 = w ∧ ¬ (pad7 c.owners).getD i 0 ∈ h.sick := by
  rw [harmedP, List.any_eq_true]
  constructor
  · rintro ⟨i, hi, hh⟩
    simp only [harmedAt, Bool.and_eq_true, decide_eq_true_eq, Bool.not_eq_true', decide_eq_false_iff_not] at hh
    exact ⟨i, List.mem_range.1 hi, hh.1.1, hh.1.2, hh.2⟩
  · rintro ⟨i, hi, h1, h2, h3⟩
    refine ⟨i, List.mem_range.2 hi, ?_⟩
    simp only [harmedAt, Bool.and_eq_true, decide_eq_true_eq, Bool.not_eq_true', decide_eq_false_iff_not]
    exact ⟨⟨h1, h2⟩, h3⟩
theorem mem_whoseS (h : House) (w : Int) : w ∈ whoseS h ↔ ∃ n : Nat, w = (n : Int) ∧ n < h.table.women.length ∧ isWhose h n = true := by
  simp only [whoseS, whoseUpto, List.mem_map, List.mem_filter, List.mem_range]
  constructor
  · rintro ⟨n, ⟨h1, h2⟩, rfl⟩; exact ⟨n, rfl, h1, h2⟩
  · rintro ⟨n, rfl, h1, h2⟩; exact ⟨n, ⟨h1, h2⟩, rfl⟩
theorem whose_nil {h : House} (hv : HV h) (ht : truH h [] ≠ []) : whoseS h = [] ↔ safeP h [] = true := by
  rw [safeP_iff]
  constructor
  · intro hw c hc
    rw [safe_iff]
    intro i hi hl
    apply Classical.byContradiction
    intro hs
    have hok := tru_ok hv hc
    obtain ⟨w, h1, h2⟩ := own_woman hv hok hi
    have : (w : Int) ∈ whoseS h := (mem_whoseS h w).2 ⟨w, rfl, h2, (isWhose_iff ht w).2 ⟨c, hc, (harmedP_iff _ _ _).2 ⟨i, hi, hl, by rw [pad_get hv hok hi, h1], hs⟩⟩⟩
    rw [hw] at this; cases this
  · intro hall
    rw [List.eq_nil_iff_forall_not_mem]
    intro w hw
    obtain ⟨n, rfl, h1, h2⟩ := (mem_whoseS h w).1 hw
    obtain ⟨c, hc, hp⟩ := (isWhose_iff ht n).1 h2
    obtain ⟨i, hi, hl, _, hs⟩ := (harmedP_iff _ _ _).1 hp
    exact hs ((safe_iff _ _ _).1 (hall c hc) i hi hl)
theorem boil_nil {h : House} (hc : checkHouse h = 0) (hk : HOK h) {k : Int} (hh : hourOK h k = true) : boilOf' h k = [] ↔ safeP h [] = true := by
  have hm := boil_min hc hk hh
  constructor
  · intro he; have := hm.good; rw [he] at this; exact this
  · intro hs
    have := hm.least [] ⟨List.Pairwise.nil, fun a ha => by cases ha⟩ hs
    rw [Bool.eq_false_iff, Ne, shorter_iff] at this
    rw [← List.length_eq_zero_iff]
    apply Classical.byContradiction
    intro hn; exact this (.inl (by simp; omega))
theorem rowOf_one {k : Int} (hk : IntKind.i64.wrap k = k) (a : Int) : rowOf [a] k = atOf [a] k := by
  simp [rowOf, atOf, hk]
theorem wrap_hour {h : House} (hk : HOK h) {k : Int} (hh : hourOK h k = true) : IntKind.i64.wrap k = k := by
  obtain ⟨n, rfl, hn⟩ := hour_nat hh
  obtain ⟨m, h1, h2⟩ := hk.last
  exact w64 (by omega) (by omega)
theorem orderE_ask {h : House} {k : Int} (ha : askErrH h (hourOK h k) = 0) : (orderE h k = 0 ∧ ((orderL h k).any fun x => safeP h (rowOf x k)) = true) ∨ (orderE h k = 10 ∧ ((orderL h k).any fun x => safeP h (rowOf x k)) = false) := by
  rw [orderE, if_pos ha]
  cases hq : ((orderL h k).any fun x => safeP h (rowOf x k))
  · exact .inr ⟨rfl, rfl⟩
  · exact .inl ⟨rfl, rfl⟩
theorem any_of_dom {h : House} {k : Int} {x : List Int} (hd : OrdD h k x) (hs : safeP h (rowOf x k) = true) : ((orderL h k).any fun x => safeP h (rowOf x k)) = true :=
  List.any_eq_true.2 ⟨x, mem_orderL.2 hd, hs⟩
theorem one_zero {h : House} {k : Int} (hh : hourOK h k = true) (ha : askErrH h (hourOK h k) = 0) (hs : safeP h [] = true) : orderE h k = 0 ∧ orderOf h k = [] := by
  have hd : OrdD h k [] := ⟨by simp, fun a ha => by cases ha⟩
  have hany := any_of_dom hd (x := []) hs
  refine ⟨?_, ?_⟩
  · rcases orderE_ask ha with h1 | h1
    · exact h1.1
    · rw [hany] at h1; cases h1.2
  · have := (order_min hany).least [] hd hs
    rw [Bool.eq_false_iff, Ne, shorter_iff] at this
    rw [← List.length_eq_zero_iff]
    apply Classical.byContradiction
    intro hn; exact this (.inl (by simp; omega))
theorem inc_one {n : Nat} {x : List Int} (h1 : x.length = 1) : Inc n x ↔ Ord n x := by
  obtain ⟨a, rfl⟩ := List.length_eq_one_iff.1 h1
  exact ⟨fun h => h.2, fun h => ⟨by simp, h⟩⟩
theorem one_one {h : House} (hc : checkHouse h = 0) (hk : HOK h) {k : Int} (hh : hourOK h k = true) (ha : askErrH h (hourOK h k) = 0) (h1 : (boilOf' h k).length = 1) : orderE h k = 0 ∧ orderOf h k = boilOf' h k := by
  have hm := boil_min hc hk hh
  have hw := wrap_hour hk hh
  have hn := orderN_val hk hh
  have hns : safeP h [] = false := by
    rw [Bool.eq_false_iff]; intro hs
    rw [(boil_nil hc hk hh).2 hs] at h1; cases h1
  obtain ⟨a, hb⟩ := List.length_eq_one_iff.1 h1
  have hrow : safeP h (rowOf (boilOf' h k) k) = true := by
    have := hm.good
    rw [hb] at this ⊢
    rw [rowOf_one hw]; exact this
  have hd : OrdD h k (boilOf' h k) := ⟨by omega, (inc_one h1).1 hm.dom⟩
  have hany := any_of_dom hd hrow
  have om := order_min hany
  refine ⟨?_, ?_⟩
  · rcases orderE_ask ha with h1 | h1
    · exact h1.1
    · rw [hany] at h1; cases h1.2
  · have l1 := om.least _ hd hrow
    have hol : (orderOf h k).length = 1 := by
      have h2 : ¬ (boilOf' h k).length < (orderOf h k).length := fun hlt => by
        rw [Bool.eq_false_iff] at l1; exact l1 ((shorter_iff _ _).2 (.inl hlt))
      have h3 : orderOf h k ≠ [] := fun he => by
        have := om.good
        simp only [he] at this
        rw [show rowOf [] k = [] from rfl, hns] at this; cases this
      have := List.length_pos_iff.2 h3
      omega
    obtain ⟨b, hob⟩ := List.length_eq_one_iff.1 hol
    have hat : safeP h (atOf (orderOf h k) k) = true := by
      have := om.good
      simp only [hob] at this ⊢
      rw [← rowOf_one hw]; exact this
    have l2 := hm.least _ ((inc_one hol).2 om.dom.2) hat
    exact shorter_total l2 l1
theorem one_two {h : House} (hc : checkHouse h = 0) (hk : HOK h) {k : Int} (hh : hourOK h k = true) (ha : askErrH h (hourOK h k) = 0) (h1 : 1 < (boilOf' h k).length) : orderE h k = 10 ∨ (orderE h k = 0 ∧ 1 < (orderOf h k).length) := by
  have hm := boil_min hc hk hh
  have hw := wrap_hour hk hh
  rcases orderE_ask ha with h2 | h2
  · refine .inr ⟨h2.1, ?_⟩
    have om := order_min h2.2
    apply Classical.byContradiction
    intro hn
    have hcase : (orderOf h k).length = 0 ∨ (orderOf h k).length = 1 := by omega
    rcases hcase with h0 | h0
    · have := om.good
      simp only [List.length_eq_zero_iff.1 h0] at this
      have hs : safeP h [] = true := this
      rw [(boil_nil hc hk hh).2 hs] at h1; simp at h1
    · have hat : safeP h (atOf (orderOf h k) k) = true := by
        obtain ⟨b, hob⟩ := List.length_eq_one_iff.1 h0
        have := om.good
        simp only [hob] at this ⊢
        rw [← rowOf_one hw]; exact this
      have := hm.least _ ((inc_one h0).2 om.dom.2) hat
      rw [Bool.eq_false_iff, Ne, shorter_iff] at this
      exact this (.inl (by omega))
  · exact .inl h2.1
end Go.Lift

set_option linter.unusedSimpArgs false
set_option linter.unusedVariables false
namespace Go.Lift
open Go Go.Proofs
/-- The hour with a number. -/
def hourK (h : House) (n : Nat) : Int := ((n % (h.last.toNat + 1) : Nat) : Int)
theorem hourK_ok {h : House} (hk : HOK h) (n : Nat) : hourOK h (hourK h n) = true := by
  obtain ⟨m, h1, h2⟩ := hk.last
  rw [hourOK, hourK, decide_eq_true_eq]
  have := Nat.mod_lt n (show 0 < h.last.toNat + 1 by omega)
  omega
theorem hourK_facts {h : House} (hk : HOK h) {n : Nat} (hn : n < 256) : IntKind.i64.wrap (n : Int) = (n : Int) ∧ ¬ IntKind.i64.wrap (h.last + 1) = 0 ∧ (n : Int).tmod (IntKind.i64.wrap (h.last + 1)) = hourK h n := by
  obtain ⟨m, h1, h2⟩ := hk.last
  have e : IntKind.i64.wrap (h.last + 1) = ((h.last.toNat + 1 : Nat) : Int) := by rw [w64 (by omega) (by omega)]; omega
  refine ⟨w64 (by omega) (by omega), by rw [e]; omega, ?_⟩
  rw [e, hourK, Int.ofNat_tmod]
theorem ready_ok {h : House} (hr : readyH h = true) : HSm h ∧ checkHouse h = 0 := by
  rw [readyH, Bool.and_eq_true, decide_eq_true_eq] at hr
  exact ⟨thin_sm hr.1, hr.2⟩
theorem ask_eleven {h : House} (hc : checkHouse h = 0) {f : Bool} (hf : f = true) (hne : askErrH h f ≠ 0) : askErrH h f = 11 := by
  subst hf
  rw [askErrH, if_pos hc, if_pos rfl] at *
  split
  · rfl
  · rename_i h1; rw [if_neg h1] at hne; exact absurd rfl hne
theorem prove_one {h : House} (hc : checkHouse h = 0) (hk : HOK h) {k : Int} (hh : hourOK h k = true) {i : Nat} (hi : i < nT h) : proveOrderP h k [(i : Int)] 1 = proveBoilP h k [(i : Int)] 1 := by
  have hn := nT_le hk
  have hl := orderN_val hk hh
  have h1 : risingOK [(i : Int)] (thingsW h) = true := by
    rw [thingsW_ok hk]
    simp [risingOK, risingAt, lastAt]
    rw [w64 (by omega) (by omega), w64 (by omega) (by omega)]; omega
  have h2 : ([(i : Int)] : List Int).all (thingOK h) = true := (thing_of hk).2 fun a ha => by
    rw [List.mem_singleton] at ha; exact ⟨i, ha, hi⟩
  have h3 : decide ((([(i : Int)] : List Int).length : Int) ≤ longestOf h k) = true := by rw [decide_eq_true_eq, ← hl.1]; simp; omega
  rw [proveOrderP, proveBoilP, h1, h2, h3, rowOf_one (wrap_hour hk hh), Bool.true_and]
set_option maxHeartbeats 1000000 in
theorem one_law (h : House) (n : Nat) (hn : n < 256) (m : Nat) (hm8 : m < 256) : Pure Tryz.prog 18 [eH h, .int .u8 (n : Int), .int .u8 (m : Int)] (.bool true) := by
  intro H
  refine fn_of hmix fc18 (by simp) ?_
  rw [ienv3]
  simp only [go_sem, reduceIte, reduceCtorEq, Nat.reduceEqDiff, Nat.reduceBEq, Nat.reduceAdd, Nat.reduceMul, Nat.reduceLeDiff, List.getElem?_cons_zero, List.getElem?_cons_succ, bne_self_eq_false, Int.reduceEq, ac18, eH]
  refine v_box _ rfl fun b1 hb1 => ?_
  have e1 := (Ext.refl H).new hb1 (.box [.slice (h.table.women.map eW), .slice (h.table.pieces.map eP), i6 h.table.wrong, .slice (eI h.sick), i6 h.others, i6 h.last, .slice (h.touches.map eTo), .slice (h.boiled.map eB), .slice (h.signs.map eS)])
  simp only [go_sem, reduceIte, reduceCtorEq, Nat.reduceEqDiff, Nat.reduceBEq, Nat.reduceAdd, Nat.reduceMul, Nat.reduceLeDiff, List.getElem?_cons_zero, List.getElem?_cons_succ, bne_self_eq_false, Int.reduceEq]
  refine (ready_c h).go ?_
  cases c1 : readyH h
  · simp only [go_sem, reduceIte, reduceCtorEq, Nat.reduceEqDiff, Nat.reduceBEq, Nat.reduceAdd, Nat.reduceMul, Nat.reduceLeDiff, List.getElem?_cons_zero, List.getElem?_cons_succ, bne_self_eq_false, Int.reduceEq]
    refine awake_c.go ?_
    simp only [go_sem, reduceIte, reduceCtorEq, Nat.reduceEqDiff, Nat.reduceBEq, Nat.reduceAdd, Nat.reduceMul, Nat.reduceLeDiff, List.getElem?_cons_zero, List.getElem?_cons_succ, bne_self_eq_false, Int.reduceEq]
    exact fin_ret 6 (by simp [upd_at]) ⟨_, H, Settle.refl e1, by simp [upd_at], rfl⟩
  obtain ⟨hm, hc⟩ := ready_ok c1
  have hv := hv_of hm.tsm hm.sk hc
  have hnt := nT_le hv.ok
  obtain ⟨f1, f2, f3⟩ := hourK_facts hv.ok hn
  have hh := hourK_ok hv.ok n
  simp only [go_sem, reduceIte, reduceCtorEq, Nat.reduceEqDiff, Nat.reduceBEq, Nat.reduceAdd, Nat.reduceMul, Nat.reduceLeDiff, List.getElem?_cons_zero, List.getElem?_cons_succ, bne_self_eq_false, Int.reduceEq]
  refine (thingsR_c h).go ?_
  rw [thingsW_ok hv.ok]
  by_cases c0 : (nT h : Int) = 0
  · simp only [go_sem, reduceIte, reduceCtorEq, Nat.reduceEqDiff, Nat.reduceBEq, Nat.reduceAdd, Nat.reduceMul, Nat.reduceLeDiff, List.getElem?_cons_zero, List.getElem?_cons_succ, bne_self_eq_false, Int.reduceEq, c0]
    refine awake_c.go ?_
    simp only [go_sem, reduceIte, reduceCtorEq, Nat.reduceEqDiff, Nat.reduceBEq, Nat.reduceAdd, Nat.reduceMul, Nat.reduceLeDiff, List.getElem?_cons_zero, List.getElem?_cons_succ, bne_self_eq_false, Int.reduceEq]
    exact fin_ret 6 (by simp [upd_at]) ⟨_, H, Settle.refl e1, by simp [upd_at], rfl⟩
  have hi : m % nT h < nT h := Nat.mod_lt _ (by omega)
  have f4 : IntKind.i64.wrap (m : Int) = (m : Int) := w64 (by omega) (by omega)
  simp only [go_sem, reduceIte, reduceCtorEq, Nat.reduceEqDiff, Nat.reduceBEq, Nat.reduceAdd, Nat.reduceMul, Nat.reduceLeDiff, List.getElem?_cons_zero, List.getElem?_cons_succ, bne_self_eq_false, Int.reduceEq, c0, f1, f2, f3, f4]
  refine pgo_call (thingsR_c h) ?_
  rw [thingsW_ok hv.ok]
  simp only [go_sem, reduceIte, reduceCtorEq, Nat.reduceEqDiff, Nat.reduceBEq, Nat.reduceAdd, Nat.reduceMul, Nat.reduceLeDiff, List.getElem?_cons_zero, List.getElem?_cons_succ, bne_self_eq_false, Int.reduceEq, c0, f4, ← Int.ofNat_tmod, d_bs1]
  have hc10 : ¬ (10 : Int) = 0 := by omega
  have e1' : [[i6 ((m % nT h : Nat) : Int)]] = eI [((m % nT h : Nat) : Int)] := rfl
  rw [e1']
  refine (house_c h hm).go ?_
  simp only [go_sem, reduceIte, reduceCtorEq, Nat.reduceEqDiff, Nat.reduceBEq, Nat.reduceAdd, Nat.reduceMul, Nat.reduceLeDiff, List.getElem?_cons_zero, List.getElem?_cons_succ, bne_self_eq_false, Int.reduceEq]
  refine (boil_c h hm.tsm hm.sk (hourK h n)).go ?_
  by_cases c2 : askErrH h (hourOK h (hourK h n)) = 0
  rotate_left
  · have hE0 : orderE h (hourK h n) = 11 := by rw [orderE, if_neg c2, ask_eleven hc hh c2]
    have c2' : askErrH h true = 11 := by rw [← hh]; exact ask_eleven hc hh c2
    have hE1 : ¬ (11 : Int) = 0 := by omega
    rw [hh] at c2
    simp only [go_sem, reduceIte, reduceCtorEq, Nat.reduceEqDiff, Nat.reduceBEq, Nat.reduceAdd, Nat.reduceMul, Nat.reduceLeDiff, List.getElem?_cons_zero, List.getElem?_cons_succ, bne_self_eq_false, Int.reduceEq, listR, hh, c2', hE1]
    refine (house_c h hm).go ?_
    simp only [go_sem, reduceIte, reduceCtorEq, Nat.reduceEqDiff, Nat.reduceBEq, Nat.reduceAdd, Nat.reduceMul, Nat.reduceLeDiff, List.getElem?_cons_zero, List.getElem?_cons_succ, bne_self_eq_false, Int.reduceEq]
    refine (order_c h hm.tsm hm.sk (hourK h n)).go ?_
    simp only [go_sem, reduceIte, reduceCtorEq, Nat.reduceEqDiff, Nat.reduceBEq, Nat.reduceAdd, Nat.reduceMul, Nat.reduceLeDiff, List.getElem?_cons_zero, List.getElem?_cons_succ, bne_self_eq_false, Int.reduceEq, listR, hE0, hE1, hc10]
    refine (house_c h hm).go ?_
    simp only [go_sem, reduceIte, reduceCtorEq, Nat.reduceEqDiff, Nat.reduceBEq, Nat.reduceAdd, Nat.reduceMul, Nat.reduceLeDiff, List.getElem?_cons_zero, List.getElem?_cons_succ, bne_self_eq_false, Int.reduceEq]
    refine (whoseS_c h hm.tsm hm.sk).go ?_
    simp only [go_sem, reduceIte, reduceCtorEq, Nat.reduceEqDiff, Nat.reduceBEq, Nat.reduceAdd, Nat.reduceMul, Nat.reduceLeDiff, List.getElem?_cons_zero, List.getElem?_cons_succ, bne_self_eq_false, Int.reduceEq, listR, c2']
    refine pgo_call (house_c h hm) ?_
    simp only [go_sem, reduceIte, reduceCtorEq, Nat.reduceEqDiff, Nat.reduceBEq, Nat.reduceAdd, Nat.reduceMul, Nat.reduceLeDiff, List.getElem?_cons_zero, List.getElem?_cons_succ, bne_self_eq_false, Int.reduceEq]
    refine pgo_call (copyL_c _ (by simp)) ?_
    simp only [go_sem, reduceIte, reduceCtorEq, Nat.reduceEqDiff, Nat.reduceBEq, Nat.reduceAdd, Nat.reduceMul, Nat.reduceLeDiff, List.getElem?_cons_zero, List.getElem?_cons_succ, bne_self_eq_false, Int.reduceEq]
    refine pgo_call (proveBoil_c h hm.tsm hm.sk _ _ (by simp [Sm]) _) ?_
    simp only [go_sem, reduceIte, reduceCtorEq, Nat.reduceEqDiff, Nat.reduceBEq, Nat.reduceAdd, Nat.reduceMul, Nat.reduceLeDiff, List.getElem?_cons_zero, List.getElem?_cons_succ, bne_self_eq_false, Int.reduceEq]
    refine pgo_call (house_c h hm) ?_
    simp only [go_sem, reduceIte, reduceCtorEq, Nat.reduceEqDiff, Nat.reduceBEq, Nat.reduceAdd, Nat.reduceMul, Nat.reduceLeDiff, List.getElem?_cons_zero, List.getElem?_cons_succ, bne_self_eq_false, Int.reduceEq]
    refine pgo_call (copyL_c _ (by simp)) ?_
    simp only [go_sem, reduceIte, reduceCtorEq, Nat.reduceEqDiff, Nat.reduceBEq, Nat.reduceAdd, Nat.reduceMul, Nat.reduceLeDiff, List.getElem?_cons_zero, List.getElem?_cons_succ, bne_self_eq_false, Int.reduceEq]
    refine pgo_call (proveOrder_c h hm.tsm hm.sk _ _ (by simp [Sm]) _) ?_
    rw [prove_one hc hv.ok hh hi]
    simp only [go_sem, reduceIte, reduceCtorEq, Nat.reduceEqDiff, Nat.reduceBEq, Nat.reduceAdd, Nat.reduceMul, Nat.reduceLeDiff, List.getElem?_cons_zero, List.getElem?_cons_succ, bne_self_eq_false, Int.reduceEq]
    refine awake_c.go ?_
    simp only [go_sem, reduceIte, reduceCtorEq, Nat.reduceEqDiff, Nat.reduceBEq, Nat.reduceAdd, Nat.reduceMul, Nat.reduceLeDiff, List.getElem?_cons_zero, List.getElem?_cons_succ, bne_self_eq_false, Int.reduceEq]
    exact fin_ret 6 (by simp [upd_at]) ⟨_, H, Settle.refl e1, by simp [upd_at], rfl⟩
  have c2' : askErrH h true = 0 := by rw [← hh]; exact c2
  have htn := (ask_ok c2).2.2
  have hbl := boilOf_len' hc hv.ok hh
  have hwb : (boilOf' h (hourK h n)).length = 0 ↔ (whoseS h).length = 0 := by
    rw [List.length_eq_zero_iff, List.length_eq_zero_iff, boil_nil hc hv.ok hh, whose_nil hv htn]
  by_cases z0 : (boilOf' h (hourK h n)).length = 0
  · have zs : safeP h [] = true := (boil_nil hc hv.ok hh).1 (List.length_eq_zero_iff.1 z0)
    have zb : boilOf' h (hourK h n) = [] := List.length_eq_zero_iff.1 z0
    have zw : whoseS h = [] := (whose_nil hv htn).2 zs
    obtain ⟨hE0, ho⟩ := one_zero hh c2 zs
    have hE1 := hE0
    simp only [go_sem, reduceIte, reduceCtorEq, Nat.reduceEqDiff, Nat.reduceBEq, Nat.reduceAdd, Nat.reduceMul, Nat.reduceLeDiff, List.getElem?_cons_zero, List.getElem?_cons_succ, bne_self_eq_false, Int.reduceEq, listR, hh, c2', zb]
    refine (house_c h hm).go ?_
    simp only [go_sem, reduceIte, reduceCtorEq, Nat.reduceEqDiff, Nat.reduceBEq, Nat.reduceAdd, Nat.reduceMul, Nat.reduceLeDiff, List.getElem?_cons_zero, List.getElem?_cons_succ, bne_self_eq_false, Int.reduceEq]
    refine (order_c h hm.tsm hm.sk (hourK h n)).go ?_
    simp only [go_sem, reduceIte, reduceCtorEq, Nat.reduceEqDiff, Nat.reduceBEq, Nat.reduceAdd, Nat.reduceMul, Nat.reduceLeDiff, List.getElem?_cons_zero, List.getElem?_cons_succ, bne_self_eq_false, Int.reduceEq, listR, hE0, hE1, hc10]
    refine (house_c h hm).go ?_
    simp only [go_sem, reduceIte, reduceCtorEq, Nat.reduceEqDiff, Nat.reduceBEq, Nat.reduceAdd, Nat.reduceMul, Nat.reduceLeDiff, List.getElem?_cons_zero, List.getElem?_cons_succ, bne_self_eq_false, Int.reduceEq]
    refine (whoseS_c h hm.tsm hm.sk).go ?_
    simp only [go_sem, reduceIte, reduceCtorEq, Nat.reduceEqDiff, Nat.reduceBEq, Nat.reduceAdd, Nat.reduceMul, Nat.reduceLeDiff, List.getElem?_cons_zero, List.getElem?_cons_succ, bne_self_eq_false, Int.reduceEq, listR, c2']
    refine pgo_call (house_c h hm) ?_
    simp only [go_sem, reduceIte, reduceCtorEq, Nat.reduceEqDiff, Nat.reduceBEq, Nat.reduceAdd, Nat.reduceMul, Nat.reduceLeDiff, List.getElem?_cons_zero, List.getElem?_cons_succ, bne_self_eq_false, Int.reduceEq]
    refine pgo_call (copyL_c _ (by simp)) ?_
    simp only [go_sem, reduceIte, reduceCtorEq, Nat.reduceEqDiff, Nat.reduceBEq, Nat.reduceAdd, Nat.reduceMul, Nat.reduceLeDiff, List.getElem?_cons_zero, List.getElem?_cons_succ, bne_self_eq_false, Int.reduceEq]
    refine pgo_call (proveBoil_c h hm.tsm hm.sk _ _ (by simp [Sm]) _) ?_
    simp only [go_sem, reduceIte, reduceCtorEq, Nat.reduceEqDiff, Nat.reduceBEq, Nat.reduceAdd, Nat.reduceMul, Nat.reduceLeDiff, List.getElem?_cons_zero, List.getElem?_cons_succ, bne_self_eq_false, Int.reduceEq]
    refine pgo_call (house_c h hm) ?_
    simp only [go_sem, reduceIte, reduceCtorEq, Nat.reduceEqDiff, Nat.reduceBEq, Nat.reduceAdd, Nat.reduceMul, Nat.reduceLeDiff, List.getElem?_cons_zero, List.getElem?_cons_succ, bne_self_eq_false, Int.reduceEq]
    refine pgo_call (copyL_c _ (by simp)) ?_
    simp only [go_sem, reduceIte, reduceCtorEq, Nat.reduceEqDiff, Nat.reduceBEq, Nat.reduceAdd, Nat.reduceMul, Nat.reduceLeDiff, List.getElem?_cons_zero, List.getElem?_cons_succ, bne_self_eq_false, Int.reduceEq]
    refine pgo_call (proveOrder_c h hm.tsm hm.sk _ _ (by simp [Sm]) _) ?_
    rw [prove_one hc hv.ok hh hi]
    simp only [go_sem, reduceIte, reduceCtorEq, Nat.reduceEqDiff, Nat.reduceBEq, Nat.reduceAdd, Nat.reduceMul, Nat.reduceLeDiff, List.getElem?_cons_zero, List.getElem?_cons_succ, bne_self_eq_false, Int.reduceEq]
    rw [ho, zw]
    simp only [go_sem, reduceIte, reduceCtorEq, Nat.reduceEqDiff, Nat.reduceBEq, Nat.reduceAdd, Nat.reduceMul, Nat.reduceLeDiff, List.getElem?_cons_zero, List.getElem?_cons_succ, bne_self_eq_false, Int.reduceEq, List.map_nil, eI, Int.natCast_zero, Int.reduceLT, Int.reduceEq, bne_self_eq_false]
    refine (same_c [] [] (by simp [Sm])).go ?_
    simp only [go_sem, reduceIte, reduceCtorEq, Nat.reduceEqDiff, Nat.reduceBEq, Nat.reduceAdd, Nat.reduceMul, Nat.reduceLeDiff, List.getElem?_cons_zero, List.getElem?_cons_succ, bne_self_eq_false, Int.reduceEq, List.length_nil, Int.natCast_zero, Int.reduceLT, Int.reduceEq]
    refine awake_c.go ?_
    simp only [go_sem, reduceIte, reduceCtorEq, Nat.reduceEqDiff, Nat.reduceBEq, Nat.reduceAdd, Nat.reduceMul, Nat.reduceLeDiff, List.getElem?_cons_zero, List.getElem?_cons_succ, bne_self_eq_false, Int.reduceEq]
    exact fin_ret 6 (by simp [upd_at]) ⟨_, H, Settle.refl e1, by simp [upd_at], rfl⟩
  have zw : ¬ (whoseS h).length = 0 := fun hh => z0 (hwb.2 hh)
  by_cases z1 : (boilOf' h (hourK h n)).length = 1
  · obtain ⟨hE0, ho⟩ := one_one hc hv.ok hh c2 z1
    have hE1 := hE0
    simp only [go_sem, reduceIte, reduceCtorEq, Nat.reduceEqDiff, Nat.reduceBEq, Nat.reduceAdd, Nat.reduceMul, Nat.reduceLeDiff, List.getElem?_cons_zero, List.getElem?_cons_succ, bne_self_eq_false, Int.reduceEq, listR, hh, c2']
    refine (house_c h hm).go ?_
    simp only [go_sem, reduceIte, reduceCtorEq, Nat.reduceEqDiff, Nat.reduceBEq, Nat.reduceAdd, Nat.reduceMul, Nat.reduceLeDiff, List.getElem?_cons_zero, List.getElem?_cons_succ, bne_self_eq_false, Int.reduceEq]
    refine (order_c h hm.tsm hm.sk (hourK h n)).go ?_
    simp only [go_sem, reduceIte, reduceCtorEq, Nat.reduceEqDiff, Nat.reduceBEq, Nat.reduceAdd, Nat.reduceMul, Nat.reduceLeDiff, List.getElem?_cons_zero, List.getElem?_cons_succ, bne_self_eq_false, Int.reduceEq, listR, hE0, hE1, hc10]
    refine (house_c h hm).go ?_
    simp only [go_sem, reduceIte, reduceCtorEq, Nat.reduceEqDiff, Nat.reduceBEq, Nat.reduceAdd, Nat.reduceMul, Nat.reduceLeDiff, List.getElem?_cons_zero, List.getElem?_cons_succ, bne_self_eq_false, Int.reduceEq]
    refine (whoseS_c h hm.tsm hm.sk).go ?_
    simp only [go_sem, reduceIte, reduceCtorEq, Nat.reduceEqDiff, Nat.reduceBEq, Nat.reduceAdd, Nat.reduceMul, Nat.reduceLeDiff, List.getElem?_cons_zero, List.getElem?_cons_succ, bne_self_eq_false, Int.reduceEq, listR, c2']
    refine pgo_call (house_c h hm) ?_
    simp only [go_sem, reduceIte, reduceCtorEq, Nat.reduceEqDiff, Nat.reduceBEq, Nat.reduceAdd, Nat.reduceMul, Nat.reduceLeDiff, List.getElem?_cons_zero, List.getElem?_cons_succ, bne_self_eq_false, Int.reduceEq]
    refine pgo_call (copyL_c _ (by simp)) ?_
    simp only [go_sem, reduceIte, reduceCtorEq, Nat.reduceEqDiff, Nat.reduceBEq, Nat.reduceAdd, Nat.reduceMul, Nat.reduceLeDiff, List.getElem?_cons_zero, List.getElem?_cons_succ, bne_self_eq_false, Int.reduceEq]
    refine pgo_call (proveBoil_c h hm.tsm hm.sk _ _ (by simp [Sm]) _) ?_
    simp only [go_sem, reduceIte, reduceCtorEq, Nat.reduceEqDiff, Nat.reduceBEq, Nat.reduceAdd, Nat.reduceMul, Nat.reduceLeDiff, List.getElem?_cons_zero, List.getElem?_cons_succ, bne_self_eq_false, Int.reduceEq]
    refine pgo_call (house_c h hm) ?_
    simp only [go_sem, reduceIte, reduceCtorEq, Nat.reduceEqDiff, Nat.reduceBEq, Nat.reduceAdd, Nat.reduceMul, Nat.reduceLeDiff, List.getElem?_cons_zero, List.getElem?_cons_succ, bne_self_eq_false, Int.reduceEq]
    refine pgo_call (copyL_c _ (by simp)) ?_
    simp only [go_sem, reduceIte, reduceCtorEq, Nat.reduceEqDiff, Nat.reduceBEq, Nat.reduceAdd, Nat.reduceMul, Nat.reduceLeDiff, List.getElem?_cons_zero, List.getElem?_cons_succ, bne_self_eq_false, Int.reduceEq]
    refine pgo_call (proveOrder_c h hm.tsm hm.sk _ _ (by simp [Sm]) _) ?_
    rw [prove_one hc hv.ok hh hi]
    simp only [go_sem, reduceIte, reduceCtorEq, Nat.reduceEqDiff, Nat.reduceBEq, Nat.reduceAdd, Nat.reduceMul, Nat.reduceLeDiff, List.getElem?_cons_zero, List.getElem?_cons_succ, bne_self_eq_false, Int.reduceEq]
    rw [ho]
    have b1 : decide (((boilOf' h (hourK h n)).length : Int) = 0) = false := by rw [z1]; rfl
    have b2 : decide (((whoseS h).length : Int) = 0) = false := decide_eq_false (by omega)
    simp only [go_sem, reduceIte, reduceCtorEq, Nat.reduceEqDiff, Nat.reduceBEq, Nat.reduceAdd, Nat.reduceMul, Nat.reduceLeDiff, List.getElem?_cons_zero, List.getElem?_cons_succ, bne_self_eq_false, Int.reduceEq, b1, b2, z1, Int.natCast_one, Int.reduceLT, Int.reduceEq, bne_self_eq_false]
    refine (same_c (boilOf' h (hourK h n)) (boilOf' h (hourK h n)) (by unfold Sm; omega)).go ?_
    simp only [go_sem, reduceIte, reduceCtorEq, Nat.reduceEqDiff, Nat.reduceBEq, Nat.reduceAdd, Nat.reduceMul, Nat.reduceLeDiff, List.getElem?_cons_zero, List.getElem?_cons_succ, bne_self_eq_false, Int.reduceEq, z1, Int.natCast_one, Int.reduceLT, Int.reduceEq]
    refine awake_c.go ?_
    simp only [go_sem, reduceIte, reduceCtorEq, Nat.reduceEqDiff, Nat.reduceBEq, Nat.reduceAdd, Nat.reduceMul, Nat.reduceLeDiff, List.getElem?_cons_zero, List.getElem?_cons_succ, bne_self_eq_false, Int.reduceEq]
    exact fin_ret 6 (by simp [upd_at]) ⟨_, H, Settle.refl e1, by simp [upd_at], rfl⟩
  have z2 : (1 : Int) < ((boilOf' h (hourK h n)).length : Int) := by omega
  have b1 : decide (((boilOf' h (hourK h n)).length : Int) = 0) = false := decide_eq_false (by omega)
  have b2 : decide (((whoseS h).length : Int) = 0) = false := decide_eq_false (by omega)
  rcases one_two hc hv.ok hh c2 (by omega) with hE0 | ⟨hE0, z3⟩
  · have hE1 := hE0
    simp only [go_sem, reduceIte, reduceCtorEq, Nat.reduceEqDiff, Nat.reduceBEq, Nat.reduceAdd, Nat.reduceMul, Nat.reduceLeDiff, List.getElem?_cons_zero, List.getElem?_cons_succ, bne_self_eq_false, Int.reduceEq, listR, hh, c2']
    refine (house_c h hm).go ?_
    simp only [go_sem, reduceIte, reduceCtorEq, Nat.reduceEqDiff, Nat.reduceBEq, Nat.reduceAdd, Nat.reduceMul, Nat.reduceLeDiff, List.getElem?_cons_zero, List.getElem?_cons_succ, bne_self_eq_false, Int.reduceEq]
    refine (order_c h hm.tsm hm.sk (hourK h n)).go ?_
    simp only [go_sem, reduceIte, reduceCtorEq, Nat.reduceEqDiff, Nat.reduceBEq, Nat.reduceAdd, Nat.reduceMul, Nat.reduceLeDiff, List.getElem?_cons_zero, List.getElem?_cons_succ, bne_self_eq_false, Int.reduceEq, listR, hE0, hE1, hc10]
    refine (house_c h hm).go ?_
    simp only [go_sem, reduceIte, reduceCtorEq, Nat.reduceEqDiff, Nat.reduceBEq, Nat.reduceAdd, Nat.reduceMul, Nat.reduceLeDiff, List.getElem?_cons_zero, List.getElem?_cons_succ, bne_self_eq_false, Int.reduceEq]
    refine (whoseS_c h hm.tsm hm.sk).go ?_
    simp only [go_sem, reduceIte, reduceCtorEq, Nat.reduceEqDiff, Nat.reduceBEq, Nat.reduceAdd, Nat.reduceMul, Nat.reduceLeDiff, List.getElem?_cons_zero, List.getElem?_cons_succ, bne_self_eq_false, Int.reduceEq, listR, c2']
    refine pgo_call (house_c h hm) ?_
    simp only [go_sem, reduceIte, reduceCtorEq, Nat.reduceEqDiff, Nat.reduceBEq, Nat.reduceAdd, Nat.reduceMul, Nat.reduceLeDiff, List.getElem?_cons_zero, List.getElem?_cons_succ, bne_self_eq_false, Int.reduceEq]
    refine pgo_call (copyL_c _ (by simp)) ?_
    simp only [go_sem, reduceIte, reduceCtorEq, Nat.reduceEqDiff, Nat.reduceBEq, Nat.reduceAdd, Nat.reduceMul, Nat.reduceLeDiff, List.getElem?_cons_zero, List.getElem?_cons_succ, bne_self_eq_false, Int.reduceEq]
    refine pgo_call (proveBoil_c h hm.tsm hm.sk _ _ (by simp [Sm]) _) ?_
    simp only [go_sem, reduceIte, reduceCtorEq, Nat.reduceEqDiff, Nat.reduceBEq, Nat.reduceAdd, Nat.reduceMul, Nat.reduceLeDiff, List.getElem?_cons_zero, List.getElem?_cons_succ, bne_self_eq_false, Int.reduceEq]
    refine pgo_call (house_c h hm) ?_
    simp only [go_sem, reduceIte, reduceCtorEq, Nat.reduceEqDiff, Nat.reduceBEq, Nat.reduceAdd, Nat.reduceMul, Nat.reduceLeDiff, List.getElem?_cons_zero, List.getElem?_cons_succ, bne_self_eq_false, Int.reduceEq]
    refine pgo_call (copyL_c _ (by simp)) ?_
    simp only [go_sem, reduceIte, reduceCtorEq, Nat.reduceEqDiff, Nat.reduceBEq, Nat.reduceAdd, Nat.reduceMul, Nat.reduceLeDiff, List.getElem?_cons_zero, List.getElem?_cons_succ, bne_self_eq_false, Int.reduceEq]
    refine pgo_call (proveOrder_c h hm.tsm hm.sk _ _ (by simp [Sm]) _) ?_
    rw [prove_one hc hv.ok hh hi]
    simp only [go_sem, reduceIte, reduceCtorEq, Nat.reduceEqDiff, Nat.reduceBEq, Nat.reduceAdd, Nat.reduceMul, Nat.reduceLeDiff, List.getElem?_cons_zero, List.getElem?_cons_succ, bne_self_eq_false, Int.reduceEq]
    simp only [go_sem, reduceIte, reduceCtorEq, Nat.reduceEqDiff, Nat.reduceBEq, Nat.reduceAdd, Nat.reduceMul, Nat.reduceLeDiff, List.getElem?_cons_zero, List.getElem?_cons_succ, bne_self_eq_false, Int.reduceEq, b1, b2, z2]
    refine awake_c.go ?_
    simp only [go_sem, reduceIte, reduceCtorEq, Nat.reduceEqDiff, Nat.reduceBEq, Nat.reduceAdd, Nat.reduceMul, Nat.reduceLeDiff, List.getElem?_cons_zero, List.getElem?_cons_succ, bne_self_eq_false, Int.reduceEq]
    exact fin_ret 6 (by simp [upd_at]) ⟨_, H, Settle.refl e1, by simp [upd_at], rfl⟩
  · have hE1 := hE0
    have z4 : (1 : Int) < ((orderOf h (hourK h n)).length : Int) := by omega
    simp only [go_sem, reduceIte, reduceCtorEq, Nat.reduceEqDiff, Nat.reduceBEq, Nat.reduceAdd, Nat.reduceMul, Nat.reduceLeDiff, List.getElem?_cons_zero, List.getElem?_cons_succ, bne_self_eq_false, Int.reduceEq, listR, hh, c2']
    refine (house_c h hm).go ?_
    simp only [go_sem, reduceIte, reduceCtorEq, Nat.reduceEqDiff, Nat.reduceBEq, Nat.reduceAdd, Nat.reduceMul, Nat.reduceLeDiff, List.getElem?_cons_zero, List.getElem?_cons_succ, bne_self_eq_false, Int.reduceEq]
    refine (order_c h hm.tsm hm.sk (hourK h n)).go ?_
    simp only [go_sem, reduceIte, reduceCtorEq, Nat.reduceEqDiff, Nat.reduceBEq, Nat.reduceAdd, Nat.reduceMul, Nat.reduceLeDiff, List.getElem?_cons_zero, List.getElem?_cons_succ, bne_self_eq_false, Int.reduceEq, listR, hE0, hE1, hc10]
    refine (house_c h hm).go ?_
    simp only [go_sem, reduceIte, reduceCtorEq, Nat.reduceEqDiff, Nat.reduceBEq, Nat.reduceAdd, Nat.reduceMul, Nat.reduceLeDiff, List.getElem?_cons_zero, List.getElem?_cons_succ, bne_self_eq_false, Int.reduceEq]
    refine (whoseS_c h hm.tsm hm.sk).go ?_
    simp only [go_sem, reduceIte, reduceCtorEq, Nat.reduceEqDiff, Nat.reduceBEq, Nat.reduceAdd, Nat.reduceMul, Nat.reduceLeDiff, List.getElem?_cons_zero, List.getElem?_cons_succ, bne_self_eq_false, Int.reduceEq, listR, c2']
    refine pgo_call (house_c h hm) ?_
    simp only [go_sem, reduceIte, reduceCtorEq, Nat.reduceEqDiff, Nat.reduceBEq, Nat.reduceAdd, Nat.reduceMul, Nat.reduceLeDiff, List.getElem?_cons_zero, List.getElem?_cons_succ, bne_self_eq_false, Int.reduceEq]
    refine pgo_call (copyL_c _ (by simp)) ?_
    simp only [go_sem, reduceIte, reduceCtorEq, Nat.reduceEqDiff, Nat.reduceBEq, Nat.reduceAdd, Nat.reduceMul, Nat.reduceLeDiff, List.getElem?_cons_zero, List.getElem?_cons_succ, bne_self_eq_false, Int.reduceEq]
    refine pgo_call (proveBoil_c h hm.tsm hm.sk _ _ (by simp [Sm]) _) ?_
    simp only [go_sem, reduceIte, reduceCtorEq, Nat.reduceEqDiff, Nat.reduceBEq, Nat.reduceAdd, Nat.reduceMul, Nat.reduceLeDiff, List.getElem?_cons_zero, List.getElem?_cons_succ, bne_self_eq_false, Int.reduceEq]
    refine pgo_call (house_c h hm) ?_
    simp only [go_sem, reduceIte, reduceCtorEq, Nat.reduceEqDiff, Nat.reduceBEq, Nat.reduceAdd, Nat.reduceMul, Nat.reduceLeDiff, List.getElem?_cons_zero, List.getElem?_cons_succ, bne_self_eq_false, Int.reduceEq]
    refine pgo_call (copyL_c _ (by simp)) ?_
    simp only [go_sem, reduceIte, reduceCtorEq, Nat.reduceEqDiff, Nat.reduceBEq, Nat.reduceAdd, Nat.reduceMul, Nat.reduceLeDiff, List.getElem?_cons_zero, List.getElem?_cons_succ, bne_self_eq_false, Int.reduceEq]
    refine pgo_call (proveOrder_c h hm.tsm hm.sk _ _ (by simp [Sm]) _) ?_
    rw [prove_one hc hv.ok hh hi]
    simp only [go_sem, reduceIte, reduceCtorEq, Nat.reduceEqDiff, Nat.reduceBEq, Nat.reduceAdd, Nat.reduceMul, Nat.reduceLeDiff, List.getElem?_cons_zero, List.getElem?_cons_succ, bne_self_eq_false, Int.reduceEq]
    simp only [go_sem, reduceIte, reduceCtorEq, Nat.reduceEqDiff, Nat.reduceBEq, Nat.reduceAdd, Nat.reduceMul, Nat.reduceLeDiff, List.getElem?_cons_zero, List.getElem?_cons_succ, bne_self_eq_false, Int.reduceEq, b1, b2, z2, z4]
    refine awake_c.go ?_
    simp only [go_sem, reduceIte, reduceCtorEq, Nat.reduceEqDiff, Nat.reduceBEq, Nat.reduceAdd, Nat.reduceMul, Nat.reduceLeDiff, List.getElem?_cons_zero, List.getElem?_cons_succ, bne_self_eq_false, Int.reduceEq]
    exact fin_ret 6 (by simp [upd_at]) ⟨_, H, Settle.refl e1, by simp [upd_at], rfl⟩
end Go.Lift

