/- Part 26 of the proof: the tools and contracts. Conditions: none. -/
import Derived.Test.YthnfcdkiaihfcaaGreatP25
import Derived.Test.YthnfcdkiaihfcaaGreatProg
set_option maxRecDepth 100000
set_option linter.unusedVariables false
namespace Go.Lift
open Go Go.Proofs
def cert7 : Nat → Option Cert := fun
  | 19 => some ⟨[0, 1, 2, 3, 4, 5, 6, 7, 8, 9, 10, 11, 12, 13, 14, 15, 16, 17, 18], (.one 19 .done), [[], [0], [0, 1], [0, 1], [0, 1, 2, 3], [0, 1, 2, 3, 4], [0, 1, 2, 3, 4, 5], [0, 1, 2, 3, 4, 5, 6], [0, 1, 2, 3, 4, 5, 6, 7], [0, 1, 2, 3, 4, 5, 6, 7], [0, 1, 2, 3, 4, 5, 6, 7, 8, 9], [0, 1, 2, 3, 4, 5, 6, 7, 8, 9, 10], [0, 1, 2, 3, 4, 5, 6, 7], [0, 1, 2, 3, 4, 5, 6, 7], [0, 1, 2, 3, 4, 5, 6, 7, 12, 13], [0, 1, 2, 3, 4, 5, 6, 7, 12, 13, 14], [0, 1, 2, 3, 4, 5, 6, 7, 8, 9, 10, 11, 12, 13, 14, 15], [0, 1, 2, 3, 4, 5, 6, 7, 8, 9, 10, 11, 12, 13, 14, 15, 16], [0, 1, 2, 3, 4, 5, 6, 7, 8, 9, 10, 11, 12, 13, 14, 15, 16, 17], [0, 1, 2, 3, 4, 5, 6, 7, 8, 9, 10, 11, 12, 13, 14, 15, 16, 17, 18]]⟩
  | 20 => some ⟨[0, 1, 2, 3, 4, 5, 6, 7, 8, 9, 10], .done, [[], [0], [0, 1], [0, 1, 2], [0, 1, 2, 3], [0, 1, 2], [0, 1, 2], [0, 1, 2, 5, 6], [0, 1, 2, 5, 6, 7], [0, 1, 2, 3, 4, 5, 6, 7, 8], [0, 1, 2, 3, 4, 5, 6, 7, 8, 9]]⟩
  | 30 => some ⟨[0, 1, 2, 3, 4, 5, 6, 7, 8, 9, 10, 11, 12, 13, 14, 15, 16, 17, 18], (.one 19 .done), [[], [0], [0, 1], [], [], [4], [4, 5], [], [], [7, 8], [7, 8, 9], [7, 8, 9, 10], [7, 8, 9, 10, 11], [4, 5, 6, 7, 8, 9, 10, 11, 12], [4, 5, 6, 7, 8, 9, 10, 11, 12, 13], [4, 5, 6, 7, 8, 9, 10, 11, 12, 13, 14], [4, 5, 6, 7, 8, 9, 10, 11, 12, 13, 14, 15], [0, 1, 2, 3, 4, 5, 6, 7, 8, 9, 10, 11, 12, 13, 14, 15, 16], [0, 1, 2, 3, 4, 5, 6, 7, 8, 9, 10, 11, 12, 13, 14, 15, 16, 17], [0, 1, 2, 3, 4, 5, 6, 7, 8, 9, 10, 11, 12, 13, 14, 15, 16, 17, 18]]⟩
  | _ => none
def ac7 : ACode :=(.seq (.ops [uO 3 .box 0, oA 6 .mov [kF]]) (.seq (.seq (.ops [uO 25 lT9 3, uO 26 (.call 19) 25, uO 27 .not 26, uM 28 27, gO 29 lT9 3 28 false, gO 30 (.call 42) 29 28 false, oG 31 bN [.t 30, (kI 0)] 28 false, oA 32 .pick [.t 28, kT, .t 31]]) (.cond (.t 32) (.seq (.ops [oA 33 (.call 43) [], uM 6 33]) .ret) .skip)) (.seq (.ops [uO 34 lT9 3, oA 7 (.alloc z9) [], oZ (.store 9) [.t 7, .t 34]]) (.seq (.ops [uO 35 fA8 7, oZ (.store 1) [.t 35, kE]]) (.seq (.ops [uM 36 1, uO 37 (.conv .i64) 36, uO 38 fA5 3, uO 39 lF 38, oA 40 bA [.t 39, (kI 1)], uB 41 (.bin .rem) 37 40, uM 8 41]) (.seq (.ops [uO 43 lT9 7, uO 44 (.call 22) 43, uO 45 (.call 23) 44, uM 42 45, uO 46 x0 42, uO 47 x1 42, uM 9 46, uM 10 47]) (.seq (.ops [uO 49 lT9 7, uO 50 (.call 22) 49, uO 51 (.call 21) 50, uM 48 51, uO 52 x0 48, uO 53 x1 48, uM 11 52, uM 12 53]) (.seq (.ops [uO 55 lT9 7, uO 56 (.call 22) 55, uM 57 8, uB 58 (.call 44) 56 57, uM 54 58, uO 59 x0 54, uO 60 x1 54, uM 13 59, uM 14 60]) (.seq (.ops [uO 62 fA0 3, uO 63 lT3 62, uO 64 (.call 46) 63, uO 65 (.call 45) 64, uM 61 65, uO 66 x0 61, uO 67 x1 61, uM 15 66, uM 16 67]) (.seq (.seq (.ops [uM 68 10, oA 69 bN [.t 68, (kI 0)], uM 70 69, gM 71 12 70 false, oG 72 bN [.t 71, (kI 0)] 70 false, oA 73 .pick [.t 70, kT, .t 72], uM 74 73, gM 75 14 74 false, oG 76 bN [.t 75, (kI 0)] 74 false, oA 77 .pick [.t 74, kT, .t 76], uM 78 77, gM 79 16 78 false, oG 80 bN [.t 79, (kI 0)] 78 false, oA 81 .pick [.t 78, kT, .t 80], uM 82 81, gM 83 11 82 false, gO 84 .len 83 82 false, gO 85 lT9 3 82 false, gO 86 (.call 25) 85 82 false, gB 87 bN 84 86 82 false, oA 88 .pick [.t 82, kT, .t 87], uM 89 88, gM 90 15 89 false, gO 91 .len 90 89 false, gO 92 fA0 3 89 false, gO 93 fA1 92 89 false, gO 94 lF 93 89 false, gO 95 .len 94 89 false, gB 96 bN 91 95 89 false, oA 97 .pick [.t 89, kT, .t 96]]) (.cond (.t 97) (.seq (.ops [oA 6 .mov [kF]]) .ret) .skip)) (.seq (.seq (.ops [oA 17 .mov [(kI 0)]]) (.block 0 (.loop (.seq (.seq (.ops [uM 98 17, uM 99 9, uO 100 .len 99, uB 101 bL 98 100]) (.cond (.t 101) .skip (.exit 0))) (.seq (.block 1 (.seq (.ops [oA 18 .mov [kF]]) (.seq (.seq (.ops [oA 19 .mov [(kI 0)]]) (.block 2 (.loop (.seq (.seq (.ops [uM 104 19, uM 105 15, uO 106 .len 105, uB 107 bL 104 106]) (.cond (.t 107) .skip (.exit 2))) (.seq (.block 3 (.draw [(false, uM 110 18), (false, uM 111 110), (false, gM 112 11 111 false), (false, gM 113 19 111 false), (false, gB 114 (.idxaddr 1) 112 113 111 false), (false, gO 115 lF 114 111 false), (false, oG 116 bN [.t 115, (kI 2)] 111 false), (false, gM 117 116 111 false), (false, gM 118 15 117 true), (false, gM 119 19 117 true), (false, gB 120 (.idxaddr 1) 118 119 117 true), (false, gO 121 lF 120 117 true), (false, gM 122 9 117 true), (false, gM 123 17 117 true), (false, gB 124 (.idxaddr 1) 122 123 117 true), (false, gO 125 lF 124 117 true), (false, gB 126 (.call 40) 121 125 117 true), (false, oG 127 .pick [.t 117, .t 126, kF] 111 false), (false, oA 128 .pick [.t 111, kT, .t 127])] (.one (uM 18 128) [] .done))) (.ops [uM 108 19, oA 109 bA [.t 108, (kI 1)], uM 19 109])))))) (.seq (.draw [(false, uM 129 18), (false, uO 130 .not 129), (false, uM 131 130), (false, gO 132 fA3 3 131 false), (false, gO 133 lF 132 131 false), (false, gM 134 9 131 false), (false, gM 135 17 131 false), (false, gB 136 (.idxaddr 1) 134 135 131 false), (false, gO 137 lF 136 131 false), (false, gB 138 (.call 40) 133 137 131 false), (false, oA 139 .pick [.t 131, kT, .t 138])] .done) (.cond (.t 139) (.seq (.ops [oA 6 .mov [kF]]) .ret) .skip))))) (.ops [uM 102 17, oA 103 bA [.t 102, (kI 1)], uM 17 103])))))) (.seq (.ops [uO 140 fA0 3, uO 141 fA1 140, uO 142 lF 141, uO 143 .len 142, uM 20 143]) (.seq (.seq (.ops [uM 144 20, oA 145 bE [.t 144, (kI 0)]]) (.cond (.t 145) (.seq (.ops [oA 146 (.call 43) [], uM 6 146]) .ret) .skip)) (.seq (.ops [uM 147 2, uO 148 (.conv .i64) 147, uM 149 20, uB 150 (.bin .rem) 148 149, uM 21 150]) (.seq (.seq (.ops [uM 151 15, uM 152 21, uB 153 (.idxaddr 1) 151 152, uO 154 lF 153, uO 155 .len 154, oA 156 bE [.t 155, (kI 0)]]) (.cond (.t 156) (.seq (.ops [oA 6 .mov [kF]]) .ret) .skip)) (.seq (.ops [uO 157 lT9 7, oA 22 (.alloc z9) [], oZ (.store 9) [.t 22, .t 157]]) (.seq (.ops [oA 158 (.bslice 2) [], uO 159 fA0 3, uO 160 fA1 159, uO 161 lF 160, uB 162 (.append 2 32) 158 161, uO 163 fA0 22, uO 164 fA1 163, oZ (.store 1) [.t 164, .t 162]]) (.seq (.draw [(false, uO 165 fA0 22), (false, uO 166 fA1 165), (false, uO 167 lF 166), (false, uM 168 21), (false, uO 169 fA0 3), (false, uO 170 fA0 169), (false, uO 171 lF 170), (false, uM 172 15), (false, uM 173 21), (false, uB 174 (.idxaddr 1) 172 173), (false, uO 175 lF 174), (false, oA 176 (.idxaddr 1) [.t 175, (kI 0)]), (false, uO 177 lF 176), (false, uB 178 (.idxaddr 3) 171 177), (false, uO 179 fA0 178), (false, uO 180 lF 179), (false, uO 181 (.bslice 1) 180), (false, uB 182 (.idxaddr 2) 167 168), (false, uO 183 fA0 182)] (.one (oZ (.store 1) [.t 183, .t 181]) [] .done)) (.seq (.seq (.ops [uO 184 lT9 22, uO 185 (.call 42) 184, oA 186 bN [.t 185, (kI 0)]]) (.cond (.t 186) (.seq (.ops [oA 187 (.call 43) [], uM 6 187]) .ret) .skip)) (.seq (.ops [uO 189 lT9 22, uO 190 (.call 22) 189, uM 191 8, uB 192 (.call 44) 190 191, uM 188 192, uO 193 x0 188, uO 194 x1 188, uM 23 193, uM 24 194]) (.seq (.ops [uM 195 24, oA 196 bE [.t 195, (kI 0)], uM 197 196, gM 198 23 197 true, gO 199 .len 198 197 true, gM 200 13 197 true, gO 201 .len 200 197 true, gB 202 (.bin .leq) 199 201 197 true, oA 203 .pick [.t 197, .t 202, kF], uM 204 203, oG 205 (.call 43) [] 204 true, oA 206 .pick [.t 204, .t 205, kF], uM 6 206]) .ret)))))))))))))))))))))
theorem fc7 : fnC Tryz.prog 7 cert7 = some (207, [.tmp 6], ac7) := by kernel_rfl
end Go.Lift
set_option maxRecDepth 100000
set_option linter.unusedVariables false
namespace Go.Lift
open Go Go.Proofs
def cert43 : Nat → Option Cert := fun _ => none
def ac43 : ACode :=(.seq (.ops [oA 0 .mov [kF]]) (.seq (.ops [oA 7 (.build [(.int .i64 0), (.int .i64 0)] [(0, 1), (1, 1)]) [(kI 1), (kI 1)], oA 8 (.build [(.int .i64 0), (.int .i64 0), (.int .i64 0)] [(0, 1), (1, 2)]) [(kI 1), .t 7], oA 9 (.build [(.int .i64 0), (.int .i64 0)] [(0, 1), (1, 1)]) [(kI 1), (kI 1)], oA 10 (.build [(.int .i64 0), (.int .i64 0), (.int .i64 0)] [(0, 1), (1, 2)]) [(kI 2), .t 9], uB 11 (.bslice 3) 8 10, oA 12 (.bslice 1) [(kI 1)], uO 13 (.build [.emp, (.int .i64 0)] [(0, 1)]) 12, oA 14 (.bslice 1) [(kI 2)], oA 15 (.build [.emp, (.int .i64 0)] [(0, 1), (1, 1)]) [.t 14, (kI 1)], uB 16 (.bslice 2) 13 15, uB 17 (.build [.emp, .emp, (.int .i64 0)] [(0, 1), (1, 1)]) 11 16, oA 1 (.alloc [.emp, .emp, (.int .i64 0)]) [], oZ (.store 3) [.t 1, .t 17]]) (.seq (.ops [uO 18 lT3 1, oA 19 (.bslice 1) [(kI 0)], oA 20 (.build [(.int .i64 0), (.int .i64 0), (.int .i64 0), (.int .i64 0)] [(0, 1), (1, 1)]) [(kI 0), (kI 1)], uO 21 (.bslice 4) 20, oA 22 (.build z9 [(0, 3), (3, 1), (6, 1)]) [.t 18, .t 19, .t 21], oA 2 (.alloc z9) [], oZ (.store 9) [.t 2, .t 22]]) (.seq (.ops [uO 24 lT3 1, uO 25 (.call 45) 24, uM 23 25, uO 26 x0 23, uO 27 x1 23, uM 3 26, uM 4 27]) (.seq (.ops [uO 29 lT9 2, oA 30 (.call 44) [.t 29, (kI 0)], uM 28 30, uO 31 x0 28, uO 32 x1 28, uM 5 31, uM 6 32]) (.seq (.ops [uM 33 4, oA 34 bE [.t 33, (kI 0)], uM 35 34, gM 36 3 35 true, gO 37 .len 36 35 true, oG 38 bE [.t 37, (kI 2)] 35 true, oA 39 .pick [.t 35, .t 38, kF], uM 40 39, gM 41 3 40 true, oG 42 (.idxaddr 1) [.t 41, (kI 0)] 40 true, gO 43 lF 42 40 true, gO 44 .len 43 40 true, oG 45 bE [.t 44, (kI 1)] 40 true, oA 46 .pick [.t 40, .t 45, kF], uM 47 46, gM 48 3 47 true, oG 49 (.idxaddr 1) [.t 48, (kI 0)] 47 true, gO 50 lF 49 47 true, oG 51 (.idxaddr 1) [.t 50, (kI 0)] 47 true, gO 52 lF 51 47 true, oG 53 bE [.t 52, (kI 0)] 47 true, oA 54 .pick [.t 47, .t 53, kF], uM 55 54, gM 56 6 55 true, oG 57 bE [.t 56, (kI 0)] 55 true, oA 58 .pick [.t 55, .t 57, kF], uM 59 58, gM 60 5 59 true, gO 61 .len 60 59 true, oG 62 bE [.t 61, (kI 1)] 59 true, oA 63 .pick [.t 59, .t 62, kF], uM 64 63, gM 65 5 64 true, oG 66 (.idxaddr 1) [.t 65, (kI 0)] 64 true, gO 67 lF 66 64 true, oG 68 bE [.t 67, (kI 0)] 64 true, oA 69 .pick [.t 64, .t 68, kF], uM 0 69]) .ret))))))
theorem fc43 : fnC Tryz.prog 43 cert43 = some (70, [.tmp 0], ac43) := by kernel_rfl
end Go.Lift
set_option linter.unusedSimpArgs false
set_option linter.unusedVariables false
namespace Go.Lift
open Go Go.Proofs
def beforeL : List Int → List Int → Bool
  | a :: xs, b :: bs => if a = b then beforeL xs bs else decide (a < b)
  | [], bs => decide (0 < bs.length)
  | _ :: _, [] => false
def shorterL (a b : List Int) : Bool := decide (a.length < b.length) || (decide (a.length = b.length) && beforeL a b)
end Go.Lift

set_option linter.unusedSimpArgs false
set_option linter.unusedVariables false
namespace Go.Lift
open Go Go.Proofs
theorem Grown.wk {sz : Nat} {H0 H : AHeap} {v : AV} {es : List (List AV)} (g : Grown sz H0 H v es) : Wk v (.slice es) := fun _ _ _ hr => by
  rcases g with ⟨rfl, rfl⟩ | ⟨b, cap, rfl, _⟩
  · exact Rep.weaken_emp hr
  · exact Rep.weaken_slice hr
end Go.Lift

set_option linter.unusedSimpArgs false
set_option linter.unusedVariables false
namespace Go.Lift
open Go Go.Proofs
theorem truthsR_mem {t : Table} (hc : checkTable t = 0) (o : List Int) : o ∈ truthsR t ↔ isTruthT t o = true := by
  rw [truthsR_eq hc, List.mem_filter, isTruthT_iff hc, isTruthR, Bool.and_eq_true, decide_eq_true_eq, mem_allO]
  constructor
  · rintro ⟨h1, h2, h3⟩; exact ⟨h1, h3⟩
  · rintro ⟨h1, h2⟩; exact ⟨h1, h1, h2⟩
end Go.Lift

set_option linter.unusedSimpArgs false
set_option linter.unusedVariables false
namespace Go.Lift
open Go Go.Proofs
theorem pad_get {h : House} (hv : HV h) {c : Course} (hc : courseOK h c = true) {i : Nat} (hi : i < h.table.pieces.length) : (pad7 c.owners).getD i 0 = c.owners.getD i 0 := by
  have := (courseOK_len hc).1
  rw [pad7_get _ _ (by omega)]
end Go.Lift

set_option linter.unusedSimpArgs false
set_option linter.unusedVariables false
namespace Go.Lift
open Go Go.Proofs
theorem thin_sm {h : House} (c1 : thinH h = true) : HSm h := by
  rw [thinH, Bool.and_eq_true] at c1; exact short_sm c1.1
end Go.Lift

set_option linter.unusedSimpArgs false
set_option linter.unusedVariables false
namespace Go.Lift
open Go Go.Proofs
theorem before_irr : ∀ a : List Int, beforeL a a = false
  | [] => rfl
  | a :: xs => by rw [beforeL, if_pos rfl, before_irr xs]
theorem before_trans : ∀ a b c : List Int, beforeL a b = true → beforeL b c = true → beforeL a c = true
  | [], b, [], _, h2 => by
    cases b with
    | nil => exact h2
    | cons b bs => simp [beforeL] at h2
  | [], _, c :: cs, _, _ => by simp [beforeL]
  | a :: xs, [], _, h1, _ => by simp [beforeL] at h1
  | a :: xs, b :: bs, [], _, h2 => by simp [beforeL] at h2
  | a :: xs, b :: bs, c :: cs, h1, h2 => by
    simp only [beforeL] at h1 h2 ⊢
    by_cases e1 : a = b
    · subst e1
      rw [if_pos rfl] at h1
      by_cases e2 : a = c
      · rw [if_pos e2] at h2 ⊢; exact before_trans xs bs cs h1 h2
      · rw [if_neg e2] at h2 ⊢; exact h2
    · rw [if_neg e1, decide_eq_true_eq] at h1
      by_cases e2 : b = c
      · subst e2; rw [if_neg e1]; exact decide_eq_true h1
      · rw [if_neg e2, decide_eq_true_eq] at h2
        rw [if_neg (by omega)]; exact decide_eq_true (by omega)
theorem before_pre : ∀ (p a b : List Int), beforeL (p ++ a) (p ++ b) = beforeL a b
  | [], _, _ => rfl
  | x :: p, a, b => by rw [List.cons_append, List.cons_append, beforeL, if_pos rfl, before_pre p]
theorem shorter_iff (a b : List Int) : shorterL a b = true ↔ a.length < b.length ∨ (a.length = b.length ∧ beforeL a b = true) := by
  simp [shorterL]
theorem shorter_irr (a : List Int) : shorterL a a = false := by
  rw [Bool.eq_false_iff, Ne, shorter_iff, before_irr]
  rintro (h | h)
  · omega
  · cases h.2
theorem shorter_trans {a b c : List Int} (h1 : shorterL a b = true) (h2 : shorterL b c = true) : shorterL a c = true := by
  rw [shorter_iff] at *
  rcases h1 with h1 | h1 <;> rcases h2 with h2 | h2
  · exact .inl (by omega)
  · exact .inl (by omega)
  · exact .inl (by omega)
  · exact .inr ⟨by omega, before_trans _ _ _ h1.2 h2.2⟩
theorem shorter_asym {a b : List Int} (h : shorterL a b = true) : shorterL b a = false := by
  rw [Bool.eq_false_iff]
  intro h2
  have := shorter_trans h h2
  rw [shorter_irr] at this; cases this
/-- The least one that will do, of some lists. -/
structure IsMin (ok : List Int → Bool) (D : List Int → Prop) (x : List Int) : Prop where
  dom : D x
  good : ok x = true
  least : ∀ y, D y → ok y = true → shorterL y x = false
theorem IsMin.congr {ok ok' : List Int → Bool} {D D' : List Int → Prop} {x : List Int} (h : IsMin ok D x) (hd : ∀ y, D y ↔ D' y) (hok : ∀ y, D y → ok y = ok' y) : IsMin ok' D' x :=
  ⟨(hd x).1 h.dom, by rw [← hok x h.dom]; exact h.good, fun y hy ho => h.least y ((hd y).2 hy) (by rw [hok y ((hd y).2 hy)]; exact ho)⟩
theorem find_min {ok : List Int → Bool} {l : List (List Int)} (hs : l.Pairwise fun a b => shorterL a b = true) {x : List Int} (h : l.find? ok = some x) : IsMin ok (· ∈ l) x := by
  obtain ⟨h1, l1, bs, rfl, h2⟩ := List.find?_eq_some_iff_append.1 h
  refine ⟨by simp, h1, fun y hy ho => ?_⟩
  rw [List.pairwise_append] at hs
  rcases List.mem_append.1 hy with hy | hy
  · have := h2 y hy; rw [ho] at this; cases this
  · rcases List.mem_cons.1 hy with rfl | hy
    · exact shorter_irr _
    · exact shorter_asym ((List.pairwise_cons.1 hs.2.1).1 y hy)
theorem tryAll_find {ok : List Int → Bool} : ∀ {l : List (List Int)} {x : List Int} (old : List Int), l.find? ok = some x → tryAll ok old l = x
  | [], x, _, h => by cases h
  | y :: l, x, old, h => by
    rw [tryAll]
    rw [List.find?_cons] at h
    cases hy : ok y
    · rw [hy] at h; simp only [Bool.false_eq_true, if_false]; exact tryAll_find y h
    · rw [hy] at h; cases h; rfl
theorem any_find {α : Type} {ok : α → Bool} {l : List α} (h : l.any ok = true) : ∃ x, l.find? ok = some x := by
  cases hf : l.find? ok with
  | some x => exact ⟨x, rfl⟩
  | none =>
    rw [List.any_eq_true] at h
    obtain ⟨x, hx, ho⟩ := h
    exact absurd ho (List.find?_eq_none.1 hf x hx)
def Inc (n : Nat) (x : List Int) : Prop := x.Pairwise (· < ·) ∧ ∀ a ∈ x, ∃ i : Nat, a = (i : Int) ∧ i < n
def IncF (n : Nat) : Nat → List Int → Prop
  | _, [] => True
  | f, a :: l => ∃ i : Nat, a = (i : Int) ∧ f ≤ i ∧ i < n ∧ IncF n (i + 1) l
theorem IncF.room {n : Nat} : ∀ {l : List Int} {f : Nat}, IncF n f l → l ≠ [] → f + l.length ≤ n
  | [], _, _, h => absurd rfl h
  | a :: l, f, h, _ => by
    obtain ⟨i, rfl, h1, h2, h3⟩ := h
    cases l with
    | nil => simp; omega
    | cons b l => have := h3.room (by simp); simp only [List.length_cons] at this ⊢; omega
theorem incF_iff {n : Nat} : ∀ {l : List Int} {f : Nat}, IncF n f l ↔ l.Pairwise (· < ·) ∧ ∀ a ∈ l, ∃ i : Nat, a = (i : Int) ∧ f ≤ i ∧ i < n
  | [], f => by simp [IncF]
  | a :: l, f => by
    rw [List.pairwise_cons]
    constructor
    · rintro ⟨i, rfl, h1, h2, h3⟩
      obtain ⟨k1, k2⟩ := (incF_iff (l := l) (f := i + 1)).1 h3
      refine ⟨⟨fun b hb => ?_, k1⟩, fun b hb => ?_⟩
      · obtain ⟨j, rfl, h4, h5⟩ := k2 b hb; omega
      · rcases List.mem_cons.1 hb with rfl | hb
        · exact ⟨i, rfl, h1, h2⟩
        · obtain ⟨j, rfl, h4, h5⟩ := k2 b hb; exact ⟨j, rfl, by omega, h5⟩
    · rintro ⟨⟨h1, h2⟩, h3⟩
      obtain ⟨i, rfl, h4, h5⟩ := h3 a List.mem_cons_self
      refine ⟨i, rfl, h4, h5, incF_iff.2 ⟨h2, fun b hb => ?_⟩⟩
      obtain ⟨j, rfl, h6, h7⟩ := h3 b (List.mem_cons_of_mem _ hb)
      have := h1 _ hb
      exact ⟨j, rfl, by omega, h7⟩
theorem inc_incF {n : Nat} {l : List Int} : Inc n l ↔ IncF n 0 l := by
  rw [incF_iff, Inc]; simp
theorem mem_combos (n : Nat) : ∀ (k f : Nat) (pre x : List Int), x ∈ combos n k pre f ↔ ∃ s, x = pre ++ s ∧ s.length = k ∧ IncF n f s
  | 0, f, pre, x => by
    simp only [combos, List.mem_singleton]
    constructor
    · rintro rfl; exact ⟨[], by simp, rfl, trivial⟩
    · rintro ⟨s, rfl, h, _⟩; rw [List.length_eq_zero_iff.1 h]; simp
  | k + 1, f, pre, x => by
    simp only [combos, List.mem_flatMap, List.mem_range]
    constructor
    · rintro ⟨j, hj, hx⟩
      obtain ⟨s, rfl, h1, h2⟩ := (mem_combos n k _ _ _).1 hx
      exact ⟨((f + j : Nat) : Int) :: s, by simp, by simp [h1], f + j, rfl, by omega, by omega, h2⟩
    · rintro ⟨s, rfl, h1, h2⟩
      cases s with
      | nil => simp at h1
      | cons a s =>
        obtain ⟨i, rfl, h3, h4, h5⟩ := h2
        simp only [List.length_cons] at h1
        have hroom : i + k < n := by
          rcases Nat.eq_zero_or_pos s.length with h | h
          · omega
          · have := h5.room (List.length_pos_iff.1 h); omega
        refine ⟨i - f, by omega, (mem_combos n k _ _ _).2 ⟨s, ?_, by omega, ?_⟩⟩
        · rw [show f + (i - f) = i by omega]; simp
        · rw [show f + (i - f) = i by omega]; exact h5
theorem combos_sorted (n : Nat) : ∀ (k f : Nat) (pre : List Int), (combos n k pre f).Pairwise fun a b => beforeL a b = true
  | 0, _, _ => by simp [combos]
  | k + 1, f, pre => by
    rw [combos, List.pairwise_flatMap]
    refine ⟨fun j _ => combos_sorted n k _ _, ?_⟩
    refine List.Pairwise.imp ?_ List.pairwise_lt_range
    intro a b hab x hx y hy
    obtain ⟨s1, rfl, _⟩ := (mem_combos n k _ _ _).1 hx
    obtain ⟨s2, rfl, _⟩ := (mem_combos n k _ _ _).1 hy
    rw [List.append_assoc, List.append_assoc, before_pre]
    simp only [List.singleton_append, beforeL]
    rw [if_neg (by omega)]; exact decide_eq_true (by omega)
def combosAll (n : Nat) : List (List Int) := (List.range (n + 1)).flatMap fun k => combos n k [] 0
theorem by_length {f : Nat → List (List Int)} {m : Nat} (h1 : ∀ k, (f k).Pairwise fun a b => beforeL a b = true) (h2 : ∀ k, ∀ x ∈ f k, x.length = k) : ((List.range m).flatMap f).Pairwise fun a b => shorterL a b = true := by
  rw [List.pairwise_flatMap]
  refine ⟨fun k _ => ?_, ?_⟩
  · refine List.Pairwise.imp_of_mem ?_ (h1 k)
    intro a b ha hb hab
    rw [shorter_iff]
    exact .inr ⟨by rw [h2 k a ha, h2 k b hb], hab⟩
  · refine List.Pairwise.imp ?_ List.pairwise_lt_range
    intro a b hab x hx y hy
    rw [shorter_iff]
    exact .inl (by rw [h2 a x hx, h2 b y hy]; exact hab)
theorem combosAll_sorted (n : Nat) : (combosAll n).Pairwise fun a b => shorterL a b = true :=
  by_length (fun k => combos_sorted n k 0 []) fun k x hx => by
    obtain ⟨s, rfl, h, _⟩ := (mem_combos n k 0 [] x).1 hx
    simpa using h
theorem mem_combosAll {n : Nat} {x : List Int} : x ∈ combosAll n ↔ Inc n x := by
  simp only [combosAll, List.mem_flatMap, List.mem_range, mem_combos, inc_incF, List.nil_append]
  constructor
  · rintro ⟨k, _, s, rfl, _, h⟩; exact h
  · intro h
    refine ⟨x.length, ?_, x, rfl, rfl, h⟩
    rcases Nat.eq_zero_or_pos x.length with h0 | h0
    · omega
    · have := h.room (List.length_pos_iff.1 h0); omega
theorem tryAll_min {ok : List Int → Bool} {n : Nat} {x : List Int} (hx : Inc n x) (ho : ok x = true) : IsMin ok (Inc n) (tryAll ok [] (combosAll n)) := by
  obtain ⟨y, hy⟩ := any_find (ok := ok) (l := combosAll n) (List.any_eq_true.2 ⟨x, mem_combosAll.2 hx, ho⟩)
  rw [tryAll_find [] hy]
  exact (find_min (combosAll_sorted n) hy).congr (fun y => mem_combosAll) (fun _ _ => rfl)
theorem bitsUpto_sorted (m p : Nat) : (bitsUpto m p).Pairwise (· < ·) := by
  rw [bitsUpto]
  refine List.Pairwise.map Int.ofNat (fun a b hab => ?_) (List.Pairwise.filter _ List.pairwise_lt_range)
  exact Int.ofNat_lt.2 hab
theorem bits_inc {n m : Nat} (hn : n ≤ 62) (hm : m < 2 ^ n) : Inc n (bitsL m) := by
  rw [bitsL_of hn hm]
  refine ⟨bitsUpto_sorted m n, fun a ha => ?_⟩
  simp only [bitsUpto, List.mem_map, List.mem_filter, List.mem_range] at ha
  obtain ⟨i, h, rfl⟩ := ha
  exact ⟨i, rfl, h.1⟩
end Go.Lift

set_option linter.unusedSimpArgs false
set_option linter.unusedVariables false
namespace Go.Lift
open Go Go.Proofs
/-- The house with other signs. -/
def reS (h : House) (ss : List Sign) : House := { h with signs := ss }
def sgn (bs : List Bool) (s : Sign) : Bool := bs.getD s.thing.toNat false == s.carries
theorem enumH_reS (h : House) (ss : List Sign) : ∀ (k : Nat) (pre : List Int), enumH (reS h ss) k pre = enumH h k pre
  | 0, _ => rfl
  | k + 1, pre => by
    simp only [enumH]
    congr 1
    funext n
    exact enumH_reS h ss k _
theorem allC_reS (h : House) (ss : List Sign) : allC (reS h ss) = allC h := by
  unfold allC
  congr 1
  funext o
  unfold coursesOf
  rw [enumH_reS]; rfl
theorem timesUpto_reS (h : House) (ss : List Sign) (m : Int) : ∀ j, timesUpto (reS h ss) m j = timesUpto h m j
  | 0 => rfl
  | j + 1 => by simp only [timesUpto, timesUpto_reS h ss m j]; rfl
theorem check_zero (h : House) : checkHouse h = 0 ↔ ¬ bigH h ∧ askErr h.table = 0 ∧ ¬ badH h ∧ allH h ∧ ¬ 2000 < manyH h := by
  unfold checkHouse
  by_cases h1 : bigH h
  · simp [h1]
  by_cases h2 : askErr h.table = 0
  rotate_left
  · simp [h1, h2]
  by_cases h3 : badH h
  · simp [h1, h2, h3]
  by_cases h4 : allH h
  rotate_left
  · simp [h1, h2, h3, h4]
  by_cases h5 : 2000 < manyH h
  · simp [h1, h2, h3, h4, h5]
  · simp [h1, h2, h3, h4, h5]
theorem check_reS {h : House} (hc : checkHouse h = 0) {ss : List Sign} (h5 : ss.length ≤ 5) (ht : ∀ s ∈ ss, thingOK h s.thing = true) : checkHouse (reS h ss) = 0 := by
  rw [check_zero] at hc ⊢
  obtain ⟨h1, h2, h3, h4, h6⟩ := hc
  refine ⟨?_, h2, h3, ⟨h4.1, h4.2.1, List.all_eq_true.2 ht⟩, ?_⟩
  · rintro (k | k | k | k | k)
    · exact h1 (.inl k)
    · exact h1 (.inr (.inl k))
    · exact h1 (.inr (.inr (.inl k)))
    · exact h1 (.inr (.inr (.inr (.inl k))))
    · have : (reS h ss).signs.length = ss.length := rfl
      omega
  · have : manyH (reS h ss) = manyH h := timesUpto_reS h ss _ _
    rw [this]; exact h6
theorem range_all {α : Type} (d : α) (l : List α) (p : α → Bool) : ((List.range l.length).all fun i => p (l.getD i d)) = l.all p := by
  rw [Bool.eq_iff_iff, List.all_eq_true, List.all_eq_true]
  constructor
  · intro h x hx
    obtain ⟨i, hi, rfl⟩ := List.getElem_of_mem hx
    have := h i (List.mem_range.2 hi)
    simpa [List.getD_eq_getElem?_getD, hi] using this
  · intro h i hi
    have hi' := List.mem_range.1 hi
    have : l.getD i d = l[i] := by simp [List.getD_eq_getElem?_getD, hi']
    rw [this]; exact h _ (List.getElem_mem _)
theorem isTrue_nil (h : House) (c : Course) : isTrue h [] c = h.signs.all (sgn (lastOf h c [])) := by
  rw [← range_all default, isTrue, rightOK]
  congr 1
  funext i
  unfold signRight sgn
  generalize (lastOf h c []).getD _ false = a
  generalize Sign.carries _ = b
  cases a <;> cases b <;> simp
theorem allC_ne {h : House} (hv : HV h) : ∃ c, c ∈ allC h := by
  have h1 : truthsT h.table ≠ [] := by
    intro h0
    have := hv.ask
    rw [askErr, if_pos hv.tab, if_pos h0] at this; cases this
  have h2 : truthsR h.table ≠ [] := fun h0 => h1 ((truths_nil hv.tab).1 h0)
  obtain ⟨o, l, ho⟩ := List.exists_cons_of_ne_nil h2
  have h3 : isTruthT h.table o = true := (truthsR_mem hv.tab o).1 (by rw [ho]; simp)
  refine ⟨⟨o, h.touches.map (·.lo)⟩, (mem_allC hv.tab _).2 ?_⟩
  rw [courseOK, h3, hoursOK]
  simp only [Bool.true_and, List.length_map, decide_true, List.all_eq_true, List.mem_range, decide_eq_true_eq]
  intro i hi
  have := hv.tim _ (List.getElem_mem hi)
  simp [List.getD_eq_getElem?_getD, hi]; omega
theorem mem_bitsL (m i : Nat) : (i : Int) ∈ bitsL m ↔ i < 62 ∧ m.testBit i = true := by
  simp only [bitsL, bitsUpto, List.mem_map, List.mem_filter, List.mem_range]
  constructor
  · rintro ⟨j, hj, e⟩
    have : j = i := by
      have : ((j : Nat) : Int) = (i : Int) := e
      omega
    subst this; exact hj
  · intro hi; exact ⟨i, hi, rfl⟩
end Go.Lift

set_option linter.unusedSimpArgs false
set_option linter.unusedVariables false
namespace Go.Lift
open Go Go.Proofs
def Le (c d : List Bool) : Prop := ∀ i, c.getD i false = true → d.getD i false = true
def Zer (c : List Bool) : Prop := ∀ i, c.getD i false = false
theorem getD_set (c : List Bool) (k i : Nat) (b : Bool) (hk : k < c.length) : (c.set k b).getD i false = if i = k then b else c.getD i false := by
  simp only [List.getD_eq_getElem?_getD, List.getElem?_set, hk, if_true]
  by_cases h : k = i
  · subst h; simp
  · rw [if_neg h, if_neg (fun e => h e.symm)]
theorem fold_rel {α β : Type} {R : α → β → Prop} {f : α → Nat → α} {g : β → Nat → β} : ∀ (n : Nat) {a : α} {b : β}, R a b → (∀ i x y, i < n → R x y → R (f x i) (g y i)) → R ((List.range n).foldl f a) ((List.range n).foldl g b)
  | 0, _, _, h, _ => h
  | n + 1, a, b, h, hs => by
    rw [List.range_succ, List.foldl_append, List.foldl_append]
    exact hs n _ _ (by omega) (fold_rel n h fun i x y hi => hs i x y (by omega))
theorem startOf_get (h : House) (o : List Int) : ∀ j, j ≤ 10 → ∀ i, (startOf h o j).getD i false = (decide (i < j) && decide (o.getD i 0 ∈ h.sick))
  | 0, _, i => by
    simp only [startOf, List.range_zero, List.foldl_nil, List.getD_eq_getElem?_getD, List.getElem?_replicate]
    split <;> simp
  | j + 1, hj, i => by
    have e : startOf h o (j + 1) = sickAt h o (startOf h o j) j := range_fold _ _ _
    rw [e, sickAt, getD_set _ _ _ _ (by rw [startOf_len]; omega), startOf_get h o j (by omega)]
    by_cases hi : i = j
    · subst hi; simp
    · rw [if_neg hi]
      by_cases h1 : i < j
      · simp [h1, show i < j + 1 by omega]
      · simp [h1, show ¬ i < j + 1 by omega]
theorem boilOf_get (keys : List (Int × Int)) (k : Int) (c : List Bool) (hc : c.length = 10) : ∀ j, j ≤ 10 → ∀ i, (boilOf keys k c j).getD i false = (c.getD i false && !(decide (i < j) && decide (((i : Int), k) ∈ keys)))
  | 0, _, i => by simp [boilOf]
  | j + 1, hj, i => by
    have e : boilOf keys k c (j + 1) = boilAt keys k (boilOf keys k c j) j := range_fold _ _ _
    have ih := boilOf_get keys k c hc j (by omega)
    rw [e, boilAt]
    by_cases hk : ((j : Int), k) ∈ keys
    · rw [if_pos hk, getD_set _ _ _ _ (by rw [boilOf_len keys k c j hc]; omega), ih]
      by_cases hi : i = j
      · subst hi; simp [hk]
      · rw [if_neg hi]
        by_cases h1 : i < j
        · simp [h1, show i < j + 1 by omega]
        · simp [h1, show ¬ i < j + 1 by omega]
    · rw [if_neg hk, ih]
      by_cases hi : i = j
      · subst hi; simp [hk]
      · by_cases h1 : i < j
        · simp [h1, show i < j + 1 by omega]
        · simp [h1, show ¬ i < j + 1 by omega]
def tA (h : House) (i : Nat) : Nat := (h.touches.getD i default).a.toNat
def tB (h : House) (i : Nat) : Nat := (h.touches.getD i default).b.toNat
theorem touchAt_get (h : House) (hrs : List Int) (k : Int) (c : List Bool) (i n : Nat) (ha : tA h i < c.length) (hb : tB h i < c.length) :
    (touchAt h hrs k c i).getD n false = (c.getD n false || (decide (hrs.getD i 0 = k) && (c.getD (tA h i) false || c.getD (tB h i) false) && (decide (n = tA h i) || decide (n = tB h i)))) := by
  have e : touchAt h hrs k c i = if hrs.getD i 0 = k ∧ (c.getD (tA h i) false || c.getD (tB h i) false) = true then (c.set (tA h i) true).set (tB h i) true else c := rfl
  rw [e]
  by_cases hc : hrs.getD i 0 = k ∧ (c.getD (tA h i) false || c.getD (tB h i) false) = true
  · rw [if_pos hc, getD_set _ _ _ _ (by rw [List.length_set]; exact hb), getD_set _ _ _ _ ha, hc.2, decide_eq_true hc.1]
    by_cases h1 : n = tB h i
    · simp [h1]
    · by_cases h2 : n = tA h i
      · simp [h1, h2]
      · simp [h1, h2]
  · rw [if_neg hc]
    by_cases h1 : hrs.getD i 0 = k
    · have h2 : (c.getD (tA h i) false || c.getD (tB h i) false) = false := by
        rw [Bool.eq_false_iff]; exact fun h2 => hc ⟨h1, h2⟩
      rw [h2]; simp
    · rw [decide_eq_false h1]; simp
theorem tAB {h : House} (hk : HOK h) {i : Nat} (hi : i < h.touches.length) : tA h i < 10 ∧ tB h i < 10 := by
  obtain ⟨a, b, h1, h2, h3, h4⟩ := hk.touch _ (List.getElem_mem hi)
  have e : h.touches.getD i default = h.touches[i] := by simp [List.getD_eq_getElem?_getD, hi]
  rw [tA, tB, e, h1, h2]
  exact ⟨by omega, by omega⟩
def Le10 (c d : List Bool) : Prop := c.length = 10 ∧ d.length = 10 ∧ Le c d
theorem touchAt_le {h x : House} {hrs hrs' : List Int} {k : Int} {c d : List Bool} {i : Nat} (ha : tA h i < 10) (hb : tB h i < 10) (ea : tA x i = tA h i) (eb : tB x i = tB h i) (eh : hrs'.getD i 0 = hrs.getD i 0) (hl : Le10 c d) :
    Le10 (touchAt h hrs k c i) (touchAt x hrs' k d i) := by
  obtain ⟨h1, h2, h3⟩ := hl
  refine ⟨touchAt_len _ _ _ _ _ h1, touchAt_len _ _ _ _ _ h2, fun n hn => ?_⟩
  rw [touchAt_get _ _ _ _ _ _ (by omega) (by omega)] at hn ⊢
  rw [ea, eb, eh]
  simp only [Bool.or_eq_true, Bool.and_eq_true] at hn ⊢
  rcases hn with hn | ⟨⟨q1, q2⟩, q3⟩
  · exact .inl (h3 _ hn)
  · refine .inr ⟨⟨q1, ?_⟩, q3⟩
    rcases q2 with q2 | q2
    · exact .inl (h3 _ q2)
    · exact .inr (h3 _ q2)
theorem touchAt_more {x : House} {hrs : List Int} {k : Int} {c d : List Bool} {i : Nat} (ha : tA x i < 10) (hb : tB x i < 10) (hl : Le10 c d) : Le10 c (touchAt x hrs k d i) := by
  obtain ⟨h1, h2, h3⟩ := hl
  refine ⟨h1, touchAt_len _ _ _ _ _ h2, fun n hn => ?_⟩
  rw [touchAt_get _ _ _ _ _ _ (by omega) (by omega), h3 n hn]; rfl
theorem touchOf_more {x : House} {hrs : List Int} {k : Int} {c d : List Bool} (n : Nat) (hx : ∀ i, i < x.touches.length → tA x i < 10 ∧ tB x i < 10) : ∀ m, n + m ≤ x.touches.length → Le10 c (touchOf x hrs k d n) → Le10 c (touchOf x hrs k d (n + m))
  | 0, _, h => h
  | m + 1, hm, h => by
    have e : touchOf x hrs k d (n + m + 1) = touchAt x hrs k (touchOf x hrs k d (n + m)) (n + m) := range_fold _ _ _
    have hb := hx (n + m) (by omega)
    rw [← Nat.add_assoc, e]
    exact touchAt_more hb.1 hb.2 (touchOf_more n hx m (by omega) h)
/-- What one house has more than another. -/
structure More (h x : House) (o o' hrs hrs' : List Int) (keys keys' : List (Int × Int)) : Prop where
  pcs : x.table.pieces.length = h.table.pieces.length
  things : nT x = nT h
  last : x.last = h.last
  own : ∀ i, i < h.table.pieces.length → o.getD i 0 ∈ h.sick → o'.getD i 0 ∈ x.sick
  keys : ∀ q, q ∈ keys' → q ∈ keys
  len : h.touches.length ≤ x.touches.length
  same : ∀ i, i < h.touches.length → tA x i = tA h i ∧ tB x i = tB h i ∧ hrs'.getD i 0 = hrs.getD i 0
theorem play_le {h x : House} (hk : HOK h) (xk : HOK x) {o o' hrs hrs' : List Int} {keys keys' : List (Int × Int)} (m : More h x o o' hrs hrs' keys keys') : Le (playOf h o hrs keys) (playOf x o' hrs' keys') := by
  have hp := hk.pcs
  have hn := nT_le hk
  have key : Le10 (playOf h o hrs keys) (playOf x o' hrs' keys') := by
    unfold playOf hoursOf
    rw [m.last]
    refine fold_rel (R := Le10) _ ⟨startOf_len _ _ _, startOf_len _ _ _, fun i hi => ?_⟩ ?_
    · rw [startOf_get _ _ _ (by omega), Bool.and_eq_true, decide_eq_true_eq, decide_eq_true_eq] at hi
      rw [startOf_get _ _ _ (by rw [m.pcs]; omega), m.pcs, decide_eq_true hi.1, decide_eq_true (m.own i hi.1 hi.2)]; rfl
    · intro k c d _ hl
      unfold hourAt
      obtain ⟨l1, l2, l3⟩ := hl
      have hb : Le10 (boilOf keys k c (nT h)) (boilOf keys' k d (nT x)) := by
        refine ⟨boilOf_len _ _ _ _ l1, boilOf_len _ _ _ _ l2, fun i hi => ?_⟩
        rw [boilOf_get _ _ _ l1 _ hn, Bool.and_eq_true] at hi
        rw [boilOf_get _ _ _ l2 _ (by rw [m.things]; exact hn), l3 i hi.1, m.things]
        cases hq : decide (((i : Int), (k : Int)) ∈ keys')
        · simp
        · have := m.keys _ (of_decide_eq_true hq)
          have h2 := hi.2
          rw [decide_eq_true this] at h2
          rw [h2]; rfl
      have hh : Le10 (touchOf h hrs k (boilOf keys k c (nT h)) h.touches.length) (touchOf x hrs' k (boilOf keys' k d (nT x)) h.touches.length) := by
        unfold touchOf
        refine fold_rel (R := Le10) _ hb fun i c d hi hl => ?_
        obtain ⟨s1, s2, s3⟩ := m.same i hi
        have hab := tAB hk hi
        exact touchAt_le hab.1 hab.2 s1 s2 s3 hl
      obtain ⟨q, hq⟩ := Nat.exists_eq_add_of_le m.len
      rw [hq]
      exact touchOf_more _ (fun i hi => tAB xk hi) q (by omega) hh
  exact key.2.2
theorem zer_touch {h : House} (hk : HOK h) {hrs : List Int} {k : Int} {c : List Bool} (hc : c.length = 10) (hz : Zer c) : ∀ j, j ≤ h.touches.length → Zer (touchOf h hrs k c j)
  | 0, _ => hz
  | j + 1, hj => fun n => by
    have e : touchOf h hrs k c (j + 1) = touchAt h hrs k (touchOf h hrs k c j) j := range_fold _ _ _
    have hab := tAB hk (show j < h.touches.length by omega)
    have hl := touchOf_len h hrs k c j hc
    have ih := zer_touch hk hc hz (hrs := hrs) (k := k) j (by omega)
    rw [e, touchAt_get _ _ _ _ _ _ (by omega) (by omega), ih, ih, ih]; simp
theorem hoursOf_succ (h : House) (o hrs : List Int) (keys : List (Int × Int)) (j : Nat) : hoursOf h o hrs keys (j + 1) = hourAt h hrs keys (hoursOf h o hrs keys j) j := range_fold _ _ _
theorem zer_boil {h : House} (hk : HOK h) {o hrs : List Int} {keys : List (Int × Int)} {k : Nat} (hb : ∀ i, (hoursOf h o hrs keys k).getD i false = true → i < nT h ∧ ((i : Int), (k : Int)) ∈ keys) : Zer (hoursOf h o hrs keys (k + 1)) := by
  have hl := hoursOf_len h o hrs keys k
  rw [hoursOf_succ, hourAt]
  refine zer_touch hk (boilOf_len _ _ _ _ hl) (fun i => ?_) _ (Nat.le_refl _)
  rw [boilOf_get _ _ _ hl _ (nT_le hk)]
  cases hi : (hoursOf h o hrs keys k).getD i false
  · rfl
  · obtain ⟨h1, h2⟩ := hb i hi
    rw [decide_eq_true h1, decide_eq_true h2]; rfl
theorem zer_more {h : House} (hk : HOK h) {o hrs : List Int} {keys : List (Int × Int)} {k : Nat} (hz : Zer (hoursOf h o hrs keys k)) : ∀ m, Zer (hoursOf h o hrs keys (k + m))
  | 0 => hz
  | m + 1 => zer_boil hk fun i hi => by
    have := zer_more hk hz m i
    rw [show (hoursOf h o hrs keys (k.add m)).getD i false = (hoursOf h o hrs keys (k + m)).getD i false from rfl, this] at hi; cases hi
theorem zer_play {h : House} (hk : HOK h) {o hrs : List Int} {keys : List (Int × Int)} {k : Nat} (hkl : k ≤ h.last.toNat + 1) (hz : Zer (hoursOf h o hrs keys k)) : Zer (playOf h o hrs keys) := by
  obtain ⟨m, hm⟩ := Nat.exists_eq_add_of_le hkl
  rw [playOf, hm]; exact zer_more hk hz m
theorem touch_lt {h : House} (hc : checkHouse h = 0) (hk : HOK h) {i : Nat} (hi : i < h.touches.length) : tA h i < nT h ∧ tB h i < nT h := by
  have h4 := (List.all_eq_true.1 ((check_zero h).1 hc).2.2.2.1.1) _ (List.getElem_mem hi)
  simp only [touchOK, Bool.and_eq_true] at h4
  have ha := h4.1.1.1.1.1
  have hb := h4.1.1.1.1.2
  have hn := nT_le hk
  have e : h.touches.getD i default = h.touches[i] := by simp [List.getD_eq_getElem?_getD, hi]
  simp only [thingOK, thingsW_ok hk, decide_eq_true_eq, w64 (x := (nT h : Int) - 1) (by omega) (by omega)] at ha hb
  rw [tA, tB, e]; omega
theorem things_sub {h : House} (hc : checkHouse h = 0) (hk : HOK h) (o hrs : List Int) (keys : List (Int × Int)) : ∀ j i, (hoursOf h o hrs keys j).getD i false = true → i < nT h
  | 0, i, hi => by
    have hp := hk.pcs
    have : hoursOf h o hrs keys 0 = startOf h o h.table.pieces.length := rfl
    rw [this, startOf_get _ _ _ (by omega), Bool.and_eq_true, decide_eq_true_eq] at hi
    have := hi.1
    unfold nT; omega
  | j + 1, i, hi => by
    have hl := hoursOf_len h o hrs keys j
    have ih := things_sub hc hk o hrs keys j
    rw [hoursOf_succ, hourAt] at hi
    have : ∀ m, m ≤ h.touches.length → ∀ i, (touchOf h hrs j (boilOf keys j (hoursOf h o hrs keys j) (nT h)) m).getD i false = true → i < nT h := by
      intro m
      induction m with
      | zero =>
        intro _ i hi
        have e : touchOf h hrs j (boilOf keys j (hoursOf h o hrs keys j) (nT h)) 0 = boilOf keys j (hoursOf h o hrs keys j) (nT h) := rfl
        rw [e, boilOf_get _ _ _ hl _ (nT_le hk), Bool.and_eq_true] at hi
        exact ih i hi.1
      | succ m imh =>
        intro hm i hi
        have e : touchOf h hrs j (boilOf keys j (hoursOf h o hrs keys j) (nT h)) (m + 1) = touchAt h hrs j (touchOf h hrs j (boilOf keys j (hoursOf h o hrs keys j) (nT h)) m) m := range_fold _ _ _
        have hab := tAB hk (show m < h.touches.length by omega)
        have hlt := touch_lt hc hk (show m < h.touches.length by omega)
        have hl2 := touchOf_len h hrs j _ m (boilOf_len keys j _ (nT h) hl)
        rw [e, touchAt_get _ _ _ _ _ _ (by omega) (by omega)] at hi
        simp only [Bool.or_eq_true, Bool.and_eq_true, decide_eq_true_eq] at hi
        rcases hi with hi | ⟨_, rfl | rfl⟩
        · exact imh (by omega) i hi
        · exact hlt.1
        · exact hlt.2
    exact this _ (Nat.le_refl _) i hi
theorem safe_zer {h : House} {c : Course} {more : List Boiling} (hz : Zer (lastOf h c more)) : safeC h more c = true := by
  rw [safeC, List.all_eq_true]
  intro i _
  rw [safeAt, hz i]; rfl
theorem safe_iff (h : House) (more : List Boiling) (c : Course) : safeC h more c = true ↔ ∀ i, i < h.table.pieces.length → (lastOf h c more).getD i false = true → (pad7 c.owners).getD i 0 ∈ h.sick := by
  rw [safeC, List.all_eq_true]
  constructor
  · intro hall i hi ht
    have := hall i (List.mem_range.2 hi)
    rw [safeAt, ht] at this
    simpa using this
  · intro hall i hi
    rw [safeAt]
    cases ht : (lastOf h c more).getD i false
    · rfl
    · rw [decide_eq_true (hall i (List.mem_range.1 hi) ht)]; rfl
theorem safeP_iff (h : House) (more : List Boiling) : safeP h more = true ↔ ∀ c ∈ truH h [], safeC h more c = true := by
  rw [safeP, List.all_eq_true]
/-- All that is boiled in an hour keeps all safe. -/
theorem boil_all {h : House} (hc : checkHouse h = 0) (hk : HOK h) {k : Nat} (hkl : (k : Int) ≤ h.last) {l : List Int} (hl : ∀ i, i < nT h → (i : Int) ∈ l) (c : Course) : safeC h (atOf l k) c = true := by
  refine safe_zer (zer_play hk (k := k + 1) (by omega) (zer_boil hk fun i hi => ?_))
  have hi := things_sub hc hk _ _ _ _ i hi
  refine ⟨hi, ?_⟩
  simp only [List.map_append, List.mem_append, atOf, List.map_map, List.mem_map]
  exact .inr ⟨(i : Int), hl i hi, rfl⟩
end Go.Lift

set_option linter.unusedSimpArgs false
set_option linter.unusedVariables false
namespace Go.Lift
open Go Go.Proofs
theorem hour_nat {h : House} {k : Int} (hh : hourOK h k = true) : ∃ n : Nat, k = (n : Int) ∧ (n : Int) ≤ h.last := by
  rw [hourOK, decide_eq_true_eq] at hh
  exact ⟨k.toNat, by omega, by omega⟩
theorem boil_full {h : House} (hc : checkHouse h = 0) (hk : HOK h) {k : Int} (hh : hourOK h k = true) : safeP h (atOf (bitsL (2 ^ nT h - 1)) k) = true := by
  obtain ⟨n, rfl, hn⟩ := hour_nat hh
  have := nT_le hk
  rw [safeP_iff]
  refine fun c _ => boil_all hc hk hn (fun i hi => (mem_bitsL _ _).2 ⟨by omega, ?_⟩) c
  rw [Nat.testBit_two_pow_sub_one]; exact decide_eq_true hi
theorem boil_min {h : House} (hc : checkHouse h = 0) (hk : HOK h) {k : Int} (hh : hourOK h k = true) : IsMin (fun x => safeP h (atOf x k)) (Inc (nT h)) (boilOf' h k) := by
  have hn := nT_le hk
  exact tryAll_min (ok := fun x => safeP h (atOf x k)) (n := nT h) (bits_inc (m := 2 ^ nT h - 1) (by omega) (by have : 1 ≤ 2 ^ nT h := Nat.one_le_two_pow; omega)) (boil_full hc hk hh)
theorem inc_len {n : Nat} {x : List Int} (h : Inc n x) : x.length ≤ n := by
  rcases Nat.eq_zero_or_pos x.length with h0 | h0
  · omega
  · have := (inc_incF.1 h).room (List.length_pos_iff.1 h0); omega
end Go.Lift

set_option linter.unusedSimpArgs false
set_option linter.unusedVariables false
namespace Go.Lift
open Go Go.Proofs
theorem ask_zero {h : House} (h1 : checkHouse h = 0) (h2 : truH h [] ≠ []) : askErrH h true = 0 := by
  rw [askErrH, if_pos h1, if_pos rfl, if_neg h2]
theorem boilOf_len' {h : House} (hc : checkHouse h = 0) (hk : HOK h) {k : Int} (hh : hourOK h k = true) : (boilOf' h k).length ≤ 10 := by
  have h1 := inc_len (boil_min hc hk hh).dom
  have h2 := nT_le hk
  omega
end Go.Lift

set_option linter.unusedSimpArgs false
set_option linter.unusedVariables false
namespace Go.Lift
open Go Go.Proofs
theorem isWhose_iff {h : House} (ht : truH h [] ≠ []) (w : Nat) : isWhose h w = true ↔ ∃ c ∈ truH h [], harmedP h w c = true := by
  rw [isWhose, verdictOf, decide_eq_true_eq]
  have hpos : 0 < (truH h []).length := List.length_pos_iff.2 ht
  have key : (∃ c ∈ truH h [], harmedP h w c = true) ↔ (truH h []).countP (harmedP h w) ≠ 0 := by
    rw [Ne, List.countP_eq_zero]
    constructor
    · rintro ⟨x, hx, hp⟩ hall; exact hall x hx hp
    · intro hne; exact Classical.byContradiction fun hno => hne fun x hx hp => hno ⟨x, hx, hp⟩
  rw [key]
  by_cases h1 : (truH h []).countP (harmedP h w) = (truH h []).length
  · rw [if_pos h1]
    exact ⟨fun _ => by omega, fun _ => by decide⟩
  · rw [if_neg h1]
    by_cases h2 : (truH h []).countP (harmedP h w) = 0
    · rw [if_pos h2]; simp [h2]
    · rw [if_neg h2]; exact ⟨fun _ => h2, fun _ => by decide⟩
theorem harmedP_iff (h : House) (w : Int) (c : Course) : harmedP h w c = true ↔ ∃ i, i < h.table.pieces.length ∧ (lastOf h c []).getD i false = true ∧ (pad7 c.owners).getD i 0 = w ∧ ¬ (pad7 c.owners).getD i 0 ∈ h.sick := by
  rw [harmedP, List.any_eq_true]
  constructor
  · rintro ⟨i, hi, hh⟩
    simp only [harmedAt, Bool.and_eq_true, decide_eq_true_eq, Bool.not_eq_true', decide_eq_false_iff_not] at hh
    exact ⟨i, List.mem_range.1 hi, hh.1.1, hh.1.2, hh.2⟩
  · rintro ⟨i, hi, h1, h2, h3⟩
    refine ⟨i, List.mem_range.2 hi, ?_⟩
    simp only [harmedAt, Bool.and_eq_true, decide_eq_true_eq, Bool.not_eq_true', decide_eq_false_iff_not]
    exact ⟨⟨h1, h2⟩, h3⟩
theorem mem_whoseS (h : House) (w : Int) : w ∈ whoseS h ↔ ∃ n : Nat, w = (n : Int) ∧ n < h.table.women.length ∧ isWhose h n = true := by
  simp only [whoseS, whoseUpto, List.mem_map, List.mem_filter, List.mem_range]
  constructor
  · rintro ⟨n, ⟨h1, h2⟩, rfl⟩; exact ⟨n, rfl, h1, h2⟩
  · rintro ⟨n, rfl, h1, h2⟩; exact ⟨n, ⟨h1, h2⟩, rfl⟩
end Go.Lift

set_option linter.unusedSimpArgs false
set_option linter.unusedVariables false
namespace Go.Lift
open Go Go.Proofs
theorem verdict_two {α : Type} {l : List α} (hl : l ≠ []) (p : α → Bool) : verdictOf (l.countP p) l.length = 2 ↔ ∀ c ∈ l, p c = false := by
  have hpos := List.length_pos_iff.2 hl
  have key : (∀ c ∈ l, p c = false) ↔ l.countP p = 0 := by
    rw [List.countP_eq_zero]
    exact ⟨fun h c hc => by rw [h c hc]; simp, fun h c hc => by simpa using h c hc⟩
  rw [key, verdictOf]
  by_cases h1 : l.countP p = l.length
  · rw [if_pos h1]
    exact ⟨fun h => by omega, fun h => by omega⟩
  · rw [if_neg h1]
    by_cases h2 : l.countP p = 0
    · rw [if_pos h2]; exact ⟨fun _ => h2, fun _ => rfl⟩
    · rw [if_neg h2]; exact ⟨fun h => by omega, fun h => absurd h h2⟩
/-- One house has the same things, and no other truths. -/
structure SubH (x h : House) : Prop where
  pcs : x.table.pieces.length = h.table.pieces.length
  wom : x.table.women.length = h.table.women.length
  sick : x.sick = h.sick
  nT : nT x = nT h
  last : ∀ c more, lastOf x c more = lastOf h c more
  tru : ∀ c ∈ truH x [], c ∈ truH h []
theorem SubH.ne {x h : House} (s : SubH x h) (hx : truH x [] ≠ []) : truH h [] ≠ [] := by
  obtain ⟨c, l, e⟩ := List.exists_cons_of_ne_nil hx
  intro h0
  have := s.tru c (by rw [e]; simp)
  rw [h0] at this; cases this
theorem SubH.whose {x h : House} (s : SubH x h) (hx : truH x [] ≠ []) (w : Nat) (hw : isWhose x w = true) : isWhose h w = true := by
  rw [isWhose_iff hx] at hw
  rw [isWhose_iff (s.ne hx)]
  obtain ⟨c, hc, hp⟩ := hw
  refine ⟨c, s.tru c hc, ?_⟩
  rw [harmedP_iff] at hp ⊢
  rw [s.pcs, s.last, s.sick] at hp
  exact hp
theorem SubH.len {x h : House} (s : SubH x h) (hx : truH x [] ≠ []) : (whoseS x).length ≤ (whoseS h).length := by
  rw [whoseS, whoseS, whoseUpto, whoseUpto, List.length_map, List.length_map, ← List.countP_eq_length_filter, ← List.countP_eq_length_filter, s.wom]
  exact List.countP_mono_left fun w _ hw => s.whose hx w hw
theorem SubH.safe {x h : House} (s : SubH x h) (more : List Boiling) (hs : safeP h more = true) : safeP x more = true := by
  rw [safeP_iff] at hs ⊢
  intro c hc
  have := hs c (s.tru c hc)
  rw [safe_iff] at this ⊢
  rw [s.pcs, s.last, s.sick]; exact this
theorem SubH.boil {x h : House} (s : SubH x h) (cx : checkHouse x = 0) (kx : HOK x) (ch : checkHouse h = 0) (kh : HOK h) {k : Int} (hx : hourOK x k = true) (hh : hourOK h k = true) : (boilOf' x k).length ≤ (boilOf' h k).length := by
  have m1 := boil_min cx kx hx
  have m2 := boil_min ch kh hh
  have := m1.least (boilOf' h k) (by rw [s.nT]; exact m2.dom) (s.safe _ m2.good)
  rw [Bool.eq_false_iff, Ne, shorter_iff] at this
  apply Classical.byContradiction
  intro hn; exact this (.inl (by omega))
theorem truH_reS (h : House) (ss : List Sign) (c : Course) : c ∈ truH (reS h ss) [] ↔ c ∈ allC h ∧ ∀ s ∈ ss, sgn (lastOf h c []) s = true := by
  rw [truH, List.mem_filter, allC_reS, isTrue_nil, List.all_eq_true]; rfl
theorem truH_self (h : House) (c : Course) : c ∈ truH h [] ↔ c ∈ allC h ∧ ∀ s ∈ h.signs, sgn (lastOf h c []) s = true := truH_reS h h.signs c
end Go.Lift

set_option linter.unusedSimpArgs false
set_option linter.unusedVariables false
namespace Go.Lift
open Go Go.Proofs
theorem tru_nil (h : House) (c : Course) : c ∈ truH (reS h []) [] ↔ c ∈ allC h := by
  rw [truH_reS]; simp
theorem nil_ne {h : House} (hv : HV h) : truH (reS h []) [] ≠ [] := by
  obtain ⟨c, hc⟩ := allC_ne hv
  intro h0
  have := (tru_nil h c).2 hc
  rw [h0] at this; cases this
theorem check_nil {h : House} (hc : checkHouse h = 0) : checkHouse (reS h []) = 0 := check_reS hc (by simp) fun s hs => by cases hs
theorem truth_who {t : Table} (hc : checkTable t = 0) {o : List Int} (ho : isTruthT t o = true) {i : Nat} (hi : i < t.pieces.length) : o.getD i 0 ∈ (whoseT t).getD i [] := by
  have := truth_whose hc ho
  rw [enumW_eq, mem_enumG] at this
  obtain ⟨suf, e, h1, h2⟩ := this
  rw [List.nil_append] at e
  subst e
  have := h2 i hi
  rw [List.length_nil, Nat.zero_add] at this
  exact this
end Go.Lift

set_option linter.unusedSimpArgs false
set_option linter.unusedVariables false
namespace Go.Lift
open Go Go.Proofs
theorem le_antisymm' {c d : List Bool} (hl : c.length = d.length) (h1 : Le c d) (h2 : Le d c) : c = d := by
  refine List.ext_getElem hl fun i hi hj => ?_
  have e1 : c.getD i false = c[i] := by simp [List.getD_eq_getElem?_getD, hi]
  have e2 : d.getD i false = d[i] := by simp [List.getD_eq_getElem?_getD, hj]
  rw [Bool.eq_iff_iff, ← e1, ← e2]
  exact ⟨h1 i, h2 i⟩
theorem last_same {h x : House} (hk : HOK h) (xk : HOK x) (hp : x.table.pieces.length = h.table.pieces.length) (hn : nT x = nT h) (hl : x.last = h.last) (hs : x.sick = h.sick) (hb : x.boiled = h.boiled) (ht : x.touches.length = h.touches.length) (hab : ∀ i, i < h.touches.length → tA x i = tA h i ∧ tB x i = tB h i) (c : Course) (more : List Boiling) : lastOf x c more = lastOf h c more := by
  refine le_antisymm' (by rw [lastOf_len, lastOf_len]) ?_ ?_
  · exact play_le xk hk ⟨hp.symm, hn.symm, hl.symm, fun i _ ho => by rw [← hs]; exact ho, fun q hq => by rw [hb]; exact hq, by omega, fun i hi => ⟨(hab i (by omega)).1.symm, (hab i (by omega)).2.symm, rfl⟩⟩
  · exact play_le hk xk ⟨hp, hn, hl, fun i _ ho => by rw [hs]; exact ho, fun q hq => by rw [← hb]; exact hq, by omega, fun i hi => ⟨(hab i hi).1, (hab i hi).2, rfl⟩⟩
def reP (h : House) (ps : List Piece) : House := { h with table := { h.table with pieces := ps } }
theorem womenOf_iff (ws : List Woman) (marks : List Int) (x : Int) : x ∈ womenOf ws marks ↔ ∃ w : Nat, x = (w : Int) ∧ w < ws.length ∧ (ws.getD w default).mark ∈ marks := by
  simp only [womenOf, womenUpto, List.mem_map, List.mem_filter, List.mem_range, decide_eq_true_eq]
  constructor
  · rintro ⟨w, ⟨h1, h2⟩, rfl⟩; exact ⟨w, rfl, h1, h2⟩
  · rintro ⟨w, rfl, h1, h2⟩; exact ⟨w, ⟨h1, h2⟩, rfl⟩
theorem who_women {t : Table} (hp : t.pieces.length ≤ 7) {i : Nat} (hi : i < t.pieces.length) {k : Int} (hk : k ∈ (whoseT t).getD i []) : k ∈ womenOf t.women (t.pieces.getD i default).marks := by
  have hl : i < (whoseT t).length := by simp [whoseT, hi]
  have e : (whoseT t).getD i [] = whoIs t i t.women.length := by
    rw [List.getD_eq_getElem?_getD, List.getElem?_eq_getElem hl]; simp [whoseT]
  rw [e] at hk
  exact whoIs_sub hp hi k hk
theorem who_ne {h : House} (hv : HV h) {i : Nat} (hi : i < h.table.pieces.length) : (whoseT h.table).getD i [] ≠ [] := by
  obtain ⟨c, hc⟩ := allC_ne hv
  have hok := (mem_allC hv.tab c).1 hc
  rw [courseOK, Bool.and_eq_true] at hok
  have := truth_who hv.tab hok.1 hi
  intro h0; rw [h0] at this; cases this
def found (h : House) (p : Nat) (mk : Int) : House := reS (reP h (h.table.pieces.set p ⟨[mk], (h.table.pieces.getD p default).bundle⟩)) []
theorem found_len (h : House) (p : Nat) (mk : Int) : (found h p mk).table.pieces.length = h.table.pieces.length := by
  show (h.table.pieces.set p _).length = _; simp
theorem found_get (h : House) (p : Nat) (mk : Int) (i : Nat) (hi : i < h.table.pieces.length) : (found h p mk).table.pieces.getD i default = if p = i then ⟨[mk], (h.table.pieces.getD p default).bundle⟩ else h.table.pieces.getD i default := by
  show (h.table.pieces.set p _).getD i default = _
  rw [List.getD_eq_getElem?_getD, List.getElem?_set]
  by_cases hpi : p = i
  · subst hpi; simp [hi]
  · simp [hpi, List.getD_eq_getElem?_getD]
theorem found_sub {h : House} (hv : HV h) {p : Nat} {mk : Int} (hp : p < h.table.pieces.length) (hmk : mk ∈ (h.table.pieces.getD p default).marks) (yv : HV (found h p mk)) (xv : HV (reS h [])) : SubH (found h p mk) (reS h []) where
  pcs := found_len h p mk
  wom := rfl
  sick := rfl
  nT := by unfold nT; rw [found_len]; rfl
  last := fun c more => last_same xv.ok yv.ok (found_len h p mk) (by unfold nT; rw [found_len]; rfl) rfl rfl rfl rfl (fun i hi => ⟨rfl, rfl⟩) c more
  tru := fun c hc => by
    rw [truH_self] at hc
    rw [tru_nil]
    have hok := (mem_allC yv.tab c).1 hc.1
    refine (mem_allC hv.tab c).2 ?_
    rw [courseOK, Bool.and_eq_true] at hok ⊢
    refine ⟨?_, hok.2⟩
    have h1 := hok.1
    simp only [isTruthT, Bool.and_eq_true, decide_eq_true_eq] at h1 ⊢
    obtain ⟨_, h2, h3⟩ := h1
    have hlen := found_len h p mk
    refine ⟨hv.tab, ?_, ?_⟩
    · simp only [ownersOK, Bool.and_eq_true, decide_eq_true_eq, List.all_eq_true, List.mem_range] at h2 ⊢
      obtain ⟨h4, h5⟩ := h2
      refine ⟨by omega, fun i hi => ?_⟩
      have := h5 i hi
      rw [found_get h p mk i (by omega)] at this
      by_cases hpi : p = i
      · subst hpi
        rw [if_pos rfl, womenOf_iff] at this
        rw [womenOf_iff]
        obtain ⟨w, h6, h7, h8⟩ := this
        refine ⟨w, h6, h7, ?_⟩
        have h9 : (h.table.women.getD w default).mark = mk := List.mem_singleton.1 h8
        rw [h9]; exact hmk
      · rw [if_neg hpi] at this; exact this
    · have e : wrongOf (found h p mk).table (padTo c.owners c.owners.length) = wrongOf h.table (padTo c.owners c.owners.length) := by
        unfold wrongOf wrongUpto
        rw [hlen]; rfl
      rw [e] at h3; exact h3
theorem top_mark {h : House} (hv : HV h) {p : Nat} (hp : p < h.table.pieces.length) {w : Int} (hw : w ∈ (whoseT h.table).getD p []) : ∃ n : Nat, w = (n : Int) ∧ n < h.table.women.length ∧ (h.table.women.getD n default).mark ∈ (h.table.pieces.getD p default).marks := by
  have hk := hv.ok.pcs
  exact (womenOf_iff _ _ _).1 (who_women hk hp hw)
theorem top_who {h : House} (hv : HV h) (xv : HV (reS h [])) {w : Int} (hw : w ∈ whoseS (reS h [])) : (∃ i, i < h.table.pieces.length ∧ carryAt (reS h []) i ≠ 2 ∧ w ∈ (whoseT h.table).getD i []) ∧ ¬ w ∈ h.sick := by
  have hne := nil_ne hv
  obtain ⟨n, rfl, h1, h2⟩ := (mem_whoseS _ _).1 hw
  obtain ⟨c, hc, hp⟩ := (isWhose_iff hne n).1 h2
  obtain ⟨i, hi, hl, ho, hs⟩ := (harmedP_iff _ _ _).1 hp
  have hok := tru_ok xv hc
  have hg := pad_get xv hok hi
  rw [courseOK, Bool.and_eq_true] at hok
  refine ⟨⟨i, hi, fun h2 => ?_, ?_⟩, ?_⟩
  · rw [carryAt, verdict_two hne] at h2
    have := h2 c hc
    rw [carriesP, hl] at this; cases this
  · have := truth_who (t := h.table) hv.tab hok.1 hi
    rw [← hg, ho] at this; exact this
  · rw [ho] at hs; exact hs
end Go.Lift

set_option linter.unusedSimpArgs false
set_option linter.unusedVariables false
namespace Go.Lift
open Go Go.Proofs
/-- The hour with a number. -/
def hourK (h : House) (n : Nat) : Int := ((n % (h.last.toNat + 1) : Nat) : Int)
theorem hourK_ok {h : House} (hk : HOK h) (n : Nat) : hourOK h (hourK h n) = true := by
  obtain ⟨m, h1, h2⟩ := hk.last
  rw [hourOK, hourK, decide_eq_true_eq]
  have := Nat.mod_lt n (show 0 < h.last.toNat + 1 by omega)
  omega
theorem hourK_facts {h : House} (hk : HOK h) {n : Nat} (hn : n < 256) : IntKind.i64.wrap (n : Int) = (n : Int) ∧ ¬ IntKind.i64.wrap (h.last + 1) = 0 ∧ (n : Int).tmod (IntKind.i64.wrap (h.last + 1)) = hourK h n := by
  obtain ⟨m, h1, h2⟩ := hk.last
  have e : IntKind.i64.wrap (h.last + 1) = ((h.last.toNat + 1 : Nat) : Int) := by rw [w64 (by omega) (by omega)]; omega
  refine ⟨w64 (by omega) (by omega), by rw [e]; omega, ?_⟩
  rw [e, hourK, Int.ofNat_tmod]
end Go.Lift

set_option linter.unusedSimpArgs false
set_option linter.unusedVariables false
namespace Go.Lift
open Go Go.Proofs
theorem HSm.signs' {h : House} (hs : HSm h) {ss : List Sign} (hl : ss.length ≤ 1073741824) : HSm (reS h ss) :=
  ⟨hs.women, hs.pieces, hs.marks, hs.sick, hs.touches, hs.boiled, hl⟩
end Go.Lift

set_option linter.unusedSimpArgs false
set_option linter.unusedVariables false
namespace Go.Lift
open Go Go.Proofs
theorem Pure.wk {P : Program} {f : FuncId} {x y r : AV} {xs : List AV} (hp : Pure P f (y :: xs) r) (h : Wk x y) : Pure P f (x :: xs) r :=
  fun H => ACalls.arg0 (fun w v hr => h H w v hr) (hp H)
theorem wk9 {a b c d e f g i j a' b' c' d' e' f' g' i' j' : AV} (h1 : Wk a a') (h2 : Wk b b') (h3 : Wk c c') (h4 : Wk d d') (h5 : Wk e e') (h6 : Wk f f') (h7 : Wk g g') (h8 : Wk i i') (h9 : Wk j j') : Wk (.agg [a, b, c, d, e, f, g, i, j]) (.agg [a', b', c', d', e', f', g', i', j']) :=
  Wk.agg rfl fun n x y hx hy => by
    match n, hx, hy with
    | 0, hx, hy => cases hx; cases hy; exact h1
    | 1, hx, hy => cases hx; cases hy; exact h2
    | 2, hx, hy => cases hx; cases hy; exact h3
    | 3, hx, hy => cases hx; cases hy; exact h4
    | 4, hx, hy => cases hx; cases hy; exact h5
    | 5, hx, hy => cases hx; cases hy; exact h6
    | 6, hx, hy => cases hx; cases hy; exact h7
    | 7, hx, hy => cases hx; cases hy; exact h8
    | 8, hx, hy => cases hx; cases hy; exact h9
theorem carry_len (h : House) : (carryOf h).length = nT h := by simp [carryOf]
end Go.Lift

set_option linter.unusedSimpArgs false
set_option linter.unusedVariables false
namespace Go.Lift
open Go Go.Proofs
/-- What a step on the heap leaves as it was. -/
structure Step (H H' : AHeap) (b : Nat) : Prop where
  keep : ∀ c o, c ≠ b → H c = some o → H' c = some o
  ext : ∀ H0, Ext H0 H → H0 b = none → Ext H0 H'
  grown : ∀ sz H0 v es, Grown sz H0 H v es → Grown sz H0 H' v es
theorem v_alloc' {P : Program} {R : AV → AHeap → Prop} {H : AHeap} {zs : List AV} (h : ∀ b H', H b = none → H' b = some (.box zs) → Step H H' b → R (.ptr b 0) H') : aopV P (.alloc zs) [] H R :=
  v_alloc fun b hb => h b _ hb (updH_same _ _ _) ⟨fun c o hc ho => by rw [updH_ne _ _ hc]; exact ho, fun H0 e hn => e.upd hn _, fun sz H0 v es g => g.new hb _⟩
theorem v_store' {P : Program} {R : AV → AHeap → Prop} {H : AHeap} {n b off : Nat} {x : AV} {cs : List AV} (hb : H b = some (.box cs)) (hx : x.ok = true) (hl : x.cells.length = n) (hc : ∀ y ∈ x.cells, AV.isCell y = true) (ho : off + n ≤ cs.length)
    (h : ∀ H', H' b = some (.box (placeAt cs off x.cells)) → Step H H' b → R .any H') : aopV P (.store n) [.ptr b off, x] H R := by
  rw [v_store]
  exact ⟨hx, hl, hc, cs, hb, ho, h _ (updH_same _ _ _) ⟨fun c o hc ho => by rw [updH_ne _ _ hc]; exact ho, fun H0 e hn => e.upd hn _, fun sz H0 v es g => g.store hb _⟩⟩
theorem ne_of {H : AHeap} {a b : Nat} {o : AObj} (ha : H a = some o) (hb : H b = none) : a ≠ b := fun e => by subst e; rw [ha] at hb; cases hb
theorem Grown.one {sz : Nat} {H0 H : AHeap} {v : AV} {es : List (List AV)} (g : Grown sz H0 H v es) : v.ok = true ∧ v.cells.length = 1 ∧ ∀ y ∈ v.cells, AV.isCell y = true := by
  refine ⟨g.cellv.1, by rw [g.cellv.2.1]; rfl, ?_⟩
  rw [g.cellv.2.1]; intro y hy; simp at hy; subst hy; exact g.cellv.2.2
/-- The cells of a house, with the lists of the sick, of the touches, of the boilings and of the signs given. -/
def hc4 (h : House) (a b c d : AV) : List AV := [.slice (h.table.women.map eW), .slice (h.table.pieces.map eP), i6 h.table.wrong, a, i6 h.others, i6 h.last, b, c, d]
theorem wkH {x h : House} {a b c d : AV} (ht : x.table = h.table) (ho : x.others = h.others) (hl : x.last = h.last) (ha : Wk a (.slice (eI x.sick))) (hb : Wk b (.slice (x.touches.map eTo))) (hc : Wk c (.slice (x.boiled.map eB))) (hd : Wk d (.slice (x.signs.map eS))) : Wk (.agg (hc4 h a b c d)) (eH x) := by
  unfold eH hc4
  rw [ht, ho, hl]
  exact wk9 (Wk.refl _) (Wk.refl _) (Wk.refl _) ha (Wk.refl _) (Wk.refl _) hb hc hd
theorem ne_nosigns {h : House} (hv : HV h) (hs : h.signs = []) : truH h [] ≠ [] := by
  obtain ⟨c, hc⟩ := allC_ne hv
  intro h0
  have := (truH_self h c).2 ⟨hc, fun s hm => by rw [hs] at hm; cases hm⟩
  rw [h0] at this; cases this
end Go.Lift

set_option linter.unusedSimpArgs false
set_option linter.unusedVariables false
namespace Go.Lift
open Go Go.Proofs
theorem hm_table {h : House} (hm : HSm h) : Pure Tryz.prog 46 [eT h.table] (eT h.table) :=
  table_c h.table (by have := hm.women; omega) (by have := hm.pieces; omega) (fun p hp => by have := hm.marks p hp; omega)
theorem whose_len (t : Table) : (whoseT t).length = t.pieces.length := by simp [whoseT]
theorem whose_row {t : Table} {i : Nat} (hi : i < t.pieces.length) : ((whoseT t).map fun x => [AV.slice (eI x)])[i]? = some [AV.slice (eI ((whoseT t).getD i []))] := by
  have : i < (whoseT t).length := by rw [whose_len]; exact hi
  simp [List.getD_eq_getElem?_getD, this]
theorem whose_row_len {t : Table} (i : Nat) : ((whoseT t).getD i []).length ≤ t.women.length := by
  rcases Nat.lt_or_ge i (whoseT t).length with h | h
  · have : (whoseT t).getD i [] = whoIs t i t.women.length := by
      rw [List.getD_eq_getElem?_getD, List.getElem?_eq_getElem h]; simp [whoseT]
    rw [this]; exact whoIs_len t i _
  · rw [List.getD_eq_getElem?_getD, List.getElem?_eq_none h]; simp
end Go.Lift

set_option linter.unusedSimpArgs false
set_option linter.unusedVariables false
namespace Go.Lift
open Go Go.Proofs
theorem place_at {cs : List AV} {k : Nat} {x : AV} (hk : k < cs.length) (hx : x.cells = [x]) : placeAt cs k x.cells = cs.set k x := by rw [hx]; exact placeAt_set cs k x hk
theorem rows_lt {sz : Nat} {cs : List AV} {es : List (List AV)} (h : RowsOf sz cs es) {p o : Nat} (hp : p < es.length) (ho : o < sz) : p * sz + o < cs.length := by
  have hpl : (es.getD p []).length = sz := by
    rw [List.getD_eq_getElem?_getD, List.getElem?_eq_getElem hp]; exact h.1 _ (List.getElem_mem hp)
  have hlt := h.2 p o hp ho
  rcases Nat.lt_or_ge (p * sz + o) cs.length with hh | hh
  · exact hh
  · rw [List.getElem?_eq_none hh, List.getElem?_eq_getElem (by omega)] at hlt; cases hlt
end Go.Lift

set_option linter.unusedSimpArgs false
set_option linter.unusedVariables false
namespace Go.Lift
open Go Go.Proofs
def exT : Table := ⟨[⟨1, 1, 1⟩, ⟨2, 1, 1⟩], [⟨[1], 0⟩, ⟨[2], 1⟩], 0⟩
def exH : House := ⟨exT, [0], 0, 0, [⟨0, 1, 0, 0⟩], [], []⟩
theorem ex_ask : askErr exT = 0 := by decide +kernel
theorem ex_whose : whoseT exT = [[0], [1]] := by decide +kernel
theorem ex_askH : askErrH exH (hourOK exH 0) = 0 := by decide +kernel
theorem ex_boil : boilOf' exH 0 = [0] := by decide +kernel
theorem bs2c (H : AHeap) (a b c d e f : AV) : detV (.bslice 3) [.agg [a, b, c], .agg [d, e, f]] H = some (.slice [[a, b, c], [d, e, f]]) := by
  simp [detV, AV.ok, AV.cells]
theorem bcTo2 (a b : Int) : buildCells [.int .i64 0, .int .i64 0, .int .i64 0, .int .i64 0] [(0, 1), (1, 1)] [.int .i64 a, .int .i64 b] = some [i6 a, i6 b, .int .i64 0, .int .i64 0] := by
  simp [buildCells, placeAt, AV.ok, AV.cells]
theorem bcH3 (a b c : AV) (d f : List (List AV)) : buildCells [.emp, .emp, .int .i64 0, .emp, .int .i64 0, .int .i64 0, .emp, .emp, .emp] [(0, 3), (3, 1), (6, 1)] [.agg [a, b, c], .slice d, .slice f] = some [a, b, c, .slice d, .int .i64 0, .int .i64 0, .slice f, .emp, .emp] := by
  simp [buildCells, placeAt, AV.ok, AV.cells]
theorem ex_tsm : TSm exT := ⟨by show (2 : Nat) < _; omega, by show (2 : Nat) < _; omega, fun p hp => by
  simp only [exT, List.mem_cons, List.not_mem_nil, or_false] at hp
  rcases hp with rfl | rfl <;> (show (1 : Nat) < _; omega)⟩
theorem boiledEx_c : Pure Tryz.prog 43 [] (.bool true) := by
  intro H
  refine fn_of hmix fc43 (by simp) ?_
  rw [ienv0]
  simp only [go_sem, reduceIte, reduceCtorEq, Nat.reduceEqDiff, Nat.reduceBEq, Nat.reduceAdd, Nat.reduceMul, Nat.reduceLeDiff, List.getElem?_cons_zero, List.getElem?_cons_succ, bne_self_eq_false, Int.reduceEq, ac43, bc2, bcW, bs2c, d_bs1, bcP0, bcP, bs2b, bcT2, Option.map_some]
  refine v_alloc' fun b1 H1 hn1 B1 st => ?_
  have e1 := st.ext H (Ext.refl H) hn1
  simp only [go_sem, reduceIte, reduceCtorEq, Nat.reduceEqDiff, Nat.reduceBEq, Nat.reduceAdd, Nat.reduceMul, Nat.reduceLeDiff, List.getElem?_cons_zero, List.getElem?_cons_succ, bne_self_eq_false, Int.reduceEq]
  refine v_store' B1 rfl rfl (by simp [AV.cells, AV.isCell]) (by simp) fun H2 B1 st => ?_
  have e2 := st.ext H e1 hn1
  replace B1 : H2 b1 = some (.box (tCells exT)) := B1
  simp only [go_sem, reduceIte, reduceCtorEq, Nat.reduceEqDiff, Nat.reduceBEq, Nat.reduceAdd, Nat.reduceMul, Nat.reduceLeDiff, List.getElem?_cons_zero, List.getElem?_cons_succ, bne_self_eq_false, Int.reduceEq, B1, tCells, bcTo2, d_bsa, d_bs1, bcH3, Option.map_some]
  refine v_alloc' fun b2 H3 hn2 B2 st => ?_
  have n12 := ne_of B1 hn2
  have z2 := e2.isNone hn2
  have B1 := st.keep b1 _ n12 B1
  have e3 := st.ext H e2 z2
  simp only [go_sem, reduceIte, reduceCtorEq, Nat.reduceEqDiff, Nat.reduceBEq, Nat.reduceAdd, Nat.reduceMul, Nat.reduceLeDiff, List.getElem?_cons_zero, List.getElem?_cons_succ, bne_self_eq_false, Int.reduceEq, B1]
  refine v_store' B2 rfl rfl (by simp [AV.cells, AV.isCell]) (by simp) fun H4 B2 st => ?_
  have B1 := st.keep b1 _ n12 B1
  have e4 := st.ext H e3 z2
  replace B2 : H4 b2 = some (.box (hc4 exH (.slice (eI exH.sick)) (.slice (exH.touches.map eTo)) .emp .emp)) := B2
  have wk : Wk (.agg (hc4 exH (.slice (eI exH.sick)) (.slice (exH.touches.map eTo)) .emp .emp)) (eH exH) := wkH rfl rfl rfl (Wk.refl _) (Wk.refl _) Wk.emp Wk.emp
  simp only [go_sem, reduceIte, reduceCtorEq, Nat.reduceEqDiff, Nat.reduceBEq, Nat.reduceAdd, Nat.reduceMul, Nat.reduceLeDiff, List.getElem?_cons_zero, List.getElem?_cons_succ, bne_self_eq_false, Int.reduceEq, B1, B2, tCells]
  refine (whose_c exT ex_tsm).go ?_
  rw [whoseR, if_pos ex_ask, ex_whose]
  simp only [go_sem, reduceIte, reduceCtorEq, Nat.reduceEqDiff, Nat.reduceBEq, Nat.reduceAdd, Nat.reduceMul, Nat.reduceLeDiff, List.getElem?_cons_zero, List.getElem?_cons_succ, bne_self_eq_false, Int.reduceEq, B1, B2, hc4, eII, List.map_cons, List.map_nil]
  refine ((boil_c exH ex_tsm (by show (1 : Nat) < _; omega) 0).wk wk).go ?_
  rw [listR, if_pos ex_askH, ex_boil]
  simp only [go_sem, reduceIte, reduceCtorEq, Nat.reduceEqDiff, Nat.reduceBEq, Nat.reduceAdd, Nat.reduceMul, Nat.reduceLeDiff, List.getElem?_cons_zero, List.getElem?_cons_succ, bne_self_eq_false, Int.reduceEq, eI, List.map_cons, List.map_nil, List.length_cons, List.length_nil, Int.toNat_zero, take_f', show (0 : Int) ≤ 0 by omega, show ((0 + 1 : Nat) : Int) = 1 by rfl, show ((0 + 1 + 1 : Nat) : Int) = 2 by rfl, Int.toNat]
  exact fin_ret 0 (by simp [upd_at]) ⟨_, H, Settle.refl e4, by simp [upd_at], rfl⟩
theorem set_mark {es : List (List AV)} {p : Nat} (hp : p < es.length) {a b : AV} (he : es.getD p [] = [a, b]) (x : AV) : es.set p ((es.getD p []).set 0 x) = es.set p [x, b] := by rw [he]; rfl
theorem whoAny_snoc (p : Nat → Bool) (k : Nat) : (List.range (k + 1)).any p = ((List.range k).any p || p k) := by
  rw [List.range_succ, List.any_append]; simp
set_option maxHeartbeats 8000000 in
theorem top_law (h : House) (n : Nat) (hn : n < 256) (np : Nat) (hnp : np < 256) : Pure Tryz.prog 7 [eH h, .int .u8 (n : Int), .int .u8 (np : Int)] (.bool true) := by
  intro H
  refine fn_of_g hmix [(), (), (), (), (), (), (), (), (), (), (), (), (), (), (), (), (), ()] fc7 (by simp) ?_
  rw [ienv3]
  simp only [go_sem, reduceIte, reduceCtorEq, Nat.reduceEqDiff, Nat.reduceBEq, Nat.reduceAdd, Nat.reduceMul, Nat.reduceLeDiff, List.getElem?_cons_zero, List.getElem?_cons_succ, bne_self_eq_false, Int.reduceEq, ↓x_gseq, ↓q_kg_n, ↓q_kg_r, ↓q_kg_e, ac7, eH]
  refine v_box _ rfl fun b1 hb1 => ?_
  have e1 := (Ext.refl H).new hb1 (.box [.slice (h.table.women.map eW), .slice (h.table.pieces.map eP), i6 h.table.wrong, .slice (eI h.sick), i6 h.others, i6 h.last, .slice (h.touches.map eTo), .slice (h.boiled.map eB), .slice (h.signs.map eS)])
  simp only [go_sem, reduceIte, reduceCtorEq, Nat.reduceEqDiff, Nat.reduceBEq, Nat.reduceAdd, Nat.reduceMul, Nat.reduceLeDiff, List.getElem?_cons_zero, List.getElem?_cons_succ, bne_self_eq_false, Int.reduceEq, ↓x_gseq, ↓q_kg_n, ↓q_kg_r, ↓q_kg_e]
  have B1 : updH H b1 (.box [.slice (h.table.women.map eW), .slice (h.table.pieces.map eP), i6 h.table.wrong, .slice (eI h.sick), i6 h.others, i6 h.last, .slice (h.touches.map eTo), .slice (h.boiled.map eB), .slice (h.signs.map eS)]) b1 = some (.box [.slice (h.table.women.map eW), .slice (h.table.pieces.map eP), i6 h.table.wrong, .slice (eI h.sick), i6 h.others, i6 h.last, .slice (h.touches.map eTo), .slice (h.boiled.map eB), .slice (h.signs.map eS)]) := updH_same _ _ _
  generalize updH H b1 (.box [.slice (h.table.women.map eW), .slice (h.table.pieces.map eP), i6 h.table.wrong, .slice (eI h.sick), i6 h.others, i6 h.last, .slice (h.touches.map eTo), .slice (h.boiled.map eB), .slice (h.signs.map eS)]) = H1 at e1 B1 ⊢
  refine (thinH_c h).go ?_
  cases c1 : thinH h
  · simp only [go_sem, reduceIte, reduceCtorEq, Nat.reduceEqDiff, Nat.reduceBEq, Nat.reduceAdd, Nat.reduceMul, Nat.reduceLeDiff, List.getElem?_cons_zero, List.getElem?_cons_succ, bne_self_eq_false, Int.reduceEq, ↓x_gseq, ↓q_kg_n, ↓q_kg_r, ↓q_kg_e]
    refine boiledEx_c.go ?_
    simp only [go_sem, reduceIte, reduceCtorEq, Nat.reduceEqDiff, Nat.reduceBEq, Nat.reduceAdd, Nat.reduceMul, Nat.reduceLeDiff, List.getElem?_cons_zero, List.getElem?_cons_succ, bne_self_eq_false, Int.reduceEq, ↓x_gseq, ↓q_kg_n, ↓q_kg_r, ↓q_kg_e]
    exact fin_ret 6 (by simp [upd_at]) ⟨_, H, Settle.refl e1, by simp [upd_at], rfl⟩
  have hm := thin_sm c1
  simp only [go_sem, reduceIte, reduceCtorEq, Nat.reduceEqDiff, Nat.reduceBEq, Nat.reduceAdd, Nat.reduceMul, Nat.reduceLeDiff, List.getElem?_cons_zero, List.getElem?_cons_succ, bne_self_eq_false, Int.reduceEq, ↓x_gseq, ↓q_kg_n, ↓q_kg_r, ↓q_kg_e, B1]
  refine (faultH_c h hm.tsm hm.sk).go ?_
  by_cases hc : checkHouse h = 0
  rotate_left
  · simp only [go_sem, reduceIte, reduceCtorEq, Nat.reduceEqDiff, Nat.reduceBEq, Nat.reduceAdd, Nat.reduceMul, Nat.reduceLeDiff, List.getElem?_cons_zero, List.getElem?_cons_succ, bne_self_eq_false, Int.reduceEq, ↓x_gseq, ↓q_kg_n, ↓q_kg_r, ↓q_kg_e, hc]
    refine boiledEx_c.go ?_
    simp only [go_sem, reduceIte, reduceCtorEq, Nat.reduceEqDiff, Nat.reduceBEq, Nat.reduceAdd, Nat.reduceMul, Nat.reduceLeDiff, List.getElem?_cons_zero, List.getElem?_cons_succ, bne_self_eq_false, Int.reduceEq, ↓x_gseq, ↓q_kg_n, ↓q_kg_r, ↓q_kg_e]
    exact fin_ret 6 (by simp [upd_at]) ⟨_, H, Settle.refl e1, by simp [upd_at], rfl⟩
  have hv := hv_of hm.tsm hm.sk hc
  have hnt := nT_le hv.ok
  have hw5 := checkTable_len hv.tab
  have hsk := hv.ok.sk
  unfold Sm at hsk
  simp only [go_sem, reduceIte, reduceCtorEq, Nat.reduceEqDiff, Nat.reduceBEq, Nat.reduceAdd, Nat.reduceMul, Nat.reduceLeDiff, List.getElem?_cons_zero, List.getElem?_cons_succ, bne_self_eq_false, Int.reduceEq, ↓x_gseq, ↓q_kg_n, ↓q_kg_r, ↓q_kg_e, hc, B1]
  refine v_alloc' fun b7 H2 hn7 B7 st => ?_
  have z7 := e1.isNone hn7
  have n17 := ne_of B1 hn7
  have B1 := st.keep b1 _ n17 B1
  have e2 := st.ext H e1 z7
  simp only [go_sem, reduceIte, reduceCtorEq, Nat.reduceEqDiff, Nat.reduceBEq, Nat.reduceAdd, Nat.reduceMul, Nat.reduceLeDiff, List.getElem?_cons_zero, List.getElem?_cons_succ, bne_self_eq_false, Int.reduceEq, ↓x_gseq, ↓q_kg_n, ↓q_kg_r, ↓q_kg_e, B1]
  refine v_store' B7 rfl rfl (by simp [AV.cells, AV.isCell]) (by simp) fun H3 B7 st => ?_
  have B1 := st.keep b1 _ n17 B1
  have e3 := st.ext H e2 z7
  replace B7 : H3 b7 = some (.box [.slice (h.table.women.map eW), .slice (h.table.pieces.map eP), i6 h.table.wrong, .slice (eI h.sick), i6 h.others, i6 h.last, .slice (h.touches.map eTo), .slice (h.boiled.map eB), .slice (h.signs.map eS)]) := B7
  simp only [go_sem, reduceIte, reduceCtorEq, Nat.reduceEqDiff, Nat.reduceBEq, Nat.reduceAdd, Nat.reduceMul, Nat.reduceLeDiff, List.getElem?_cons_zero, List.getElem?_cons_succ, bne_self_eq_false, Int.reduceEq, ↓x_gseq, ↓q_kg_n, ↓q_kg_r, ↓q_kg_e, B1]
  refine v_store' B7 rfl rfl (by simp [AV.cells, AV.isCell]) (by simp) fun H4 B7 st => ?_
  have B1 := st.keep b1 _ n17 B1
  have e4 := st.ext H e3 z7
  replace B7 : H4 b7 = some (.box (hc4 h (.slice (eI h.sick)) (.slice (h.touches.map eTo)) (.slice (h.boiled.map eB)) .emp)) := B7
  clear e1 e2 e3 st
  have xm : HSm (reS h []) := hm.signs' (by simp)
  have xc := check_nil hc
  have xv := hv_of xm.tsm xm.sk xc
  have ax := ask_zero xc (nil_ne hv)
  have wx : Wk (.agg (hc4 h (.slice (eI h.sick)) (.slice (h.touches.map eTo)) (.slice (h.boiled.map eB)) .emp)) (eH (reS h [])) := wkH rfl rfl rfl (Wk.refl _) (Wk.refl _) (Wk.refl _) Wk.emp
  obtain ⟨f1, f2, f3⟩ := hourK_facts hv.ok hn
  have hh : hourOK (reS h []) (hourK h n) = true := hourK_ok hv.ok n
  have lx : (carryOf (reS h [])).length = nT h := carry_len _
  have lw : (whoseS (reS h [])).length ≤ 5 := Nat.le_trans (whoseUpto_len _ _) hw5.1
  have lb := boilOf_len' xc xv.ok hh
  have htw : ∀ w, w ∈ whoseS (reS h []) → (∃ i, i < h.table.pieces.length ∧ carryAt (reS h []) i ≠ 2 ∧ w ∈ (whoseT h.table).getD i []) ∧ ¬ w ∈ h.sick := fun w hw => top_who hv xv hw
  have hwl := whose_len h.table
  simp only [go_sem, reduceIte, reduceCtorEq, Nat.reduceEqDiff, Nat.reduceBEq, Nat.reduceAdd, Nat.reduceMul, Nat.reduceLeDiff, List.getElem?_cons_zero, List.getElem?_cons_succ, bne_self_eq_false, Int.reduceEq, ↓x_gseq, ↓q_kg_n, ↓q_kg_r, ↓q_kg_e, B1, B7, hc4, f1, f2, f3]
  refine ((house_c _ xm).wk wx).go ?_
  simp only [go_sem, reduceIte, reduceCtorEq, Nat.reduceEqDiff, Nat.reduceBEq, Nat.reduceAdd, Nat.reduceMul, Nat.reduceLeDiff, List.getElem?_cons_zero, List.getElem?_cons_succ, bne_self_eq_false, Int.reduceEq, ↓x_gseq, ↓q_kg_n, ↓q_kg_r, ↓q_kg_e]
  refine (whoseS_c _ xm.tsm xm.sk).go ?_
  simp only [go_sem, reduceIte, reduceCtorEq, Nat.reduceEqDiff, Nat.reduceBEq, Nat.reduceAdd, Nat.reduceMul, Nat.reduceLeDiff, List.getElem?_cons_zero, List.getElem?_cons_succ, bne_self_eq_false, Int.reduceEq, ↓x_gseq, ↓q_kg_n, ↓q_kg_r, ↓q_kg_e, listR, ax, B1, B7, hc4]
  refine ((house_c _ xm).wk wx).go ?_
  simp only [go_sem, reduceIte, reduceCtorEq, Nat.reduceEqDiff, Nat.reduceBEq, Nat.reduceAdd, Nat.reduceMul, Nat.reduceLeDiff, List.getElem?_cons_zero, List.getElem?_cons_succ, bne_self_eq_false, Int.reduceEq, ↓x_gseq, ↓q_kg_n, ↓q_kg_r, ↓q_kg_e]
  refine (carry_c _ xm.tsm xm.sk).go ?_
  simp only [go_sem, reduceIte, reduceCtorEq, Nat.reduceEqDiff, Nat.reduceBEq, Nat.reduceAdd, Nat.reduceMul, Nat.reduceLeDiff, List.getElem?_cons_zero, List.getElem?_cons_succ, bne_self_eq_false, Int.reduceEq, ↓x_gseq, ↓q_kg_n, ↓q_kg_r, ↓q_kg_e, listR, ax, B1, B7, hc4]
  refine ((house_c _ xm).wk wx).go ?_
  simp only [go_sem, reduceIte, reduceCtorEq, Nat.reduceEqDiff, Nat.reduceBEq, Nat.reduceAdd, Nat.reduceMul, Nat.reduceLeDiff, List.getElem?_cons_zero, List.getElem?_cons_succ, bne_self_eq_false, Int.reduceEq, ↓x_gseq, ↓q_kg_n, ↓q_kg_r, ↓q_kg_e]
  refine (boil_c _ xm.tsm xm.sk (hourK h n)).go ?_
  simp only [go_sem, reduceIte, reduceCtorEq, Nat.reduceEqDiff, Nat.reduceBEq, Nat.reduceAdd, Nat.reduceMul, Nat.reduceLeDiff, List.getElem?_cons_zero, List.getElem?_cons_succ, bne_self_eq_false, Int.reduceEq, ↓x_gseq, ↓q_kg_n, ↓q_kg_r, ↓q_kg_e, listR, ax, hh, B1, B7]
  refine (hm_table hm).go ?_
  simp only [go_sem, reduceIte, reduceCtorEq, Nat.reduceEqDiff, Nat.reduceBEq, Nat.reduceAdd, Nat.reduceMul, Nat.reduceLeDiff, List.getElem?_cons_zero, List.getElem?_cons_succ, bne_self_eq_false, Int.reduceEq, ↓x_gseq, ↓q_kg_n, ↓q_kg_r, ↓q_kg_e]
  refine (whose_c h.table hv.ok.sm).go ?_
  rw [whoseR, if_pos hv.ask]
  simp only [go_sem, reduceIte, reduceCtorEq, Nat.reduceEqDiff, Nat.reduceBEq, Nat.reduceAdd, Nat.reduceMul, Nat.reduceLeDiff, List.getElem?_cons_zero, List.getElem?_cons_succ, bne_self_eq_false, Int.reduceEq, ↓x_gseq, ↓q_kg_n, ↓q_kg_r, ↓q_kg_e, eII, eT, B1, B7]
  refine (thingsR_c h).go ?_
  rw [thingsW_ok hv.ok]
  simp only [go_sem, reduceIte, reduceCtorEq, Nat.reduceEqDiff, Nat.reduceBEq, Nat.reduceAdd, Nat.reduceMul, Nat.reduceLeDiff, List.getElem?_cons_zero, List.getElem?_cons_succ, bne_self_eq_false, Int.reduceEq, ↓x_gseq, ↓q_kg_n, ↓q_kg_r, ↓q_kg_e, lx, B1, List.length_map, hwl, take_f', bne_self_eq_false]
  generalize hxe : reS h [] = x at *
  refine x_for (whoseS x).length (fun j env H1 => Ext H H1 ∧ H1 b1 = some (.box [.slice (h.table.women.map eW), .slice (h.table.pieces.map eP), i6 h.table.wrong, .slice (eI h.sick), i6 h.others, i6 h.last, .slice (h.touches.map eTo), .slice (h.boiled.map eB), .slice (h.signs.map eS)]) ∧ H1 b7 = some (.box (hc4 h (.slice (eI h.sick)) (.slice (h.touches.map eTo)) (.slice (h.boiled.map eB)) .emp)) ∧ env 2 = .int .u8 (np : Int) ∧ env 3 = .ptr b1 0 ∧ env 7 = .ptr b7 0 ∧ env 8 = i6 (hourK h n) ∧ env 9 = .slice (eI (whoseS x)) ∧ env 11 = .slice (eI (carryOf x)) ∧ env 13 = .slice (eI (boilOf' x (hourK h n))) ∧ env 15 = .slice ((whoseT h.table).map fun x => [AV.slice (eI x)]) ∧ env 17 = i6 j ∧ env 207 = .any)
    ⟨e4, B1, B7, by simp [upd_at], by simp [upd_at], by simp [upd_at], by simp [upd_at], by simp [upd_at], by simp [upd_at], by simp [upd_at], by simp [upd_at], by simp [upd_at], by simp [upd_at]⟩ ?_
  clear e4 B1 B7
  rintro j env H1 hj ⟨hE, B1, B7, g2, g3, g7, g8, g9, g11, g13, g15, g17, hN⟩
  by_cases hlt : (j : Int) < ((whoseS x).length : Int)
  · have hlt' : j < (whoseS x).length := by omega
    obtain ⟨⟨i0, hi0, hv0, hw0⟩, hns⟩ := htw _ (List.getElem_mem hlt')
    simp only [go_sem, reduceIte, reduceCtorEq, Nat.reduceEqDiff, Nat.reduceBEq, Nat.reduceAdd, Nat.reduceMul, Nat.reduceLeDiff, List.getElem?_cons_zero, List.getElem?_cons_succ, bne_self_eq_false, Int.reduceEq, ↓x_gseq, ↓q_kg_n, ↓q_kg_r, ↓q_kg_e, g2, g3, g7, g8, g9, g11, g13, g15, g17, hN, B1, hlt]
    refine x_for h.table.pieces.length (fun k env H1 => Ext H H1 ∧ H1 b1 = some (.box [.slice (h.table.women.map eW), .slice (h.table.pieces.map eP), i6 h.table.wrong, .slice (eI h.sick), i6 h.others, i6 h.last, .slice (h.touches.map eTo), .slice (h.boiled.map eB), .slice (h.signs.map eS)]) ∧ H1 b7 = some (.box (hc4 h (.slice (eI h.sick)) (.slice (h.touches.map eTo)) (.slice (h.boiled.map eB)) .emp)) ∧ env 2 = .int .u8 (np : Int) ∧ env 3 = .ptr b1 0 ∧ env 7 = .ptr b7 0 ∧ env 8 = i6 (hourK h n) ∧ env 9 = .slice (eI (whoseS x)) ∧ env 11 = .slice (eI (carryOf x)) ∧ env 13 = .slice (eI (boilOf' x (hourK h n))) ∧ env 15 = .slice ((whoseT h.table).map fun x => [AV.slice (eI x)]) ∧ env 17 = i6 j ∧ env 207 = .any ∧ env 19 = i6 k ∧ env 18 = .bool ((List.range k).any fun i => !decide (carryAt x i = 2) && decide ((whoseS x)[j] ∈ (whoseT h.table).getD i [])))
      ⟨hE, B1, B7, by simp [upd_at, g2], by simp [upd_at, g3], by simp [upd_at, g7], by simp [upd_at, g8], by simp [upd_at, g9], by simp [upd_at, g11], by simp [upd_at, g13], by simp [upd_at, g15], by simp [upd_at, g17], by simp [upd_at, hN], by simp [upd_at], by simp [upd_at]⟩ ?_
    clear hE B1 B7 g2 g3 g7 g8 g9 g11 g13 g15 g17 hN
    rintro k env H1 hk ⟨hE, B1, B7, g2, g3, g7, g8, g9, g11, g13, g15, g17, hN, g19, g18⟩
    by_cases klt : (k : Int) < (h.table.pieces.length : Int)
    · have klt' : k < h.table.pieces.length := by omega
      have hkn : k < nT h := by unfold nT; omega
      have gv : (eI (carryOf x))[k]? = some [i6 (carryAt x k)] := by rw [eI_get (by omega)]; simp [carryOf]
      have hrl := whose_row_len (t := h.table) k
      cases q : (List.range k).any fun i => !decide (carryAt x i = 2) && decide ((whoseS x)[j] ∈ (whoseT h.table).getD i [])
      · rw [q] at g18
        by_cases q2 : carryAt x k = 2
        · simp only [go_sem, reduceIte, reduceCtorEq, Nat.reduceEqDiff, Nat.reduceBEq, Nat.reduceAdd, Nat.reduceMul, Nat.reduceLeDiff, List.getElem?_cons_zero, List.getElem?_cons_succ, bne_self_eq_false, Int.reduceEq, ↓x_gseq, ↓q_kg_n, ↓q_kg_r, ↓q_kg_e, g2, g3, g7, g8, g9, g11, g13, g15, g17, g18, g19, hN, B1, B7, List.length_map, hwl, klt, gv, q2, wsucc (show k < 4611686018427387904 by omega), klt', bne_self_eq_false]
          exact ⟨hE, by rw [← List.range_succ, whoAny_snoc, q, q2]; simp⟩
        · simp only [go_sem, reduceIte, reduceCtorEq, Nat.reduceEqDiff, Nat.reduceBEq, Nat.reduceAdd, Nat.reduceMul, Nat.reduceLeDiff, List.getElem?_cons_zero, List.getElem?_cons_succ, bne_self_eq_false, Int.reduceEq, ↓x_gseq, ↓q_kg_n, ↓q_kg_r, ↓q_kg_e, g2, g3, g7, g8, g9, g11, g13, g15, g17, g18, g19, hN, B1, B7, List.length_map, hwl, klt, gv, q2, whose_row klt', eI_get hlt']
          refine pgo_call (has_c _ _ (by unfold Sm; omega)) ?_
          simp only [go_sem, reduceIte, reduceCtorEq, Nat.reduceEqDiff, Nat.reduceBEq, Nat.reduceAdd, Nat.reduceMul, Nat.reduceLeDiff, List.getElem?_cons_zero, List.getElem?_cons_succ, bne_self_eq_false, Int.reduceEq, ↓x_gseq, ↓q_kg_n, ↓q_kg_r, ↓q_kg_e, g2, g3, g7, g8, g9, g11, g13, g15, g17, g18, g19, hN, B1, B7, wsucc (show k < 4611686018427387904 by omega), klt']
          exact ⟨hE, by rw [← List.range_succ, whoAny_snoc, q, decide_eq_false q2]; simp⟩
      · rw [q] at g18
        simp only [go_sem, reduceIte, reduceCtorEq, Nat.reduceEqDiff, Nat.reduceBEq, Nat.reduceAdd, Nat.reduceMul, Nat.reduceLeDiff, List.getElem?_cons_zero, List.getElem?_cons_succ, bne_self_eq_false, Int.reduceEq, ↓x_gseq, ↓q_kg_n, ↓q_kg_r, ↓q_kg_e, g2, g3, g7, g8, g9, g11, g13, g15, g17, g18, g19, hN, B1, B7, List.length_map, hwl, klt, wsucc (show k < 4611686018427387904 by omega), klt']
        exact ⟨hE, by rw [← List.range_succ, whoAny_snoc, q]; rfl⟩
    · have : k = h.table.pieces.length := by omega
      subst this
      have hq : ((List.range h.table.pieces.length).any fun i => !decide (carryAt x i = 2) && decide ((whoseS x)[j] ∈ (whoseT h.table).getD i [])) = true :=
        List.any_eq_true.2 ⟨i0, List.mem_range.2 hi0, by rw [decide_eq_false hv0, decide_eq_true hw0]; rfl⟩
      rw [hq] at g18
      simp only [go_sem, reduceIte, reduceCtorEq, Nat.reduceEqDiff, Nat.reduceBEq, Nat.reduceAdd, Nat.reduceMul, Nat.reduceLeDiff, List.getElem?_cons_zero, List.getElem?_cons_succ, bne_self_eq_false, Int.reduceEq, ↓x_gseq, ↓q_kg_n, ↓q_kg_r, ↓q_kg_e, g2, g3, g7, g8, g9, g11, g13, g15, g17, g18, g19, hN, B1, B7, List.length_map, hwl, klt, take_f', eI_get hlt']
      refine pgo_call (has_c h.sick _ hv.ok.sk) ?_
      rw [decide_eq_false hns]
      simp only [go_sem, reduceIte, reduceCtorEq, Nat.reduceEqDiff, Nat.reduceBEq, Nat.reduceAdd, Nat.reduceMul, Nat.reduceLeDiff, List.getElem?_cons_zero, List.getElem?_cons_succ, bne_self_eq_false, Int.reduceEq, ↓x_gseq, ↓q_kg_n, ↓q_kg_r, ↓q_kg_e, g2, g3, g7, g8, g9, g11, g13, g15, g17, g18, g19, hN, B1, B7, wsucc (show j < 4611686018427387904 by omega), hlt']
      exact hE
  by_cases n0 : (h.table.pieces.length : Int) = 0
  · simp only [go_sem, reduceIte, reduceCtorEq, Nat.reduceEqDiff, Nat.reduceBEq, Nat.reduceAdd, Nat.reduceMul, Nat.reduceLeDiff, List.getElem?_cons_zero, List.getElem?_cons_succ, bne_self_eq_false, Int.reduceEq, ↓x_gseq, ↓q_kg_n, ↓q_kg_r, ↓q_kg_e, g2, g3, g7, g8, g9, g11, g13, g15, g17, hN, B1, hlt, take_f', n0]
    refine boiledEx_c.go ?_
    simp only [go_sem, reduceIte, reduceCtorEq, Nat.reduceEqDiff, Nat.reduceBEq, Nat.reduceAdd, Nat.reduceMul, Nat.reduceLeDiff, List.getElem?_cons_zero, List.getElem?_cons_succ, bne_self_eq_false, Int.reduceEq, ↓x_gseq, ↓q_kg_n, ↓q_kg_r, ↓q_kg_e]
    exact fin_ret 6 (by simp [upd_at, hN]) ⟨_, H, Settle.refl hE, by simp [upd_at], rfl⟩
  have hp : np % h.table.pieces.length < h.table.pieces.length := Nat.mod_lt _ (by omega)
  have ep : (np : Int).tmod (h.table.pieces.length : Int) = ((np % h.table.pieces.length : Nat) : Int) := (Int.ofNat_tmod _ _).symm
  have ap : IntKind.i64.wrap (np : Int) = (np : Int) := w64 (by omega) (by omega)
  generalize np % h.table.pieces.length = p at hp ep
  have hwne := who_ne hv hp
  obtain ⟨w0, wl, hwe⟩ := List.exists_cons_of_ne_nil hwne
  obtain ⟨m0, hm0, hm1, hm2⟩ := top_mark hv hp (w := w0) (by rw [hwe]; simp)
  have hw0l : ¬ (((whoseT h.table).getD p []).length : Int) = 0 := by rw [hwe]; simp; omega
  have hw00 : (eI ((whoseT h.table).getD p []))[0]? = some [i6 (m0 : Int)] := by rw [hwe, hm0]; rfl
  have hwom : (h.table.women.getD m0 default) = h.table.women[m0] := by rw [List.getD_eq_getElem?_getD, List.getElem?_eq_getElem hm1]; rfl
  rw [hwom] at hm2
  simp only [go_sem, reduceIte, reduceCtorEq, Nat.reduceEqDiff, Nat.reduceBEq, Nat.reduceAdd, Nat.reduceMul, Nat.reduceLeDiff, List.getElem?_cons_zero, List.getElem?_cons_succ, bne_self_eq_false, Int.reduceEq, ↓x_gseq, ↓q_kg_n, ↓q_kg_r, ↓q_kg_e, g2, g3, g7, g8, g9, g11, g13, g15, g17, hN, B1, B7, hc4, hlt, take_f', n0, ap, ep, whose_row hp, hw0l]
  refine v_alloc' fun b22 H2 hn22 B22 st => ?_
  have z22 := hE.isNone hn22
  have n122 := ne_of B1 hn22
  have B1 := st.keep b1 _ n122 B1
  have e2 := st.ext H hE z22
  simp only [go_sem, reduceIte, reduceCtorEq, Nat.reduceEqDiff, Nat.reduceBEq, Nat.reduceAdd, Nat.reduceMul, Nat.reduceLeDiff, List.getElem?_cons_zero, List.getElem?_cons_succ, bne_self_eq_false, Int.reduceEq, ↓x_gseq, ↓q_kg_n, ↓q_kg_r, ↓q_kg_e, g2, g3, g7, g8, g9, g11, g13, g15, g17, hN, B1]
  refine v_store' B22 rfl rfl (by simp [AV.cells, AV.isCell]) (by simp) fun H3 B22 st => ?_
  have B1 := st.keep b1 _ n122 B1
  have e3 := st.ext H e2 z22
  replace B22 : H3 b22 = some (.box (hc4 h (.slice (eI h.sick)) (.slice (h.touches.map eTo)) (.slice (h.boiled.map eB)) .emp)) := B22
  simp only [go_sem, reduceIte, reduceCtorEq, Nat.reduceEqDiff, Nat.reduceBEq, Nat.reduceAdd, Nat.reduceMul, Nat.reduceLeDiff, List.getElem?_cons_zero, List.getElem?_cons_succ, bne_self_eq_false, Int.reduceEq, ↓x_gseq, ↓q_kg_n, ↓q_kg_r, ↓q_kg_e, g2, g3, g7, g8, g9, g11, g13, g15, g17, hN, B1, take_f']
  refine v_appendm rfl (fun e => n0 (by have : (h.table.pieces.map eP).length = 0 := by rw [e]; rfl
                                        simp at this; simp [this])) (eP_good _) (eP_cell _) (by simp; omega) (by simp; omega) ?_
  intro b cap hbn hcap
  rw [List.length_map] at hcap
  have zb := e3.isNone hbn
  have n1b := ne_of B1 hbn
  have n22b := ne_of B22 hbn
  have hr0 : RowsOf 2 ((h.table.pieces.map eP).flatten ++ List.replicate ((cap - (h.table.pieces.map eP).length) * 2) .any) (h.table.pieces.map eP) := RowsOf.start (by omega) (eP_good _) _
  generalize hcs : (h.table.pieces.map eP).flatten ++ List.replicate ((cap - (h.table.pieces.map eP).length) * 2) AV.any = cs at hr0
  have B1 : updH H3 b (.box cs) b1 = some (.box [.slice (h.table.women.map eW), .slice (h.table.pieces.map eP), i6 h.table.wrong, .slice (eI h.sick), i6 h.others, i6 h.last, .slice (h.touches.map eTo), .slice (h.boiled.map eB), .slice (h.signs.map eS)]) := by rw [updH_ne _ _ n1b]; exact B1
  have B22 : updH H3 b (.box cs) b22 = some (.box (hc4 h (.slice (eI h.sick)) (.slice (h.touches.map eTo)) (.slice (h.boiled.map eB)) .emp)) := by rw [updH_ne _ _ n22b]; exact B22
  have Bb : updH H3 b (.box cs) b = some (.box cs) := updH_same _ _ _
  have e4 : Ext H (updH H3 b (.box cs)) := e3.upd zb _
  generalize updH H3 b (.box cs) = H4 at B1 B22 Bb e4 ⊢
  simp only [go_sem, reduceIte, reduceCtorEq, Nat.reduceEqDiff, Nat.reduceBEq, Nat.reduceAdd, Nat.reduceMul, Nat.reduceLeDiff, List.getElem?_cons_zero, List.getElem?_cons_succ, bne_self_eq_false, Int.reduceEq, ↓x_gseq, ↓q_kg_n, ↓q_kg_r, ↓q_kg_e, List.length_map, g2, g3, g7, g8, g9, g11, g13, g15, g17, hN]
  refine v_store' B22 rfl rfl (by simp [AV.cells, AV.isCell]) (by simp [hc4]) fun H5 B22 st => ?_
  have B1 := st.keep b1 _ n122 B1
  have Bb := st.keep b _ n22b.symm Bb
  have e5 := st.ext H e4 z22
  replace B22 : H5 b22 = some (.box [.slice (h.table.women.map eW), .mslice b 0 h.table.pieces.length cap, i6 h.table.wrong, .slice (eI h.sick), i6 h.others, i6 h.last, .slice (h.touches.map eTo), .slice (h.boiled.map eB), .emp]) := B22
  have hpe : p < (h.table.pieces.map eP).length := by simpa using hp
  have hge : (h.table.pieces.map eP).getD p [] = [.slice (eI h.table.pieces[p].marks), i6 h.table.pieces[p].bundle] := by
    rw [List.getD_eq_getElem?_getD, map_get (f := eP) hp]; rfl
  have hgd : h.table.pieces.getD p default = h.table.pieces[p] := by rw [List.getD_eq_getElem?_getD, List.getElem?_eq_getElem hp]; rfl
  have l0 := rows_lt hr0 hpe (show 0 < 2 by omega)
  have ml : (m0 : Int) < (h.table.women.length : Int) := by omega
  clear e2 e3 e4
  simp only [go_sem, reduceIte, reduceCtorEq, Nat.reduceEqDiff, Nat.reduceBEq, Nat.reduceAdd, Nat.reduceMul, Nat.reduceLeDiff, List.getElem?_cons_zero, List.getElem?_cons_succ, bne_self_eq_false, Int.reduceEq, ↓x_gseq, ↓q_kg_n, ↓q_kg_r, ↓q_kg_e, g2, g3, g7, g8, g9, g11, g13, g15, g17, hN, B1, B22, take_f', whose_row hp, hw00, map_get (f := eW) hm1, eW, show (p : Int) < (h.table.pieces.length : Int) by omega, d_bs1, Int.toNat_zero, show (0 : Int) ≤ 0 by omega]
  refine v_store' Bb rfl rfl (by simp [AV.cells, AV.isCell]) (by omega) fun H6 Bb st => ?_
  have B1 := st.keep b1 _ n1b B1
  have B22 := st.keep b22 _ n22b B22
  have e6 := st.ext H e5 zb
  rw [place_at (by omega) rfl] at Bb
  have hr1 := hr0.set hpe (show 0 < 2 by omega) (.slice [[i6 h.table.women[m0].mark]])
  rw [set_mark hpe hge] at hr1
  obtain ⟨y, hy⟩ : ∃ y, found h p h.table.women[m0].mark = y := ⟨_, rfl⟩
  have hes : (h.table.pieces.map eP).set p [.slice [[i6 h.table.women[m0].mark]], i6 h.table.pieces[p].bundle] = y.table.pieces.map eP := by
    rw [← hy]
    show _ = (h.table.pieces.set p _).map eP
    rw [List.map_set, hgd]; rfl
  have hyl : y.table.pieces.length = h.table.pieces.length := by rw [← hy]; exact found_len _ _ _
  have ym : HSm y := by
    rw [← hy]
    refine ⟨hm.women, by rw [found_len]; exact hm.pieces, fun q hq => ?_, hm.sick, hm.touches, hm.boiled, by show (0 : Nat) ≤ _; omega⟩
    rcases List.mem_or_eq_of_mem_set (show q ∈ h.table.pieces.set p _ from hq) with hq | rfl
    · exact hm.marks q hq
    · show ([_] : List Int).length ≤ _; simp
  have hsub : HV y → SubH y x := by rw [← hy, ← hxe]; exact fun yv => found_sub hv hp (by rw [hgd]; rw [hgd] at hm2; exact hm2) yv (by rw [hxe]; exact xv)
  have hhy : hourOK y (hourK h n) = true := by rw [← hy]; exact hourK_ok hv.ok n
  have hys : y.signs = [] := by rw [← hy]; rfl
  have wy : Wk (.agg [.slice (h.table.women.map eW), .slice (y.table.pieces.map eP), i6 h.table.wrong, .slice (eI h.sick), i6 h.others, i6 h.last, .slice (h.touches.map eTo), .slice (h.boiled.map eB), .emp]) (eH y) := by
    rw [← hy]
    exact wk9 (Wk.refl _) (Wk.refl _) (Wk.refl _) (Wk.refl _) (Wk.refl _) (Wk.refl _) (Wk.refl _) (Wk.refl _) Wk.emp
  rw [hes] at hr1
  clear hes hy hge
  simp only [go_sem, reduceIte, reduceCtorEq, Nat.reduceEqDiff, Nat.reduceBEq, Nat.reduceAdd, Nat.reduceMul, Nat.reduceLeDiff, List.getElem?_cons_zero, List.getElem?_cons_succ, bne_self_eq_false, Int.reduceEq, ↓x_gseq, ↓q_kg_n, ↓q_kg_r, ↓q_kg_e]
  refine ⟨_, frz_box Bb B22 n22b (k := 1) rfl (by rw [List.length_map, hyl]) hcap hr1, ?_⟩
  have F9 : updH (delH H6 b) b22 (.box (List.set [.slice (h.table.women.map eW), .mslice b 0 h.table.pieces.length cap, i6 h.table.wrong, .slice (eI h.sick), i6 h.others, i6 h.last, .slice (h.touches.map eTo), .slice (h.boiled.map eB), .emp] 1 (.slice (y.table.pieces.map eP)))) b22 = some (.box [.slice (h.table.women.map eW), .slice (y.table.pieces.map eP), i6 h.table.wrong, .slice (eI h.sick), i6 h.others, i6 h.last, .slice (h.touches.map eTo), .slice (h.boiled.map eB), .emp]) := updH_same _ _ _
  have eF : Ext H (updH (delH H6 b) b22 (.box (List.set [.slice (h.table.women.map eW), .mslice b 0 h.table.pieces.length cap, i6 h.table.wrong, .slice (eI h.sick), i6 h.others, i6 h.last, .slice (h.touches.map eTo), .slice (h.boiled.map eB), .emp] 1 (.slice (y.table.pieces.map eP))))) := (e6.del zb).upd z22 _
  generalize updH (delH H6 b) b22 (.box (List.set [.slice (h.table.women.map eW), .mslice b 0 h.table.pieces.length cap, i6 h.table.wrong, .slice (eI h.sick), i6 h.others, i6 h.last, .slice (h.touches.map eTo), .slice (h.boiled.map eB), .emp] 1 (.slice (y.table.pieces.map eP)))) = H8 at F9 eF ⊢
  simp only [go_sem, reduceIte, reduceCtorEq, Nat.reduceEqDiff, Nat.reduceBEq, Nat.reduceAdd, Nat.reduceMul, Nat.reduceLeDiff, List.getElem?_cons_zero, List.getElem?_cons_succ, bne_self_eq_false, Int.reduceEq, ↓x_gseq, ↓q_kg_n, ↓q_kg_r, ↓q_kg_e, F9, g2, g3, g7, g8, g9, g11, g13, g15, g17, hN]
  refine ((faultH_c y ym.tsm ym.sk).wk wy).go ?_
  by_cases yc : checkHouse y = 0
  rotate_left
  · simp only [go_sem, reduceIte, reduceCtorEq, Nat.reduceEqDiff, Nat.reduceBEq, Nat.reduceAdd, Nat.reduceMul, Nat.reduceLeDiff, List.getElem?_cons_zero, List.getElem?_cons_succ, bne_self_eq_false, Int.reduceEq, ↓x_gseq, ↓q_kg_n, ↓q_kg_r, ↓q_kg_e, yc]
    refine boiledEx_c.go ?_
    simp only [go_sem, reduceIte, reduceCtorEq, Nat.reduceEqDiff, Nat.reduceBEq, Nat.reduceAdd, Nat.reduceMul, Nat.reduceLeDiff, List.getElem?_cons_zero, List.getElem?_cons_succ, bne_self_eq_false, Int.reduceEq, ↓x_gseq, ↓q_kg_n, ↓q_kg_r, ↓q_kg_e]
    exact fin_ret 6 (by simp [upd_at, hN]) ⟨_, H, Settle.refl eF, by simp [upd_at], rfl⟩
  have yv := hv_of ym.tsm ym.sk yc
  have sub := hsub yv
  have ay := ask_zero yc (ne_nosigns yv hys)
  have hbl := sub.boil yc yv.ok xc xv.ok hhy hh
  simp only [go_sem, reduceIte, reduceCtorEq, Nat.reduceEqDiff, Nat.reduceBEq, Nat.reduceAdd, Nat.reduceMul, Nat.reduceLeDiff, List.getElem?_cons_zero, List.getElem?_cons_succ, bne_self_eq_false, Int.reduceEq, ↓x_gseq, ↓q_kg_n, ↓q_kg_r, ↓q_kg_e, yc, F9, g2, g3, g7, g8, g9, g11, g13, g15, g17, hN]
  refine ((house_c y ym).wk wy).go ?_
  simp only [go_sem, reduceIte, reduceCtorEq, Nat.reduceEqDiff, Nat.reduceBEq, Nat.reduceAdd, Nat.reduceMul, Nat.reduceLeDiff, List.getElem?_cons_zero, List.getElem?_cons_succ, bne_self_eq_false, Int.reduceEq, ↓x_gseq, ↓q_kg_n, ↓q_kg_r, ↓q_kg_e, g2, g3, g7, g8, g9, g11, g13, g15, g17, hN]
  refine (boil_c y ym.tsm ym.sk (hourK h n)).go ?_
  simp only [go_sem, reduceIte, reduceCtorEq, Nat.reduceEqDiff, Nat.reduceBEq, Nat.reduceAdd, Nat.reduceMul, Nat.reduceLeDiff, List.getElem?_cons_zero, List.getElem?_cons_succ, bne_self_eq_false, Int.reduceEq, ↓x_gseq, ↓q_kg_n, ↓q_kg_r, ↓q_kg_e, listR, ay, hhy, g2, g3, g7, g8, g9, g11, g13, g15, g17, hN, show ((boilOf' y (hourK h n)).length : Int) ≤ ((boilOf' x (hourK h n)).length : Int) by omega]
  refine boiledEx_c.go ?_
  simp only [go_sem, reduceIte, reduceCtorEq, Nat.reduceEqDiff, Nat.reduceBEq, Nat.reduceAdd, Nat.reduceMul, Nat.reduceLeDiff, List.getElem?_cons_zero, List.getElem?_cons_succ, bne_self_eq_false, Int.reduceEq, ↓x_gseq, ↓q_kg_n, ↓q_kg_r, ↓q_kg_e]
  exact fin_ret 6 (by simp [upd_at, hN]) ⟨_, H, Settle.refl eF, by simp [upd_at], rfl⟩
end Go.Lift

