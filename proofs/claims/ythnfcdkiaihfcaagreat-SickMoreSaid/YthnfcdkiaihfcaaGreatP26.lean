/- Part 26 of the proof: the tools and contracts. Conditions: none. -/
import Derived.Test.YthnfcdkiaihfcaaGreatP25
import Derived.Test.YthnfcdkiaihfcaaGreatProg
import Derived.SizedLaws
set_option maxRecDepth 100000
set_option linter.unusedVariables false
namespace Go.Lift
open Go Go.Proofs
def cert6 : Nat → Option Cert := fun
  | 2 => some ⟨[0, 1, 2, 4, 5], (.one 3 (.one 6 (.one 7 (.one 8 .done)))), [[], [], [1], [0, 1, 2], [], [4], [0, 1, 2, 3, 4, 5], [0, 1, 2, 3, 4, 5, 6], [0, 1, 2, 3, 4, 5, 6, 7]]⟩
  | 9 => some ⟨[0, 1, 2, 3, 4, 5, 6, 7, 8, 9, 10, 11, 12, 13, 14, 15, 16, 17], .done, [[], [0], [0, 1], [0, 1, 2], [0, 1, 2, 3], [0, 1, 2, 3], [0, 1, 2, 3], [0, 1, 2, 3, 6], [0, 1, 2, 3], [0, 1, 2, 3, 8], [0, 1, 2, 3, 8, 9], [0, 1, 2, 3, 6, 7, 8, 9, 10], [0, 1, 2, 3, 4, 5, 6, 7, 8, 9, 10, 11], [0, 1, 2, 3, 4, 5, 6, 7, 8, 9, 10, 11, 12], [0, 1, 2, 3, 4, 5, 6, 7, 8, 9, 10, 11, 12, 13], [0, 1, 2, 3, 4, 5, 6, 7, 8, 9, 10, 11, 12, 13, 14], [0, 1, 2, 3, 4, 5, 6, 7, 8, 9, 10, 11, 12, 13, 14, 15], [0, 1, 2, 3, 4, 5, 6, 7, 8, 9, 10, 11, 12, 13, 14, 15, 16]]⟩
  | _ => none
def ac6 : ACode :=(.seq (.ops [uO 3 .box 0, uO 4 .box 1, oA 6 .mov [kF]]) (.seq (.ops [uO 12 lT9 3, oA 7 (.alloc z9) [], oZ (.store 9) [.t 7, .t 12]]) (.seq (.draw [(false, oA 13 (.bslice 2) []), (false, uO 14 fA8 3), (false, uO 15 lF 14), (true, uO 17 lT2 4), (true, uO 18 (.bslice 2) 17)] (.one (uB 16 (.append 2 16) 13 15) [uO 17 lT2 4] (.one (uB 19 (.append 2 16) 16 18) [] (.one (uO 20 fA8 7) [] (.one (oZ (.store 1) [.t 20, .t 19]) [] .done))))) (.seq (.seq (.ops [uO 21 lT9 3, uO 22 (.call 35) 21, uO 23 .not 22, uM 24 23, gO 25 lT9 7 24 false, gO 26 (.call 35) 25 24 false, gO 27 .not 26 24 false, oA 28 .pick [.t 24, kT, .t 27]]) (.cond (.t 28) (.seq (.ops [oA 29 (.call 20) [], uM 6 29]) .ret) .skip)) (.seq (.ops [uO 31 lT9 3, uO 32 (.call 22) 31, uO 33 (.call 30) 32, uM 30 33, uO 34 x0 30, uO 35 x1 30, uM 8 34, uM 9 35]) (.seq (.ops [uO 37 lT9 7, uO 38 (.call 22) 37, uO 39 (.call 30) 38, uM 36 39, uO 40 x0 36, uO 41 x1 36, uM 10 40, uM 11 41]) (.seq (.seq (.ops [uM 42 9, oA 43 bN [.t 42, (kI 0)], uM 44 43, gM 45 11 44 false, oG 46 bN [.t 45, (kI 0)] 44 false, oA 47 .pick [.t 44, kT, .t 46], uM 48 47, gM 49 10 48 false, gO 50 .len 49 48 false, gM 51 8 48 false, gO 52 .len 51 48 false, gB 53 bL 50 52 48 false, oA 54 .pick [.t 48, kT, .t 53], uM 55 54, gM 56 10 55 false, gO 57 .len 56 55 false, gM 58 8 55 false, gO 59 .len 58 55 false, oG 60 bA [.t 59, (kI 1)] 55 false, gB 61 (.bin .gtr) 57 60 55 false, oA 62 .pick [.t 55, kT, .t 61]]) (.cond (.t 62) (.seq (.ops [oA 6 .mov [kF]]) .ret) .skip)) (.seq (.draw [(false, uM 63 10), (false, uO 64 .len 63), (false, oA 65 (.bin .gtr) [.t 64, (kI 0)]), (false, uM 66 65), (false, gO 67 lT9 7 66 false), (false, gO 68 lT9 3 66 false), (false, gM 69 2 66 false), (false, gO 70 (.conv .i64) 69 66 false), (false, gO 71 fA5 3 66 false), (false, gO 72 lF 71 66 false), (false, oG 73 bA [.t 72, (kI 1)] 66 false), (false, gB 74 (.bin .rem) 70 73 66 false), (false, oG 75 (.call 41) [.t 67, .t 68, .t 74] 66 false), (false, oA 76 .pick [.t 66, kT, .t 75]), (false, uM 77 76), (false, oG 78 (.call 20) [] 77 true), (false, oA 79 .pick [.t 77, .t 78, kF]), (false, uM 6 79)] .done) .ret))))))))
theorem fc6 : fnC Tryz.prog 6 cert6 = some (80, [.tmp 6], ac6) := by kernel_rfl
end Go.Lift
set_option maxRecDepth 100000
set_option linter.unusedVariables false
namespace Go.Lift
open Go Go.Proofs
def cert41 : Nat → Option Cert := fun _ => none
def ac41 : ACode :=(.seq (.ops [uO 3 .box 0, uO 4 .box 1, oA 6 .mov [kF]]) (.seq (.ops [uO 21 lT9 3, uO 22 (.call 22) 21, uO 23 (.call 21) 22, uM 20 23, uO 24 x0 20, uO 25 x1 20, uM 7 24, uM 8 25]) (.seq (.ops [uO 27 lT9 4, uO 28 (.call 22) 27, uO 29 (.call 21) 28, uM 26 29, uO 30 x0 26, uO 31 x1 26, uM 9 30, uM 10 31]) (.seq (.ops [uO 33 lT9 3, uO 34 (.call 22) 33, uO 35 (.call 23) 34, uM 32 35, uO 36 x0 32, uO 37 x1 32, uM 11 36, uM 12 37]) (.seq (.ops [uO 39 lT9 4, uO 40 (.call 22) 39, uO 41 (.call 23) 40, uM 38 41, uO 42 x0 38, uO 43 x1 38, uM 13 42, uM 14 43]) (.seq (.ops [uO 45 lT9 3, uO 46 (.call 22) 45, uM 47 2, uB 48 (.call 44) 46 47, uM 44 48, uO 49 x0 44, uO 50 x1 44, uM 15 49, uM 16 50]) (.seq (.ops [uO 52 lT9 4, uO 53 (.call 22) 52, uM 54 2, uB 55 (.call 44) 53 54, uM 51 55, uO 56 x0 51, uO 57 x1 51, uM 17 56, uM 18 57]) (.seq (.seq (.ops [uM 58 8, oA 59 bN [.t 58, (kI 0)], uM 60 59, gM 61 10 60 false, oG 62 bN [.t 61, (kI 0)] 60 false, oA 63 .pick [.t 60, kT, .t 62], uM 64 63, gM 65 9 64 false, gM 66 7 64 false, gB 67 (.call 94) 65 66 64 false, gO 68 .not 67 64 false, oA 69 .pick [.t 64, kT, .t 68], uM 70 69, gM 71 12 70 false, oG 72 bN [.t 71, (kI 0)] 70 false, oA 73 .pick [.t 70, kT, .t 72], uM 74 73, gM 75 14 74 false, oG 76 bN [.t 75, (kI 0)] 74 false, oA 77 .pick [.t 74, kT, .t 76], uM 78 77, gM 79 11 78 false, gO 80 .len 79 78 false, gM 81 13 78 false, gO 82 .len 81 78 false, gB 83 (.bin .gtr) 80 82 78 false, oA 84 .pick [.t 78, kT, .t 83], uM 85 84, gM 86 16 85 false, oG 87 bN [.t 86, (kI 0)] 85 false, oA 88 .pick [.t 85, kT, .t 87], uM 89 88, gM 90 18 89 false, oG 91 bN [.t 90, (kI 0)] 89 false, oA 92 .pick [.t 89, kT, .t 91], uM 93 92, gM 94 15 93 false, gO 95 .len 94 93 false, gM 96 17 93 false, gO 97 .len 96 93 false, gB 98 (.bin .gtr) 95 97 93 false, oA 99 .pick [.t 93, kT, .t 98]]) (.cond (.t 99) (.seq (.ops [oA 6 .mov [kF]]) .ret) .skip)) (.seq (.seq (.ops [oA 19 .mov [(kI 0)]]) (.block 0 (.loop (.seq (.seq (.ops [uM 100 19, uM 101 11, uO 102 .len 101, uB 103 bL 100 102]) (.cond (.t 103) .skip (.exit 0))) (.seq (.block 1 (.seq (.ops [uM 106 13, uM 107 11, uM 108 19, uB 109 (.idxaddr 1) 107 108, uO 110 lF 109, uB 111 (.call 40) 106 110, uO 112 .not 111]) (.cond (.t 112) (.seq (.ops [oA 6 .mov [kF]]) .ret) .skip))) (.ops [uM 104 19, oA 105 bA [.t 104, (kI 1)], uM 19 105])))))) (.seq (.ops [oA 6 .mov [kT]]) .ret))))))))))
theorem fc41 : fnC Tryz.prog 41 cert41 = some (113, [.tmp 6], ac41) := by kernel_rfl
end Go.Lift
set_option maxRecDepth 100000
set_option linter.unusedVariables false
namespace Go.Lift
open Go Go.Proofs
def cert94 : Nat → Option Cert := fun
  | 6 => some ⟨[0, 1, 2, 3, 4, 5, 6, 7, 8, 9, 10, 11, 12, 13, 14, 15], .done, [[], [], [0, 1], [0, 1, 2], [0, 1, 2, 3], [0, 1, 2, 3, 4], [0, 1, 2, 3, 4, 5], [0, 1, 2, 3, 4, 5], [0, 1, 2, 3, 4, 5, 6, 7], [0, 1, 2, 3, 4, 5, 6, 7, 8], [0, 1, 2, 3, 4, 5], [0, 1, 2, 3, 4, 5], [0, 1, 2, 3, 4, 5, 10, 11], [0, 1, 2, 3, 4, 5, 10, 11, 12], [0, 1, 2, 3, 4, 5, 6, 7, 8, 9, 10, 11, 12, 13], [0, 1, 2, 3, 4, 5, 6, 7, 8, 9, 10, 11, 12, 13, 14]]⟩
  | _ => none
def ac94 : ACode :=(.seq (.ops [oA 4 .mov [kF]]) (.seq (.seq (.ops [uM 6 0, uO 7 .len 6, uM 8 1, uO 9 .len 8, uB 10 bN 7 9]) (.cond (.t 10) (.seq (.ops [oA 4 .mov [kF]]) .ret) .skip)) (.seq (.seq (.ops [oA 5 .mov [(kI 0)]]) (.block 0 (.loop (.seq (.seq (.ops [uM 11 5, uM 12 0, uO 13 .len 12, uB 14 bL 11 13]) (.cond (.t 14) .skip (.exit 0))) (.seq (.block 1 (.seq (.draw [(false, uM 17 0), (false, uM 18 5), (false, uB 19 (.idxaddr 1) 17 18), (false, uO 20 lF 19), (false, oA 21 bN [.t 20, (kI 3)]), (false, uM 22 21), (false, gM 23 0 22 true), (false, gM 24 5 22 true), (false, gB 25 (.idxaddr 1) 23 24 22 true), (false, gO 26 lF 25 22 true), (false, gM 27 1 22 true), (false, gM 28 5 22 true), (false, gB 29 (.idxaddr 1) 27 28 22 true), (false, gO 30 lF 29 22 true), (false, gB 31 bN 26 30 22 true), (false, oA 32 .pick [.t 22, .t 31, kF])] .done) (.cond (.t 32) (.seq (.ops [oA 4 .mov [kF]]) .ret) .skip))) (.ops [uM 15 5, oA 16 bA [.t 15, (kI 1)], uM 5 16])))))) (.seq (.ops [oA 4 .mov [kT]]) .ret))))
theorem fc94 : fnC Tryz.prog 94 cert94 = some (33, [.tmp 4], ac94) := by kernel_rfl
end Go.Lift
set_option linter.unusedSimpArgs false
set_option linter.unusedVariables false
namespace Go.Lift
open Go Go.Proofs
theorem bitsL_natOf {c : List Bool} (hc : c.length ≤ 62) : bitsL (natOf c) = truesUpto c c.length := by
  rw [bitsL_of hc (natOf_lt c), bitsUpto, truesUpto]
  congr 1
  apply List.filter_congr
  intro i _
  rw [natOf_bit]
end Go.Lift

set_option linter.unusedSimpArgs false
set_option linter.unusedVariables false
namespace Go.Lift
open Go Go.Proofs
def beforeL : List Int → List Int → Bool
  | a :: xs, b :: bs => if a = b then beforeL xs bs else decide (a < b)
  | [], bs => decide (0 < bs.length)
  | _ :: _, [] => false
def shorterL (a b : List Int) : Bool := decide (a.length < b.length) || (decide (a.length = b.length) && beforeL a b)
def canN (all : List Nat) (w : Nat) : Bool := all.any fun a => decide (a &&& w = w)
end Go.Lift

set_option linter.unusedSimpArgs false
set_option linter.unusedVariables false
namespace Go.Lift
open Go Go.Proofs
def signAt (h : House) (bs : List Bool) (i : Nat) : Bool := bs.getD (h.signs.getD i default).thing.toNat false == (h.signs.getD i default).carries
def signsL (h : House) (c : Course) : List Bool := (List.range h.signs.length).map (signAt h (lastOf h c []))
def fullN (h : House) : Nat := 2 ^ h.signs.length - 1
end Go.Lift

set_option linter.unusedSimpArgs false
set_option linter.unusedVariables false
namespace Go.Lift
open Go Go.Proofs
def hrsGo (h : House) : Nat → Nat → Nat → List Int
  | 0, _, _ => []
  | k + 1, j, n => ((h.touches.getD j default).lo + ((n % hourN h j : Nat) : Int)) :: hrsGo h k (j + 1) (n / hourN h j)
def hrsOf (h : House) (n : Nat) : List Int := hrsGo h h.touches.length 0 n
def rowR (h : House) (j : Nat) (o : List Int) : List Course := (List.range j).map fun n => ⟨o, hrsOf h n⟩
def coursesR (h : House) : List Course := (truthsR h.table).flatMap (rowR h (timesR h h.touches.length))
def allR (h : House) : List Nat := (coursesR h).map fun c => natOf (signsL h c)
end Go.Lift

set_option linter.unusedSimpArgs false
set_option linter.unusedVariables false
namespace Go.Lift
open Go Go.Proofs
theorem Grown.wk {sz : Nat} {H0 H : AHeap} {v : AV} {es : List (List AV)} (g : Grown sz H0 H v es) : Wk v (.slice es) := fun _ _ _ hr => by
  rcases g with ⟨rfl, rfl⟩ | ⟨b, cap, rfl, _⟩
  · exact Rep.weaken_emp hr
  · exact Rep.weaken_slice hr
end Go.Lift

set_option linter.unusedSimpArgs false
set_option linter.unusedVariables false
namespace Go.Lift
open Go Go.Proofs Go.ChangeShapes Go.WideShapes Go.ChangeAt Go.RowKit Go.Proofs.YthnfcdkiaihfcaaGreat
def chk31 (P : Program) : Bool := match P.underlying 31 with
  | some (.struct fs) => match fs[6]? with
    | some f => f.offset == 8 && P.cellsOf f.type == 1 && (match P.underlying f.type with
      | some (.slice e) => P.bytesOf e == 16
      | _ => false)
    | none => false
  | _ => false
theorem chk31_ok : chk31 Tryz.prog = true := by kernel_rfl
theorem signs_bound {H : Type} {enc : TypeId × Value → H} {P : Program} {w : World} {v0 : Value} {d0 : DataW H} {a : List MemPlace} {h : House} (hk : chk31 P = true) (ht : DataW.Trod enc P w 0 (fun _ => true) true 31 v0 d0 a) (hr : Rep H0 w v0 (eH h))
    (hz : ∀ n ∈ d0.weights P 31, n ≤ reachBytes) : h.signs.length * 16 ≤ 140737488351232 := by
  unfold chk31 at hk
  split at hk
  · rename_i fs hu
    split at hk
    · rename_i f hf
      simp only [Bool.and_eq_true, beq_iff_eq] at hk
      obtain ⟨⟨ho, hc⟩, hk⟩ := hk
      split at hk
      · rename_i e he
        have hb : P.bytesOf e = 16 := by simpa using hk
        obtain ⟨fuel, ht⟩ := ht
        obtain ⟨xs, n, _, hx, _, hlen, hff⟩ := DataW.trod_struct hu ht
        have h6 := hff 6 f hf
        have hd : d0 = .agg (xs.map (·.1)) := (Prod.mk.inj hx).1
        have hil : 6 < xs.length := by
          rw [hlen]
          rcases Nat.lt_or_ge 6 fs.size with hh | hh
          · exact hh
          · rw [Array.getElem?_eq_none hh] at hf; cases hf
        rw [List.getElem?_eq_getElem hil, ho, hc] at h6
        unfold eH at hr
        cases hr with
        | agg arr cs hs hxx =>
        have h8 := hxx 8 _ rfl
        have hsz : arr.size = 9 := by simpa using hs
        have hdrop : ((Value.agg arr).cells.toList.drop 8).take 1 = [arr.getD 8 undef] := by
          show (arr.toList.drop 8).take 1 = _
          rw [List.drop_eq_getElem_cons (show 8 < arr.toList.length by simp [hsz])]
          simp [Array.getD, hsz]
        rw [hdrop] at h6
        generalize arr.getD 8 undef = u at h6 h8
        rcases Deep.open_slice he h6 with ⟨hu', _⟩ | ⟨ad, len, cap, m, n', D, Pl, hu', _, hlc, _, hm, hxe, _⟩
        · have : u = .slice none 0 0 := by simpa using hu'
          subst this
          have hl0 : (h.signs.map eS).length = 0 := by
            generalize h.signs.map eS = es at h8
            cases h8
            · rfl
          have : h.signs.length = 0 := by simpa using hl0
          omega
        · have : u = .slice (some ad) len cap := by simpa using hu'
          subst this
          have hl0 : (h.signs.map eS).length ≤ len := by
            generalize h.signs.map eS = es at h8
            cases h8
            · simp
            · exact Nat.le_refl _
          have hle : h.signs.length ≤ len := by simpa using hl0
          have hmc : m = cap := by simpa using hm
          subst hmc
          have hw := hz ((((List.range len).map D).length + ((List.range (m - len)).map fun j => D (len + j)).length) * P.bytesOf e) (by
            rw [hd]
            unfold DataW.weights
            rw [hu]
            refine DataW.weights_mem_each (j := 6) (t := f.type) (d := xs[6].1) ?_ ?_ _ ?_
            · rw [List.getElem?_map, Array.getElem?_toList, hf]; rfl
            · rw [List.getElem?_map, List.getElem?_eq_getElem hil]; rfl
            · rw [hxe]
              simp [DataW.weights, he])
          rw [hb] at hw
          simp only [List.length_map, List.length_range, reachBytes] at hw
          have : len + (m - len) = m := by omega
          rw [this] at hw
          omega
      · cases hk
    · cases hk
  · cases hk
set_option maxRecDepth 100000 in
theorem law_stepS {k : FuncId} {fn : Func} {ts : List TypeId} {s : ChangeSpec} {dom : List PathCond} {os : Os} (started : os.Started) {H : Type} {enc : TypeId × Value → H}
    (hf : Tryz.checked.prog.funcs[k]? = some fn) (hno : Tryz.checked.prog.inits.idxOf? k = none) (hr : fn.resultTypes = #[4]) (hp : parsOK Tryz.prog fn = true) (hv : s.vars = []) (h31 : fn.params.toList = 31 :: ts)
    (hs : ∀ ds : List (DataW H), ds.length = fn.params.size → (s.fn H ds).results = [.lit (.bool true)] ∧ (s.fn H ds).args = ds ∧ (s.fn H ds).vars = [])
    (wit : ∃ (w : World) (tape : Tape) (i : Input), w.os = os ∧ (w.forCall tape i).Shaped Tryz.checked.prog ∧ i.vars = [] ∧ Input.okWide Tryz.checked.prog (w.forCall tape i) .any w.heap.size k i ∧
      s.pre6 enc Tryz.checked.prog fn dom false (w.forCall tape i).memory i.args ∧ ({} : Assume).holds Tryz.checked.prog (lone (Frame.enter Tryz.checked.prog k i.args .normal) [] (w.forCall tape i)))
    (call : ∀ xs, ArgsOf Tryz.prog fn.params.toList xs → (∀ a r, xs = eH a :: r → a.signs.length * 16 ≤ 140737488351232) → Pure Tryz.prog k xs (.bool true)) :
    ReturnsInHanded {} Tryz.checked os k .any (s.pre6 enc Tryz.checked.prog fn dom false) (s.post enc Tryz.checked.prog fn false true false false) := by
  refine returnsInHanded_of_change_sized (C := Tryz.checked) own_knob started hno hf wit ?_
  intro W base args ds gs before hval hW _ hsz _
  simp only [parsOK, List.all_eq_true, Bool.and_eq_true, decide_eq_true_eq] at hp
  have hWW := hW
  obtain ⟨p, q, hA, hV, _⟩ := hW
  have hV' := hV
  rw [hv] at hV'
  obtain ⟨rfl, rfl⟩ := trodVars_none hV'
  have hA' : DataW.TrodAll enc Tryz.prog W 0 (fun _ => true) true fn.params.toList args.toList ds p := hA
  have hval' : ∀ (j : Nat) t v, fn.params.toList[j]? = some t → args.toList[j]? = some v → Value.okWide Tryz.prog W .any base t v := fun j t v ht hvv => hval j t v (by rw [← Array.getElem?_toList]; exact ht) (by rw [← Array.getElem?_toList]; exact hvv)
  obtain ⟨xs, h1, h2, h3, h4⟩ := args_of (P := Tryz.prog) hA' hval' (fun t ht => (hp t ht).2)
  have hbound : ∀ a r, xs = eH a :: r → a.signs.length * 16 ≤ 140737488351232 := by
    rintro a r rfl
    rw [h31] at hA'
    obtain ⟨v, vs1, d, ds1, pa, pb, hvs, rfl, rfl, t1, t2⟩ := trodAll_cons hA'
    have hr0 := h4 0 v (eH a) (by rw [hvs]; rfl) rfl
    refine signs_bound chk31_ok t1 hr0 fun m hm => ?_
    have hall := List.all_eq_true.1 hsz m (by
      rw [h31]
      exact DataW.weights_mem_each (j := 0) (t := 31) (d := d) rfl rfl m hm)
    simpa using hall
  refine (calls_pure (call xs h1 hbound) h2 h4).mono fun e W' ⟨he, hb⟩ => ?_
  subst he
  exact ⟨_, rfl, post_of_below laid_out (fun t ht => (hp t ht).1) hv hr und4 (hs ds (by rw [h3]; simp)) hWW hb⟩
end Go.Lift

set_option linter.unusedSimpArgs false
set_option linter.unusedVariables false
namespace Go.Lift
open Go Go.Proofs
/-- The best list among those by bits. -/
def bestAt (ok : Nat → Bool) (best : List Int) (n : Nat) : List Int := if shorterL (bitsL n) best = true ∧ ok n = true then bitsL n else best
def bestUpto (ok : Nat → Bool) (full j : Nat) : List Int := (List.range j).foldl (bestAt ok) (bitsL full)
def bestOf (ok : Nat → Bool) (full : Nat) : List Int := bestUpto ok full (full + 1)
theorem bestUpto_succ (ok : Nat → Bool) (full j : Nat) : bestUpto ok full (j + 1) = bestAt ok (bestUpto ok full j) j := by
  simp [bestUpto, List.range_succ]
theorem bitsL_len (n : Nat) : (bitsL n).length ≤ 62 := by
  simp only [bitsL, bitsUpto, List.length_map]
  exact Nat.le_trans (List.length_filter_le _ _) (by simp)
theorem bestUpto_len (ok : Nat → Bool) (full : Nat) : ∀ j, (bestUpto ok full j).length ≤ 62
  | 0 => bitsL_len _
  | j + 1 => by
    rw [bestUpto_succ, bestAt]
    split
    · exact bitsL_len _
    · exact bestUpto_len ok full j
def leavesN (h : House) (all : List Nat) (n : Nat) : Bool := canN all (andN (fullN h) n)
def leaveR (h : House) (all : List Nat) : List Int := bestOf (leavesN h all) (fullN h)
end Go.Lift

set_option linter.unusedSimpArgs false
set_option linter.unusedVariables false
namespace Go.Lift
open Go Go.Proofs
theorem enumG_nodup {f : Nat → List Int} (hf : ∀ i, (f i).Nodup) : ∀ (k : Nat) (pre : List Int), (enumG f k pre).Nodup
  | 0, pre => by simp [enumG]
  | k + 1, pre => by
    rw [enumG, List.Nodup, List.pairwise_flatMap]
    refine ⟨fun w _ => enumG_nodup hf k _, ?_⟩
    refine List.Pairwise.imp ?_ (hf pre.length)
    intro a b hab x hx y hy hxy
    subst hxy
    obtain ⟨s1, h1, _⟩ := (mem_enumG f k _ _).1 hx
    obtain ⟨s2, h2, _⟩ := (mem_enumG f k _ _).1 hy
    rw [h1] at h2
    simp at h2
    exact hab h2.1
theorem nodup_filter {α : Type} {l : List α} (p : α → Bool) (h : l.Nodup) : (l.filter p).Nodup := List.Pairwise.filter p h
theorem nodup_ofNat {l : List Nat} (h : l.Nodup) : (l.map Int.ofNat).Nodup := by
  refine List.Pairwise.map Int.ofNat (fun a b hab => ?_) h
  intro hh
  exact hab (Int.ofNat.inj hh)
theorem womenUpto_nodup (ws : List Woman) (marks : List Int) (n : Nat) : (womenUpto ws marks n).Nodup := nodup_ofNat (nodup_filter _ List.nodup_range)
theorem whoIs_nodup (t : Table) (i m : Nat) : (whoIs t i m).Nodup := nodup_ofNat (nodup_filter _ List.nodup_range)
def ownersA (t : Table) : List (List Int) := (enumW (whoseT t) t.pieces.length []).filter (isTruthT t)
theorem ownersA_mem {t : Table} (hc : checkTable t = 0) (o : List Int) : o ∈ ownersA t ↔ isTruthT t o = true := by
  rw [ownersA, List.mem_filter]
  exact ⟨fun h => h.2, fun h => ⟨truth_whose hc h, h⟩⟩
theorem truthsR_mem {t : Table} (hc : checkTable t = 0) (o : List Int) : o ∈ truthsR t ↔ isTruthT t o = true := by
  rw [truthsR_eq hc, List.mem_filter, isTruthT_iff hc, isTruthR, Bool.and_eq_true, decide_eq_true_eq, mem_allO]
  constructor
  · rintro ⟨h1, h2, h3⟩; exact ⟨h1, h3⟩
  · rintro ⟨h1, h2⟩; exact ⟨h1, h1, h2⟩
theorem getD_nodup {L : List (List Int)} (h : ∀ l ∈ L, l.Nodup) (i : Nat) : (L.getD i []).Nodup := by
  rw [List.getD_eq_getElem?_getD]
  cases hi : L[i]? with
  | none => simp
  | some l => exact h l (List.mem_of_getElem? hi)
theorem owners_perm {t : Table} (hc : checkTable t = 0) : (truthsR t).Perm (ownersA t) := by
  refine (List.perm_ext_iff_of_nodup ?_ ?_).2 fun o => ?_
  · rw [truthsR_eq hc, allO, enumO_eq]
    exact nodup_filter _ (enumG_nodup (fun i => womenUpto_nodup _ _ _) _ _)
  · rw [ownersA, enumW_eq]
    refine nodup_filter _ (enumG_nodup (fun i => getD_nodup (fun l hl => ?_) i) _ _)
    simp only [whoseT, List.mem_map] at hl
    obtain ⟨j, _, rfl⟩ := hl
    exact whoIs_nodup _ _ _
  · rw [truthsR_mem hc, ownersA_mem hc]
theorem flat_cons {α β : Type} (f : β → α) (g : β → List α) : ∀ l : List β, (l.flatMap fun y => f y :: g y).Perm (l.map f ++ l.flatMap g)
  | [] => List.Perm.refl _
  | y :: l => by
    simp only [List.flatMap_cons, List.map_cons, List.cons_append]
    refine List.Perm.cons _ ?_
    have h1 := (flat_cons f g l).append_left (g y)
    refine h1.trans ?_
    rw [← List.append_assoc, ← List.append_assoc]
    exact List.perm_append_comm.append_right _
theorem flat_swap {α β γ : Type} (f : α → β → γ) (l2 : List β) : ∀ l1 : List α, (l1.flatMap fun x => l2.map fun y => f x y).Perm (l2.flatMap fun y => l1.map fun x => f x y)
  | [] => by simp
  | x :: l1 => by
    rw [List.flatMap_cons]
    have h := flat_swap f l2 l1
    refine (h.append_left _).trans ?_
    exact (flat_cons (fun y => f x y) (fun y => l1.map fun x => f x y) l2).symm
theorem flat_congr {α β : Type} {f g : α → List β} : ∀ {l : List α}, (∀ a ∈ l, (f a).Perm (g a)) → (l.flatMap f).Perm (l.flatMap g)
  | [], _ => List.Perm.refl _
  | a :: l, h => by
    rw [List.flatMap_cons, List.flatMap_cons]
    exact (h a List.mem_cons_self).append (flat_congr fun b hb => h b (List.mem_cons_of_mem _ hb))
def enS (f : Nat → List Int) : Nat → Nat → List (List Int)
  | 0, _ => [[]]
  | k + 1, j => (f j).flatMap fun w => (enS f k (j + 1)).map fun s => w :: s
theorem enumG_enS (f : Nat → List Int) : ∀ (k : Nat) (pre : List Int), enumG f k pre = (enS f k pre.length).map fun s => pre ++ s
  | 0, pre => by simp [enumG, enS]
  | k + 1, pre => by
    rw [enumG, enS, List.map_flatMap]
    congr 1
    funext w
    rw [enumG_enS f k, List.map_map, List.length_append, List.length_singleton]
    congr 1
    funext s
    simp
theorem hrs_perm (h : House) : ∀ (k j : Nat), (∀ i, j ≤ i → i < j + k → 1 ≤ hourN h i) → ((List.range (prodL (hourN h) j k)).map (hrsGo h k j)).Perm (enS (hoursAt h) k j)
  | 0, j, _ => by simp [prodL, enS, hrsGo]
  | k + 1, j, hp => by
    have ih := hrs_perm h k (j + 1) (fun i h1 h2 => hp i (by omega) (by omega))
    have hk := hp j (by omega) (by omega)
    rw [prodL, Nat.mul_comm, range_mul, List.map_flatMap, enS]
    have e1 : (fun q => ((List.range (hourN h j)).map fun r => q * hourN h j + r).map (hrsGo h (k + 1) j)) = fun q => (List.range (hourN h j)).map fun r : Nat => ((h.touches.getD j default).lo + (r : Int)) :: hrsGo h k (j + 1) q := by
      funext q
      rw [List.map_map]
      apply List.ext_getElem
      · simp
      · intro i h1 h2
        simp only [List.length_map, List.length_range] at h1 h2
        simp only [List.getElem_map, List.getElem_range, Function.comp, hrsGo]
        have e1 : (q * hourN h j + i) / hourN h j = q := by
          rw [Nat.mul_comm, Nat.mul_add_div hk, Nat.div_eq_of_lt h2, Nat.add_zero]
        have e2 : (q * hourN h j + i) % hourN h j = i := by
          rw [Nat.mul_comm, Nat.mul_add_mod, Nat.mod_eq_of_lt h2]
        rw [e1, e2]
    rw [e1]
    refine (flat_swap (fun (q r : Nat) => ((h.touches.getD j default).lo + (r : Int)) :: hrsGo h k (j + 1) q) (List.range (hourN h j)) (List.range (prodL (hourN h) (j + 1) k))).trans ?_
    rw [hoursAt, List.flatMap_map]
    refine flat_congr fun r _ => ?_
    have := ih.map fun s => ((h.touches.getD j default).lo + (r : Int)) :: s
    rw [List.map_map] at this
    exact this
theorem hours_perm (h : House) (hp : ∀ i, i < h.touches.length → 1 ≤ hourN h i) : ((List.range (prodL (hourN h) 0 h.touches.length)).map (hrsOf h)).Perm (enumH h h.touches.length []) := by
  have := hrs_perm h h.touches.length 0 (fun i _ h2 => hp i (by omega))
  rw [enumH_eq, enumG_enS]
  simp only [List.nil_append, List.length_nil, List.map_id']
  exact this
end Go.Lift

set_option linter.unusedSimpArgs false
set_option linter.unusedVariables false
namespace Go.Lift
open Go Go.Proofs
theorem prodL_pos {f : Nat → Nat} : ∀ (k a : Nat), (∀ i, a ≤ i → i < a + k → 1 ≤ f i) → 1 ≤ prodL f a k
  | 0, _, _ => Nat.le_refl _
  | k + 1, a, h => by
    rw [prodL]
    exact Nat.mul_pos (h a (by omega) (by omega)) (prodL_pos k (a + 1) fun i h1 h2 => h i (by omega) (by omega))
theorem timesR_eq {h : House} (hv : HV h) : timesR h h.touches.length = prodL (hourN h) 0 h.touches.length := by
  have h1 := manyH_eq hv
  have h2 := hv.many
  have h3 := prodL_pos (f := womN h.table) h.table.pieces.length 0 fun i _ hi => womN_pos hv.tab i (by omega)
  have h4 : prodL (womN h.table) 0 h.table.pieces.length * prodL (hourN h) 0 h.touches.length ≤ 2000 := by omega
  have h5 : prodL (hourN h) 0 h.touches.length ≤ prodL (womN h.table) 0 h.table.pieces.length * prodL (hourN h) 0 h.touches.length := Nat.le_mul_of_pos_left _ h3
  rw [timesR]; omega
theorem flat_filter {α β : Type} (p : α → Bool) (f : α → List β) : ∀ l : List α, l.flatMap (fun a => if p a = true then f a else []) = (l.filter p).flatMap f
  | [] => rfl
  | a :: l => by
    rw [List.flatMap_cons, List.filter_cons, flat_filter p f l]
    cases p a <;> simp
theorem courses_perm {h : House} (hv : HV h) : (coursesR h).Perm (allC h) := by
  have e1 : allC h = (ownersA h.table).flatMap fun o => (enumH h h.touches.length []).map fun hs => (⟨o, hs⟩ : Course) := by
    rw [allC, ownersA, ← flat_filter]; rfl
  rw [e1, coursesR]
  refine ((owners_perm hv.tab).flatMap_right _).trans (flat_congr fun o _ => ?_)
  rw [rowR, timesR_eq hv]
  have := (hours_perm h (hourN_pos hv)).map fun hs => (⟨o, hs⟩ : Course)
  rw [List.map_map] at this
  exact this
theorem perm_any {α : Type} {a b : List α} (h : a.Perm b) (p : α → Bool) : a.any p = b.any p := by
  rw [Bool.eq_iff_iff, List.any_eq_true, List.any_eq_true]
  exact ⟨fun ⟨x, hx, hp⟩ => ⟨x, h.mem_iff.1 hx, hp⟩, fun ⟨x, hx, hp⟩ => ⟨x, h.mem_iff.2 hx, hp⟩⟩
end Go.Lift

set_option linter.unusedSimpArgs false
set_option linter.unusedVariables false
namespace Go.Lift
open Go Go.Proofs
theorem thin_sm {h : House} (c1 : thinH h = true) : HSm h := by
  rw [thinH, Bool.and_eq_true] at c1; exact short_sm c1.1
end Go.Lift

set_option linter.unusedSimpArgs false
set_option linter.unusedVariables false
namespace Go.Lift
open Go Go.Proofs
theorem before_irr : ∀ a : List Int, beforeL a a = false
  | [] => rfl
  | a :: xs => by rw [beforeL, if_pos rfl, before_irr xs]
theorem before_trans : ∀ a b c : List Int, beforeL a b = true → beforeL b c = true → beforeL a c = true
  | [], b, [], _, h2 => by
    cases b with
    | nil => exact h2
    | cons b bs => simp [beforeL] at h2
  | [], _, c :: cs, _, _ => by simp [beforeL]
  | a :: xs, [], _, h1, _ => by simp [beforeL] at h1
  | a :: xs, b :: bs, [], _, h2 => by simp [beforeL] at h2
  | a :: xs, b :: bs, c :: cs, h1, h2 => by
    simp only [beforeL] at h1 h2 ⊢
    by_cases e1 : a = b
    · subst e1
      rw [if_pos rfl] at h1
      by_cases e2 : a = c
      · rw [if_pos e2] at h2 ⊢; exact before_trans xs bs cs h1 h2
      · rw [if_neg e2] at h2 ⊢; exact h2
    · rw [if_neg e1, decide_eq_true_eq] at h1
      by_cases e2 : b = c
      · subst e2; rw [if_neg e1]; exact decide_eq_true h1
      · rw [if_neg e2, decide_eq_true_eq] at h2
        rw [if_neg (by omega)]; exact decide_eq_true (by omega)
theorem before_total : ∀ a b : List Int, beforeL a b = true ∨ beforeL b a = true ∨ a = b
  | [], [] => .inr (.inr rfl)
  | [], _ :: _ => .inl (by simp [beforeL])
  | _ :: _, [] => .inr (.inl (by simp [beforeL]))
  | a :: xs, b :: bs => by
    simp only [beforeL]
    by_cases e : a = b
    · subst e
      simp only [if_true]
      rcases before_total xs bs with h | h | h
      · exact .inl h
      · exact .inr (.inl h)
      · exact .inr (.inr (by rw [h]))
    · rw [if_neg e, if_neg (fun h => e h.symm)]
      rcases Int.lt_or_gt_of_ne e with h | h
      · exact .inl (decide_eq_true h)
      · exact .inr (.inl (decide_eq_true h))
theorem before_pre : ∀ (p a b : List Int), beforeL (p ++ a) (p ++ b) = beforeL a b
  | [], _, _ => rfl
  | x :: p, a, b => by rw [List.cons_append, List.cons_append, beforeL, if_pos rfl, before_pre p]
theorem shorter_iff (a b : List Int) : shorterL a b = true ↔ a.length < b.length ∨ (a.length = b.length ∧ beforeL a b = true) := by
  simp [shorterL]
theorem shorter_irr (a : List Int) : shorterL a a = false := by
  rw [Bool.eq_false_iff, Ne, shorter_iff, before_irr]
  rintro (h | h)
  · omega
  · cases h.2
theorem shorter_trans {a b c : List Int} (h1 : shorterL a b = true) (h2 : shorterL b c = true) : shorterL a c = true := by
  rw [shorter_iff] at *
  rcases h1 with h1 | h1 <;> rcases h2 with h2 | h2
  · exact .inl (by omega)
  · exact .inl (by omega)
  · exact .inl (by omega)
  · exact .inr ⟨by omega, before_trans _ _ _ h1.2 h2.2⟩
theorem shorter_asym {a b : List Int} (h : shorterL a b = true) : shorterL b a = false := by
  rw [Bool.eq_false_iff]
  intro h2
  have := shorter_trans h h2
  rw [shorter_irr] at this; cases this
theorem shorter_total {a b : List Int} (h1 : shorterL a b = false) (h2 : shorterL b a = false) : a = b := by
  rw [Bool.eq_false_iff, Ne, shorter_iff] at h1 h2
  have hl : a.length = b.length := by omega
  rcases before_total a b with h | h | h
  · exact absurd (.inr ⟨hl, h⟩) h1
  · exact absurd (.inr ⟨hl.symm, h⟩) h2
  · exact h
/-- The least one that will do, of some lists. -/
structure IsMin (ok : List Int → Bool) (D : List Int → Prop) (x : List Int) : Prop where
  dom : D x
  good : ok x = true
  least : ∀ y, D y → ok y = true → shorterL y x = false
theorem IsMin.uniq {ok : List Int → Bool} {D : List Int → Prop} {x y : List Int} (h : IsMin ok D x) (k : IsMin ok D y) : x = y :=
  shorter_total (k.least x h.dom h.good) (h.least y k.dom k.good)
theorem IsMin.congr {ok ok' : List Int → Bool} {D D' : List Int → Prop} {x : List Int} (h : IsMin ok D x) (hd : ∀ y, D y ↔ D' y) (hok : ∀ y, D y → ok y = ok' y) : IsMin ok' D' x :=
  ⟨(hd x).1 h.dom, by rw [← hok x h.dom]; exact h.good, fun y hy ho => h.least y ((hd y).2 hy) (by rw [hok y ((hd y).2 hy)]; exact ho)⟩
theorem find_min {ok : List Int → Bool} {l : List (List Int)} (hs : l.Pairwise fun a b => shorterL a b = true) {x : List Int} (h : l.find? ok = some x) : IsMin ok (· ∈ l) x := by
  obtain ⟨h1, l1, bs, rfl, h2⟩ := List.find?_eq_some_iff_append.1 h
  refine ⟨by simp, h1, fun y hy ho => ?_⟩
  rw [List.pairwise_append] at hs
  rcases List.mem_append.1 hy with hy | hy
  · have := h2 y hy; rw [ho] at this; cases this
  · rcases List.mem_cons.1 hy with rfl | hy
    · exact shorter_irr _
    · exact shorter_asym ((List.pairwise_cons.1 hs.2.1).1 y hy)
theorem tryAll_find {ok : List Int → Bool} : ∀ {l : List (List Int)} {x : List Int} (old : List Int), l.find? ok = some x → tryAll ok old l = x
  | [], x, _, h => by cases h
  | y :: l, x, old, h => by
    rw [tryAll]
    rw [List.find?_cons] at h
    cases hy : ok y
    · rw [hy] at h; simp only [Bool.false_eq_true, if_false]; exact tryAll_find y h
    · rw [hy] at h; cases h; rfl
theorem any_find {α : Type} {ok : α → Bool} {l : List α} (h : l.any ok = true) : ∃ x, l.find? ok = some x := by
  cases hf : l.find? ok with
  | some x => exact ⟨x, rfl⟩
  | none =>
    rw [List.any_eq_true] at h
    obtain ⟨x, hx, ho⟩ := h
    exact absurd ho (List.find?_eq_none.1 hf x hx)
def Inc (n : Nat) (x : List Int) : Prop := x.Pairwise (· < ·) ∧ ∀ a ∈ x, ∃ i : Nat, a = (i : Int) ∧ i < n
def IncF (n : Nat) : Nat → List Int → Prop
  | _, [] => True
  | f, a :: l => ∃ i : Nat, a = (i : Int) ∧ f ≤ i ∧ i < n ∧ IncF n (i + 1) l
theorem IncF.room {n : Nat} : ∀ {l : List Int} {f : Nat}, IncF n f l → l ≠ [] → f + l.length ≤ n
  | [], _, _, h => absurd rfl h
  | a :: l, f, h, _ => by
    obtain ⟨i, rfl, h1, h2, h3⟩ := h
    cases l with
    | nil => simp; omega
    | cons b l => have := h3.room (by simp); simp only [List.length_cons] at this ⊢; omega
theorem incF_iff {n : Nat} : ∀ {l : List Int} {f : Nat}, IncF n f l ↔ l.Pairwise (· < ·) ∧ ∀ a ∈ l, ∃ i : Nat, a = (i : Int) ∧ f ≤ i ∧ i < n
  | [], f => by simp [IncF]
  | a :: l, f => by
    rw [List.pairwise_cons]
    constructor
    · rintro ⟨i, rfl, h1, h2, h3⟩
      obtain ⟨k1, k2⟩ := (incF_iff (l := l) (f := i + 1)).1 h3
      refine ⟨⟨fun b hb => ?_, k1⟩, fun b hb => ?_⟩
      · obtain ⟨j, rfl, h4, h5⟩ := k2 b hb; omega
      · rcases List.mem_cons.1 hb with rfl | hb
        · exact ⟨i, rfl, h1, h2⟩
        · obtain ⟨j, rfl, h4, h5⟩ := k2 b hb; exact ⟨j, rfl, by omega, h5⟩
    · rintro ⟨⟨h1, h2⟩, h3⟩
      obtain ⟨i, rfl, h4, h5⟩ := h3 a List.mem_cons_self
      refine ⟨i, rfl, h4, h5, incF_iff.2 ⟨h2, fun b hb => ?_⟩⟩
      obtain ⟨j, rfl, h6, h7⟩ := h3 b (List.mem_cons_of_mem _ hb)
      have := h1 _ hb
      exact ⟨j, rfl, by omega, h7⟩
theorem inc_incF {n : Nat} {l : List Int} : Inc n l ↔ IncF n 0 l := by
  rw [incF_iff, Inc]; simp
theorem mem_combos (n : Nat) : ∀ (k f : Nat) (pre x : List Int), x ∈ combos n k pre f ↔ ∃ s, x = pre ++ s ∧ s.length = k ∧ IncF n f s
  | 0, f, pre, x => by
    simp only [combos, List.mem_singleton]
    constructor
    · rintro rfl; exact ⟨[], by simp, rfl, trivial⟩
    · rintro ⟨s, rfl, h, _⟩; rw [List.length_eq_zero_iff.1 h]; simp
  | k + 1, f, pre, x => by
    simp only [combos, List.mem_flatMap, List.mem_range]
    constructor
    · rintro ⟨j, hj, hx⟩
      obtain ⟨s, rfl, h1, h2⟩ := (mem_combos n k _ _ _).1 hx
      exact ⟨((f + j : Nat) : Int) :: s, by simp, by simp [h1], f + j, rfl, by omega, by omega, h2⟩
    · rintro ⟨s, rfl, h1, h2⟩
      cases s with
      | nil => simp at h1
      | cons a s =>
        obtain ⟨i, rfl, h3, h4, h5⟩ := h2
        simp only [List.length_cons] at h1
        have hroom : i + k < n := by
          rcases Nat.eq_zero_or_pos s.length with h | h
          · omega
          · have := h5.room (List.length_pos_iff.1 h); omega
        refine ⟨i - f, by omega, (mem_combos n k _ _ _).2 ⟨s, ?_, by omega, ?_⟩⟩
        · rw [show f + (i - f) = i by omega]; simp
        · rw [show f + (i - f) = i by omega]; exact h5
theorem combos_sorted (n : Nat) : ∀ (k f : Nat) (pre : List Int), (combos n k pre f).Pairwise fun a b => beforeL a b = true
  | 0, _, _ => by simp [combos]
  | k + 1, f, pre => by
    rw [combos, List.pairwise_flatMap]
    refine ⟨fun j _ => combos_sorted n k _ _, ?_⟩
    refine List.Pairwise.imp ?_ List.pairwise_lt_range
    intro a b hab x hx y hy
    obtain ⟨s1, rfl, _⟩ := (mem_combos n k _ _ _).1 hx
    obtain ⟨s2, rfl, _⟩ := (mem_combos n k _ _ _).1 hy
    rw [List.append_assoc, List.append_assoc, before_pre]
    simp only [List.singleton_append, beforeL]
    rw [if_neg (by omega)]; exact decide_eq_true (by omega)
def combosAll (n : Nat) : List (List Int) := (List.range (n + 1)).flatMap fun k => combos n k [] 0
theorem by_length {f : Nat → List (List Int)} {m : Nat} (h1 : ∀ k, (f k).Pairwise fun a b => beforeL a b = true) (h2 : ∀ k, ∀ x ∈ f k, x.length = k) : ((List.range m).flatMap f).Pairwise fun a b => shorterL a b = true := by
  rw [List.pairwise_flatMap]
  refine ⟨fun k _ => ?_, ?_⟩
  · refine List.Pairwise.imp_of_mem ?_ (h1 k)
    intro a b ha hb hab
    rw [shorter_iff]
    exact .inr ⟨by rw [h2 k a ha, h2 k b hb], hab⟩
  · refine List.Pairwise.imp ?_ List.pairwise_lt_range
    intro a b hab x hx y hy
    rw [shorter_iff]
    exact .inl (by rw [h2 a x hx, h2 b y hy]; exact hab)
theorem combosAll_sorted (n : Nat) : (combosAll n).Pairwise fun a b => shorterL a b = true :=
  by_length (fun k => combos_sorted n k 0 []) fun k x hx => by
    obtain ⟨s, rfl, h, _⟩ := (mem_combos n k 0 [] x).1 hx
    simpa using h
theorem mem_combosAll {n : Nat} {x : List Int} : x ∈ combosAll n ↔ Inc n x := by
  simp only [combosAll, List.mem_flatMap, List.mem_range, mem_combos, inc_incF, List.nil_append]
  constructor
  · rintro ⟨k, _, s, rfl, _, h⟩; exact h
  · intro h
    refine ⟨x.length, ?_, x, rfl, rfl, h⟩
    rcases Nat.eq_zero_or_pos x.length with h0 | h0
    · omega
    · have := h.room (List.length_pos_iff.1 h0); omega
theorem tryAll_min {ok : List Int → Bool} {n : Nat} {x : List Int} (hx : Inc n x) (ho : ok x = true) : IsMin ok (Inc n) (tryAll ok [] (combosAll n)) := by
  obtain ⟨y, hy⟩ := any_find (ok := ok) (l := combosAll n) (List.any_eq_true.2 ⟨x, mem_combosAll.2 hx, ho⟩)
  rw [tryAll_find [] hy]
  exact (find_min (combosAll_sorted n) hy).congr (fun y => mem_combosAll) (fun _ _ => rfl)
theorem bitsUpto_sorted (m p : Nat) : (bitsUpto m p).Pairwise (· < ·) := by
  rw [bitsUpto]
  refine List.Pairwise.map Int.ofNat (fun a b hab => ?_) (List.Pairwise.filter _ List.pairwise_lt_range)
  exact Int.ofNat_lt.2 hab
theorem bits_inc {n m : Nat} (hn : n ≤ 62) (hm : m < 2 ^ n) : Inc n (bitsL m) := by
  rw [bitsL_of hn hm]
  refine ⟨bitsUpto_sorted m n, fun a ha => ?_⟩
  simp only [bitsUpto, List.mem_map, List.mem_filter, List.mem_range] at ha
  obtain ⟨i, h, rfl⟩ := ha
  exact ⟨i, rfl, h.1⟩
theorem nodup_lt {l : List Int} (h : l.Pairwise (· < ·)) : l.Nodup := List.Pairwise.imp (fun {a b} hab => by omega) h
theorem inc_eq {l k : List Int} (h1 : l.Pairwise (· < ·)) (h2 : k.Pairwise (· < ·)) (h : ∀ a, a ∈ l ↔ a ∈ k) : l = k :=
  List.Perm.eq_of_pairwise (le := (· < ·)) (fun a b _ _ hab hba => by omega) h1 h2 ((List.perm_ext_iff_of_nodup (nodup_lt h1) (nodup_lt h2)).2 h)
theorem inc_bits {n : Nat} (hn : n ≤ 62) {x : List Int} (h : Inc n x) : ∃ m, m < 2 ^ n ∧ x = bitsL m := by
  have hl : ((List.range n).map fun i : Nat => decide ((i : Int) ∈ x)).length = n := by simp
  refine ⟨natOf ((List.range n).map fun i : Nat => decide ((i : Int) ∈ x)), by have := natOf_lt ((List.range n).map fun i : Nat => decide ((i : Int) ∈ x)); rw [hl] at this; exact this, ?_⟩
  rw [bitsL_natOf (by omega), hl]
  refine inc_eq h.1 ?_ fun a => ?_
  · rw [truesUpto]
    refine List.Pairwise.map Int.ofNat (fun a b hab => ?_) (List.Pairwise.filter _ List.pairwise_lt_range)
    exact Int.ofNat_lt.2 hab
  · simp only [truesUpto, List.mem_map, List.mem_filter, List.mem_range]
    constructor
    · intro ha
      obtain ⟨i, rfl, hi⟩ := h.2 a ha
      exact ⟨i, ⟨hi, by simp [hi, ha]⟩, rfl⟩
    · rintro ⟨i, ⟨hi, hb⟩, rfl⟩
      simpa [hi] using hb
theorem bestUpto_min (p : List Int → Bool) (full : Nat) (h0 : p (bitsL full) = true) : ∀ j, j ≤ full + 1 → (∃ m, m ≤ full ∧ bestUpto (fun m => p (bitsL m)) full j = bitsL m) ∧ p (bestUpto (fun m => p (bitsL m)) full j) = true ∧ ∀ m, m < j → p (bitsL m) = true → shorterL (bitsL m) (bestUpto (fun m => p (bitsL m)) full j) = false
  | 0, _ => ⟨⟨full, Nat.le_refl _, rfl⟩, h0, fun m hm => by omega⟩
  | j + 1, hj => by
    obtain ⟨h1, h2, h3⟩ := bestUpto_min p full h0 j (by omega)
    rw [bestUpto_succ, bestAt]
    split
    · rename_i hc
      refine ⟨⟨j, by omega, rfl⟩, hc.2, fun m hm hp => ?_⟩
      rcases Nat.lt_or_ge m j with h | h
      · rw [Bool.eq_false_iff]
        intro hs
        have := shorter_trans hs hc.1
        rw [h3 m h hp] at this; cases this
      · rw [show m = j by omega]; exact shorter_irr _
    · rename_i hc
      refine ⟨h1, h2, fun m hm hp => ?_⟩
      rcases Nat.lt_or_ge m j with h | h
      · exact h3 m h hp
      · have hmj : m = j := by omega
        subst hmj
        rw [Bool.eq_false_iff]
        exact fun hs => hc ⟨hs, hp⟩
theorem bestOf_min {p : List Int → Bool} {n : Nat} (hn : n ≤ 62) (h0 : p (bitsL (2 ^ n - 1)) = true) : IsMin p (Inc n) (bestOf (fun m => p (bitsL m)) (2 ^ n - 1)) := by
  have hp : 1 ≤ 2 ^ n := Nat.one_le_two_pow
  obtain ⟨⟨m, h1, h2⟩, h3, h4⟩ := bestUpto_min p (2 ^ n - 1) h0 (2 ^ n - 1 + 1) (Nat.le_refl _)
  refine ⟨?_, h3, fun y hy ho => ?_⟩
  · rw [bestOf, h2]; exact bits_inc hn (by omega)
  · obtain ⟨m', hm, rfl⟩ := inc_bits hn hy
    exact h4 m' (by omega) ho
theorem best_eq {p : List Int → Bool} {n : Nat} (hn : n ≤ 62) (h0 : p (bitsL (2 ^ n - 1)) = true) : tryAll p [] (combosAll n) = bestOf (fun m => p (bitsL m)) (2 ^ n - 1) :=
  (tryAll_min (bits_inc hn (by have : 1 ≤ 2 ^ n := Nat.one_le_two_pow; omega)) h0).uniq (bestOf_min hn h0)
end Go.Lift

set_option linter.unusedSimpArgs false
set_option linter.unusedVariables false
namespace Go.Lift
open Go Go.Proofs
/-- The house with other signs. -/
def reS (h : House) (ss : List Sign) : House := { h with signs := ss }
def sgn (bs : List Bool) (s : Sign) : Bool := bs.getD s.thing.toNat false == s.carries
theorem enumH_reS (h : House) (ss : List Sign) : ∀ (k : Nat) (pre : List Int), enumH (reS h ss) k pre = enumH h k pre
  | 0, _ => rfl
  | k + 1, pre => by
    simp only [enumH]
    congr 1
    funext n
    exact enumH_reS h ss k _
theorem allC_reS (h : House) (ss : List Sign) : allC (reS h ss) = allC h := by
  unfold allC
  congr 1
  funext o
  unfold coursesOf
  rw [enumH_reS]; rfl
theorem check_zero (h : House) : checkHouse h = 0 ↔ ¬ bigH h ∧ askErr h.table = 0 ∧ ¬ badH h ∧ allH h ∧ ¬ 2000 < manyH h := by
  unfold checkHouse
  by_cases h1 : bigH h
  · simp [h1]
  by_cases h2 : askErr h.table = 0
  rotate_left
  · simp [h1, h2]
  by_cases h3 : badH h
  · simp [h1, h2, h3]
  by_cases h4 : allH h
  rotate_left
  · simp [h1, h2, h3, h4]
  by_cases h5 : 2000 < manyH h
  · simp [h1, h2, h3, h4, h5]
  · simp [h1, h2, h3, h4, h5]
theorem range_all {α : Type} (d : α) (l : List α) (p : α → Bool) : ((List.range l.length).all fun i => p (l.getD i d)) = l.all p := by
  rw [Bool.eq_iff_iff, List.all_eq_true, List.all_eq_true]
  constructor
  · intro h x hx
    obtain ⟨i, hi, rfl⟩ := List.getElem_of_mem hx
    have := h i (List.mem_range.2 hi)
    simpa [List.getD_eq_getElem?_getD, hi] using this
  · intro h i hi
    have hi' := List.mem_range.1 hi
    have : l.getD i d = l[i] := by simp [List.getD_eq_getElem?_getD, hi']
    rw [this]; exact h _ (List.getElem_mem _)
theorem isTrue_nil (h : House) (c : Course) : isTrue h [] c = h.signs.all (sgn (lastOf h c [])) := by
  rw [← range_all default, isTrue, rightOK]
  congr 1
  funext i
  unfold signRight sgn
  generalize (lastOf h c []).getD _ false = a
  generalize Sign.carries _ = b
  cases a <;> cases b <;> simp
theorem isTrue_out (h : House) (out : List Int) (c : Course) : isTrue h out c = true ↔ ∀ i, i < h.signs.length → (i : Int) ∉ out → sgn (lastOf h c []) (h.signs.getD i default) = true := by
  rw [isTrue, rightOK, List.all_eq_true]
  constructor
  · intro hall i hi hn
    have := hall i (List.mem_range.2 hi)
    simpa [signRight, hn, sgn] using this
  · intro hall i hi
    by_cases hm : (i : Int) ∈ out
    · simp [signRight, hm]
    · have := hall i (List.mem_range.1 hi) hm
      simpa [signRight, hm, sgn] using this
theorem possible_iff (h : House) (out : List Int) : possibleP h out = true ↔ ∃ c ∈ allC h, isTrue h out c = true := by
  rw [possibleP, List.any_eq_true]
theorem possible_tru (h : House) : possibleP h [] = true ↔ truH h [] ≠ [] := by
  rw [possible_iff, truH, Ne, List.filter_eq_nil_iff]
  constructor
  · rintro ⟨c, hc, ht⟩ hall; exact hall c hc ht
  · intro hn; exact Classical.byContradiction fun hno => hn fun c hc ht => hno ⟨c, hc, ht⟩
theorem allC_ne {h : House} (hv : HV h) : ∃ c, c ∈ allC h := by
  have h1 : truthsT h.table ≠ [] := by
    intro h0
    have := hv.ask
    rw [askErr, if_pos hv.tab, if_pos h0] at this; cases this
  have h2 : truthsR h.table ≠ [] := fun h0 => h1 ((truths_nil hv.tab).1 h0)
  obtain ⟨o, l, ho⟩ := List.exists_cons_of_ne_nil h2
  have h3 : isTruthT h.table o = true := (truthsR_mem hv.tab o).1 (by rw [ho]; simp)
  refine ⟨⟨o, h.touches.map (·.lo)⟩, (mem_allC hv.tab _).2 ?_⟩
  rw [courseOK, h3, hoursOK]
  simp only [Bool.true_and, List.length_map, decide_true, List.all_eq_true, List.mem_range, decide_eq_true_eq]
  intro i hi
  have := hv.tim _ (List.getElem_mem hi)
  simp [List.getD_eq_getElem?_getD, hi]; omega
theorem mem_bitsL (m i : Nat) : (i : Int) ∈ bitsL m ↔ i < 62 ∧ m.testBit i = true := by
  simp only [bitsL, bitsUpto, List.mem_map, List.mem_filter, List.mem_range]
  constructor
  · rintro ⟨j, hj, e⟩
    have : j = i := by
      have : ((j : Nat) : Int) = (i : Int) := e
      omega
    subst this; exact hj
  · intro hi; exact ⟨i, hi, rfl⟩
theorem and_eq_iff (a w : Nat) : a &&& w = w ↔ ∀ i, w.testBit i = true → a.testBit i = true := by
  constructor
  · intro he i hi
    have : (a &&& w).testBit i = w.testBit i := by rw [he]
    rw [Nat.testBit_and, hi] at this; simpa using this
  · intro hall
    apply Nat.eq_of_testBit_eq
    intro i
    rw [Nat.testBit_and]
    cases hw : w.testBit i
    · simp
    · simp [hall i hw]
theorem signsL_bit (h : House) (c : Course) (i : Nat) : (natOf (signsL h c)).testBit i = (decide (i < h.signs.length) && sgn (lastOf h c []) (h.signs.getD i default)) := by
  rw [natOf_bit]
  by_cases hi : i < h.signs.length
  · have : (signsL h c).getD i false = signAt h (lastOf h c []) i := by simp [signsL, hi]
    rw [this, decide_eq_true hi, Bool.true_and]; rfl
  · have hl : (signsL h c).length = h.signs.length := by simp [signsL]
    rw [List.getD_eq_getElem?_getD, List.getElem?_eq_none (by omega), decide_eq_false hi]; rfl
theorem full_bit (h : House) (m i : Nat) : (andN (fullN h) m).testBit i = (decide (i < h.signs.length) && !m.testBit i) := by
  rw [andN_bit, fullN, Nat.testBit_two_pow_sub_one]
theorem isTrue_bits {h : House} (h5 : h.signs.length ≤ 5) (m : Nat) (c : Course) : isTrue h (bitsL m) c = decide (natOf (signsL h c) &&& andN (fullN h) m = andN (fullN h) m) := by
  rw [Bool.eq_iff_iff, decide_eq_true_eq, isTrue_out, and_eq_iff]
  constructor
  · intro hall i hi
    rw [full_bit, Bool.and_eq_true, decide_eq_true_eq, Bool.not_eq_true'] at hi
    rw [signsL_bit, decide_eq_true hi.1, Bool.true_and]
    refine hall i hi.1 fun hm => ?_
    have := ((mem_bitsL m i).1 hm).2
    rw [hi.2] at this; cases this
  · intro hall i hi hn
    have := hall i (by
      rw [full_bit, decide_eq_true hi, Bool.true_and, Bool.not_eq_true']
      rw [Bool.eq_false_iff]
      exact fun hb => hn ((mem_bitsL m i).2 ⟨by omega, hb⟩))
    rw [signsL_bit, Bool.and_eq_true] at this
    exact this.2
theorem any_allR {h : House} (hv : HV h) (p : Nat → Bool) : (allR h).any p = (allC h).any fun c => p (natOf (signsL h c)) := by
  rw [allR, List.any_map, perm_any (courses_perm hv)]; rfl
theorem possible_bits {h : House} (hv : HV h) (m : Nat) : possibleP h (bitsL m) = leavesN h (allR h) m := by
  rw [leavesN, canN, any_allR hv, possibleP]
  congr 1
  funext c
  exact isTrue_bits hv.ok.signs m c
theorem possible_full {h : House} (hv : HV h) : possibleP h (bitsL (2 ^ h.signs.length - 1)) = true := by
  obtain ⟨c, hc⟩ := allC_ne hv
  rw [possible_iff]
  refine ⟨c, hc, (isTrue_out _ _ _).2 fun i hi hn => absurd ((mem_bitsL _ _).2 ⟨?_, ?_⟩) hn⟩
  · have := hv.ok.signs; omega
  · rw [Nat.testBit_two_pow_sub_one]; exact decide_eq_true hi
theorem leave_eq {h : House} (hv : HV h) : leaveR h (allR h) = leaveOf h := by
  have := best_eq (p := possibleP h) (n := h.signs.length) (by have := hv.ok.signs; omega) (possible_full hv)
  rw [leaveOf]
  refine Eq.trans ?_ this.symm
  rw [leaveR, fullN]
  congr 1
  funext m
  exact (possible_bits hv m).symm
theorem leave_min {h : House} (hv : HV h) : IsMin (possibleP h) (Inc h.signs.length) (leaveOf h) := by
  have h5 := hv.ok.signs
  have := tryAll_min (ok := possibleP h) (n := h.signs.length) (bits_inc (m := 2 ^ h.signs.length - 1) (by omega) (by have : 1 ≤ 2 ^ h.signs.length := Nat.one_le_two_pow; omega)) (possible_full hv)
  exact this
end Go.Lift

set_option linter.unusedSimpArgs false
set_option linter.unusedVariables false
namespace Go.Lift
open Go Go.Proofs
def Zer (c : List Bool) : Prop := ∀ i, c.getD i false = false
theorem getD_set (c : List Bool) (k i : Nat) (b : Bool) (hk : k < c.length) : (c.set k b).getD i false = if i = k then b else c.getD i false := by
  simp only [List.getD_eq_getElem?_getD, List.getElem?_set, hk, if_true]
  by_cases h : k = i
  · subst h; simp
  · rw [if_neg h, if_neg (fun e => h e.symm)]
theorem startOf_get (h : House) (o : List Int) : ∀ j, j ≤ 10 → ∀ i, (startOf h o j).getD i false = (decide (i < j) && decide (o.getD i 0 ∈ h.sick))
  | 0, _, i => by
    simp only [startOf, List.range_zero, List.foldl_nil, List.getD_eq_getElem?_getD, List.getElem?_replicate]
    split <;> simp
  | j + 1, hj, i => by
    have e : startOf h o (j + 1) = sickAt h o (startOf h o j) j := range_fold _ _ _
    rw [e, sickAt, getD_set _ _ _ _ (by rw [startOf_len]; omega), startOf_get h o j (by omega)]
    by_cases hi : i = j
    · subst hi; simp
    · rw [if_neg hi]
      by_cases h1 : i < j
      · simp [h1, show i < j + 1 by omega]
      · simp [h1, show ¬ i < j + 1 by omega]
theorem boilOf_get (keys : List (Int × Int)) (k : Int) (c : List Bool) (hc : c.length = 10) : ∀ j, j ≤ 10 → ∀ i, (boilOf keys k c j).getD i false = (c.getD i false && !(decide (i < j) && decide (((i : Int), k) ∈ keys)))
  | 0, _, i => by simp [boilOf]
  | j + 1, hj, i => by
    have e : boilOf keys k c (j + 1) = boilAt keys k (boilOf keys k c j) j := range_fold _ _ _
    have ih := boilOf_get keys k c hc j (by omega)
    rw [e, boilAt]
    by_cases hk : ((j : Int), k) ∈ keys
    · rw [if_pos hk, getD_set _ _ _ _ (by rw [boilOf_len keys k c j hc]; omega), ih]
      by_cases hi : i = j
      · subst hi; simp [hk]
      · rw [if_neg hi]
        by_cases h1 : i < j
        · simp [h1, show i < j + 1 by omega]
        · simp [h1, show ¬ i < j + 1 by omega]
    · rw [if_neg hk, ih]
      by_cases hi : i = j
      · subst hi; simp [hk]
      · by_cases h1 : i < j
        · simp [h1, show i < j + 1 by omega]
        · simp [h1, show ¬ i < j + 1 by omega]
def tA (h : House) (i : Nat) : Nat := (h.touches.getD i default).a.toNat
def tB (h : House) (i : Nat) : Nat := (h.touches.getD i default).b.toNat
theorem touchAt_get (h : House) (hrs : List Int) (k : Int) (c : List Bool) (i n : Nat) (ha : tA h i < c.length) (hb : tB h i < c.length) :
    (touchAt h hrs k c i).getD n false = (c.getD n false || (decide (hrs.getD i 0 = k) && (c.getD (tA h i) false || c.getD (tB h i) false) && (decide (n = tA h i) || decide (n = tB h i)))) := by
  have e : touchAt h hrs k c i = if hrs.getD i 0 = k ∧ (c.getD (tA h i) false || c.getD (tB h i) false) = true then (c.set (tA h i) true).set (tB h i) true else c := rfl
  rw [e]
  by_cases hc : hrs.getD i 0 = k ∧ (c.getD (tA h i) false || c.getD (tB h i) false) = true
  · rw [if_pos hc, getD_set _ _ _ _ (by rw [List.length_set]; exact hb), getD_set _ _ _ _ ha, hc.2, decide_eq_true hc.1]
    by_cases h1 : n = tB h i
    · simp [h1]
    · by_cases h2 : n = tA h i
      · simp [h1, h2]
      · simp [h1, h2]
  · rw [if_neg hc]
    by_cases h1 : hrs.getD i 0 = k
    · have h2 : (c.getD (tA h i) false || c.getD (tB h i) false) = false := by
        rw [Bool.eq_false_iff]; exact fun h2 => hc ⟨h1, h2⟩
      rw [h2]; simp
    · rw [decide_eq_false h1]; simp
theorem tAB {h : House} (hk : HOK h) {i : Nat} (hi : i < h.touches.length) : tA h i < 10 ∧ tB h i < 10 := by
  obtain ⟨a, b, h1, h2, h3, h4⟩ := hk.touch _ (List.getElem_mem hi)
  have e : h.touches.getD i default = h.touches[i] := by simp [List.getD_eq_getElem?_getD, hi]
  rw [tA, tB, e, h1, h2]
  exact ⟨by omega, by omega⟩
theorem zer_touch {h : House} (hk : HOK h) {hrs : List Int} {k : Int} {c : List Bool} (hc : c.length = 10) (hz : Zer c) : ∀ j, j ≤ h.touches.length → Zer (touchOf h hrs k c j)
  | 0, _ => hz
  | j + 1, hj => fun n => by
    have e : touchOf h hrs k c (j + 1) = touchAt h hrs k (touchOf h hrs k c j) j := range_fold _ _ _
    have hab := tAB hk (show j < h.touches.length by omega)
    have hl := touchOf_len h hrs k c j hc
    have ih := zer_touch hk hc hz (hrs := hrs) (k := k) j (by omega)
    rw [e, touchAt_get _ _ _ _ _ _ (by omega) (by omega), ih, ih, ih]; simp
theorem hoursOf_succ (h : House) (o hrs : List Int) (keys : List (Int × Int)) (j : Nat) : hoursOf h o hrs keys (j + 1) = hourAt h hrs keys (hoursOf h o hrs keys j) j := range_fold _ _ _
theorem zer_boil {h : House} (hk : HOK h) {o hrs : List Int} {keys : List (Int × Int)} {k : Nat} (hb : ∀ i, (hoursOf h o hrs keys k).getD i false = true → i < nT h ∧ ((i : Int), (k : Int)) ∈ keys) : Zer (hoursOf h o hrs keys (k + 1)) := by
  have hl := hoursOf_len h o hrs keys k
  rw [hoursOf_succ, hourAt]
  refine zer_touch hk (boilOf_len _ _ _ _ hl) (fun i => ?_) _ (Nat.le_refl _)
  rw [boilOf_get _ _ _ hl _ (nT_le hk)]
  cases hi : (hoursOf h o hrs keys k).getD i false
  · rfl
  · obtain ⟨h1, h2⟩ := hb i hi
    rw [decide_eq_true h1, decide_eq_true h2]; rfl
theorem zer_more {h : House} (hk : HOK h) {o hrs : List Int} {keys : List (Int × Int)} {k : Nat} (hz : Zer (hoursOf h o hrs keys k)) : ∀ m, Zer (hoursOf h o hrs keys (k + m))
  | 0 => hz
  | m + 1 => zer_boil hk fun i hi => by
    have := zer_more hk hz m i
    rw [show (hoursOf h o hrs keys (k.add m)).getD i false = (hoursOf h o hrs keys (k + m)).getD i false from rfl, this] at hi; cases hi
theorem zer_play {h : House} (hk : HOK h) {o hrs : List Int} {keys : List (Int × Int)} {k : Nat} (hkl : k ≤ h.last.toNat + 1) (hz : Zer (hoursOf h o hrs keys k)) : Zer (playOf h o hrs keys) := by
  obtain ⟨m, hm⟩ := Nat.exists_eq_add_of_le hkl
  rw [playOf, hm]; exact zer_more hk hz m
theorem touch_lt {h : House} (hc : checkHouse h = 0) (hk : HOK h) {i : Nat} (hi : i < h.touches.length) : tA h i < nT h ∧ tB h i < nT h := by
  have h4 := (List.all_eq_true.1 ((check_zero h).1 hc).2.2.2.1.1) _ (List.getElem_mem hi)
  simp only [touchOK, Bool.and_eq_true] at h4
  have ha := h4.1.1.1.1.1
  have hb := h4.1.1.1.1.2
  have hn := nT_le hk
  have e : h.touches.getD i default = h.touches[i] := by simp [List.getD_eq_getElem?_getD, hi]
  simp only [thingOK, thingsW_ok hk, decide_eq_true_eq, w64 (x := (nT h : Int) - 1) (by omega) (by omega)] at ha hb
  rw [tA, tB, e]; omega
theorem things_sub {h : House} (hc : checkHouse h = 0) (hk : HOK h) (o hrs : List Int) (keys : List (Int × Int)) : ∀ j i, (hoursOf h o hrs keys j).getD i false = true → i < nT h
  | 0, i, hi => by
    have hp := hk.pcs
    have : hoursOf h o hrs keys 0 = startOf h o h.table.pieces.length := rfl
    rw [this, startOf_get _ _ _ (by omega), Bool.and_eq_true, decide_eq_true_eq] at hi
    have := hi.1
    unfold nT; omega
  | j + 1, i, hi => by
    have hl := hoursOf_len h o hrs keys j
    have ih := things_sub hc hk o hrs keys j
    rw [hoursOf_succ, hourAt] at hi
    have : ∀ m, m ≤ h.touches.length → ∀ i, (touchOf h hrs j (boilOf keys j (hoursOf h o hrs keys j) (nT h)) m).getD i false = true → i < nT h := by
      intro m
      induction m with
      | zero =>
        intro _ i hi
        have e : touchOf h hrs j (boilOf keys j (hoursOf h o hrs keys j) (nT h)) 0 = boilOf keys j (hoursOf h o hrs keys j) (nT h) := rfl
        rw [e, boilOf_get _ _ _ hl _ (nT_le hk), Bool.and_eq_true] at hi
        exact ih i hi.1
      | succ m imh =>
        intro hm i hi
        have e : touchOf h hrs j (boilOf keys j (hoursOf h o hrs keys j) (nT h)) (m + 1) = touchAt h hrs j (touchOf h hrs j (boilOf keys j (hoursOf h o hrs keys j) (nT h)) m) m := range_fold _ _ _
        have hab := tAB hk (show m < h.touches.length by omega)
        have hlt := touch_lt hc hk (show m < h.touches.length by omega)
        have hl2 := touchOf_len h hrs j _ m (boilOf_len keys j _ (nT h) hl)
        rw [e, touchAt_get _ _ _ _ _ _ (by omega) (by omega)] at hi
        simp only [Bool.or_eq_true, Bool.and_eq_true, decide_eq_true_eq] at hi
        rcases hi with hi | ⟨_, rfl | rfl⟩
        · exact imh (by omega) i hi
        · exact hlt.1
        · exact hlt.2
    exact this _ (Nat.le_refl _) i hi
theorem safe_zer {h : House} {c : Course} {more : List Boiling} (hz : Zer (lastOf h c more)) : safeC h more c = true := by
  rw [safeC, List.all_eq_true]
  intro i _
  rw [safeAt, hz i]; rfl
theorem safe_iff (h : House) (more : List Boiling) (c : Course) : safeC h more c = true ↔ ∀ i, i < h.table.pieces.length → (lastOf h c more).getD i false = true → (pad7 c.owners).getD i 0 ∈ h.sick := by
  rw [safeC, List.all_eq_true]
  constructor
  · intro hall i hi ht
    have := hall i (List.mem_range.2 hi)
    rw [safeAt, ht] at this
    simpa using this
  · intro hall i hi
    rw [safeAt]
    cases ht : (lastOf h c more).getD i false
    · rfl
    · rw [decide_eq_true (hall i (List.mem_range.1 hi) ht)]; rfl
theorem safeP_iff (h : House) (more : List Boiling) : safeP h more = true ↔ ∀ c ∈ truH h [], safeC h more c = true := by
  rw [safeP, List.all_eq_true]
/-- All that is boiled in an hour keeps all safe. -/
theorem boil_all {h : House} (hc : checkHouse h = 0) (hk : HOK h) {k : Nat} (hkl : (k : Int) ≤ h.last) {l : List Int} (hl : ∀ i, i < nT h → (i : Int) ∈ l) (c : Course) : safeC h (atOf l k) c = true := by
  refine safe_zer (zer_play hk (k := k + 1) (by omega) (zer_boil hk fun i hi => ?_))
  have hi := things_sub hc hk _ _ _ _ i hi
  refine ⟨hi, ?_⟩
  simp only [List.map_append, List.mem_append, atOf, List.map_map, List.mem_map]
  exact .inr ⟨(i : Int), hl i hi, rfl⟩
end Go.Lift

set_option linter.unusedSimpArgs false
set_option linter.unusedVariables false
namespace Go.Lift
open Go Go.Proofs
theorem hour_nat {h : House} {k : Int} (hh : hourOK h k = true) : ∃ n : Nat, k = (n : Int) ∧ (n : Int) ≤ h.last := by
  rw [hourOK, decide_eq_true_eq] at hh
  exact ⟨k.toNat, by omega, by omega⟩
theorem boil_full {h : House} (hc : checkHouse h = 0) (hk : HOK h) {k : Int} (hh : hourOK h k = true) : safeP h (atOf (bitsL (2 ^ nT h - 1)) k) = true := by
  obtain ⟨n, rfl, hn⟩ := hour_nat hh
  have := nT_le hk
  rw [safeP_iff]
  refine fun c _ => boil_all hc hk hn (fun i hi => (mem_bitsL _ _).2 ⟨by omega, ?_⟩) c
  rw [Nat.testBit_two_pow_sub_one]; exact decide_eq_true hi
theorem boil_min {h : House} (hc : checkHouse h = 0) (hk : HOK h) {k : Int} (hh : hourOK h k = true) : IsMin (fun x => safeP h (atOf x k)) (Inc (nT h)) (boilOf' h k) := by
  have hn := nT_le hk
  exact tryAll_min (ok := fun x => safeP h (atOf x k)) (n := nT h) (bits_inc (m := 2 ^ nT h - 1) (by omega) (by have : 1 ≤ 2 ^ nT h := Nat.one_le_two_pow; omega)) (boil_full hc hk hh)
theorem inc_len {n : Nat} {x : List Int} (h : Inc n x) : x.length ≤ n := by
  rcases Nat.eq_zero_or_pos x.length with h0 | h0
  · omega
  · have := (inc_incF.1 h).room (List.length_pos_iff.1 h0); omega
end Go.Lift

set_option linter.unusedSimpArgs false
set_option linter.unusedVariables false
namespace Go.Lift
open Go Go.Proofs
theorem ask_zero {h : House} (h1 : checkHouse h = 0) (h2 : truH h [] ≠ []) : askErrH h true = 0 := by
  rw [askErrH, if_pos h1, if_pos rfl, if_neg h2]
theorem boilOf_len' {h : House} (hc : checkHouse h = 0) (hk : HOK h) {k : Int} (hh : hourOK h k = true) : (boilOf' h k).length ≤ 10 := by
  have h1 := inc_len (boil_min hc hk hh).dom
  have h2 := nT_le hk
  omega
end Go.Lift

set_option linter.unusedSimpArgs false
set_option linter.unusedVariables false
namespace Go.Lift
open Go Go.Proofs
theorem isWhose_iff {h : House} (ht : truH h [] ≠ []) (w : Nat) : isWhose h w = true ↔ ∃ c ∈ truH h [], harmedP h w c = true := by
  rw [isWhose, verdictOf, decide_eq_true_eq]
  have hpos : 0 < (truH h []).length := List.length_pos_iff.2 ht
  have key : (∃ c ∈ truH h [], harmedP h w c = true) ↔ (truH h []).countP (harmedP h w) ≠ 0 := by
    rw [Ne, List.countP_eq_zero]
    constructor
    · rintro ⟨x, hx, hp⟩ hall; exact hall x hx hp
    · intro hne; exact Classical.byContradiction fun hno => hne fun x hx hp => hno ⟨x, hx, hp⟩
  rw [key]
  by_cases h1 : (truH h []).countP (harmedP h w) = (truH h []).length
  · rw [if_pos h1]
    exact ⟨fun _ => by omega, fun _ => by decide⟩
  · rw [if_neg h1]
    by_cases h2 : (truH h []).countP (harmedP h w) = 0
    · rw [if_pos h2]; simp [h2]
    · rw [if_neg h2]; exact ⟨fun _ => h2, fun _ => by decide⟩
theorem harmedP_iff (h : House) (w : Int) (c : Course) : harmedP h w c = true ↔ ∃ i, i < h.table.pieces.length ∧ (lastOf h c []).getD i false = true ∧ (pad7 c.owners).getD i 0 = w ∧ ¬ (pad7 c.owners).getD i 0 ∈ h.sick := by
  rw [harmedP, List.any_eq_true]
  constructor
  · rintro ⟨i, hi, hh⟩
    simp only [harmedAt, Bool.and_eq_true, decide_eq_true_eq, Bool.not_eq_true', decide_eq_false_iff_not] at hh
    exact ⟨i, List.mem_range.1 hi, hh.1.1, hh.1.2, hh.2⟩
  · rintro ⟨i, hi, h1, h2, h3⟩
    refine ⟨i, List.mem_range.2 hi, ?_⟩
    simp only [harmedAt, Bool.and_eq_true, decide_eq_true_eq, Bool.not_eq_true', decide_eq_false_iff_not]
    exact ⟨⟨h1, h2⟩, h3⟩
theorem mem_whoseS (h : House) (w : Int) : w ∈ whoseS h ↔ ∃ n : Nat, w = (n : Int) ∧ n < h.table.women.length ∧ isWhose h n = true := by
  simp only [whoseS, whoseUpto, List.mem_map, List.mem_filter, List.mem_range]
  constructor
  · rintro ⟨n, ⟨h1, h2⟩, rfl⟩; exact ⟨n, rfl, h1, h2⟩
  · rintro ⟨n, rfl, h1, h2⟩; exact ⟨n, ⟨h1, h2⟩, rfl⟩
end Go.Lift

set_option linter.unusedSimpArgs false
set_option linter.unusedVariables false
namespace Go.Lift
open Go Go.Proofs
theorem verdict_one {α : Type} (l : List α) (p : α → Bool) : verdictOf (l.countP p) l.length = 1 ↔ ∀ c ∈ l, p c = true := by
  rw [← List.countP_eq_length, verdictOf]
  by_cases h1 : l.countP p = l.length
  · simp [h1]
  · rw [if_neg h1]
    split
    · constructor
      · intro h; omega
      · intro h; exact absurd h h1
    · constructor
      · intro h; omega
      · intro h; exact absurd h h1
theorem verdict_two {α : Type} {l : List α} (hl : l ≠ []) (p : α → Bool) : verdictOf (l.countP p) l.length = 2 ↔ ∀ c ∈ l, p c = false := by
  have hpos := List.length_pos_iff.2 hl
  have key : (∀ c ∈ l, p c = false) ↔ l.countP p = 0 := by
    rw [List.countP_eq_zero]
    exact ⟨fun h c hc => by rw [h c hc]; simp, fun h c hc => by simpa using h c hc⟩
  rw [key, verdictOf]
  by_cases h1 : l.countP p = l.length
  · rw [if_pos h1]
    exact ⟨fun h => by omega, fun h => by omega⟩
  · rw [if_neg h1]
    by_cases h2 : l.countP p = 0
    · rw [if_pos h2]; exact ⟨fun _ => h2, fun _ => rfl⟩
    · rw [if_neg h2]; exact ⟨fun h => by omega, fun h => absurd h h2⟩
theorem verdict_range {α : Type} (l : List α) (p : α → Bool) : 1 ≤ verdictOf (l.countP p) l.length ∧ verdictOf (l.countP p) l.length ≤ 3 := by
  rw [verdictOf]; split
  · omega
  · split <;> omega
/-- One house has the same things, and no other truths. -/
structure SubH (x h : House) : Prop where
  pcs : x.table.pieces.length = h.table.pieces.length
  wom : x.table.women.length = h.table.women.length
  sick : x.sick = h.sick
  nT : nT x = nT h
  last : ∀ c more, lastOf x c more = lastOf h c more
  tru : ∀ c ∈ truH x [], c ∈ truH h []
theorem SubH.ne {x h : House} (s : SubH x h) (hx : truH x [] ≠ []) : truH h [] ≠ [] := by
  obtain ⟨c, l, e⟩ := List.exists_cons_of_ne_nil hx
  intro h0
  have := s.tru c (by rw [e]; simp)
  rw [h0] at this; cases this
theorem SubH.carry {x h : House} (s : SubH x h) (hx : truH x [] ≠ []) (i : Nat) (hn : carryAt h i ≠ 3) : carryAt x i = carryAt h i := by
  have hr := verdict_range (truH h []) (carriesP h i)
  have hp : carriesP x i = carriesP h i := by
    funext c; rw [carriesP, carriesP, s.last]
  have hc : carryAt h i = 1 ∨ carryAt h i = 2 := by unfold carryAt at *; omega
  rcases hc with hc | hc
  · rw [hc, carryAt, verdict_one]
    rw [carryAt, verdict_one] at hc
    intro c hm; rw [hp]; exact hc c (s.tru c hm)
  · rw [hc, carryAt, verdict_two hx]
    rw [carryAt, verdict_two (s.ne hx)] at hc
    intro c hm; rw [hp]; exact hc c (s.tru c hm)
theorem SubH.whose {x h : House} (s : SubH x h) (hx : truH x [] ≠ []) (w : Nat) (hw : isWhose x w = true) : isWhose h w = true := by
  rw [isWhose_iff hx] at hw
  rw [isWhose_iff (s.ne hx)]
  obtain ⟨c, hc, hp⟩ := hw
  refine ⟨c, s.tru c hc, ?_⟩
  rw [harmedP_iff] at hp ⊢
  rw [s.pcs, s.last, s.sick] at hp
  exact hp
theorem SubH.mem {x h : House} (s : SubH x h) (hx : truH x [] ≠ []) (w : Int) (hw : w ∈ whoseS x) : w ∈ whoseS h := by
  rw [mem_whoseS] at hw ⊢
  obtain ⟨n, h1, h2, h3⟩ := hw
  exact ⟨n, h1, by rw [← s.wom]; exact h2, s.whose hx n h3⟩
theorem SubH.len {x h : House} (s : SubH x h) (hx : truH x [] ≠ []) : (whoseS x).length ≤ (whoseS h).length := by
  rw [whoseS, whoseS, whoseUpto, whoseUpto, List.length_map, List.length_map, ← List.countP_eq_length_filter, ← List.countP_eq_length_filter, s.wom]
  exact List.countP_mono_left fun w _ hw => s.whose hx w hw
theorem SubH.safe {x h : House} (s : SubH x h) (more : List Boiling) (hs : safeP h more = true) : safeP x more = true := by
  rw [safeP_iff] at hs ⊢
  intro c hc
  have := hs c (s.tru c hc)
  rw [safe_iff] at this ⊢
  rw [s.pcs, s.last, s.sick]; exact this
theorem SubH.boil {x h : House} (s : SubH x h) (cx : checkHouse x = 0) (kx : HOK x) (ch : checkHouse h = 0) (kh : HOK h) {k : Int} (hx : hourOK x k = true) (hh : hourOK h k = true) : (boilOf' x k).length ≤ (boilOf' h k).length := by
  have m1 := boil_min cx kx hx
  have m2 := boil_min ch kh hh
  have := m1.least (boilOf' h k) (by rw [s.nT]; exact m2.dom) (s.safe _ m2.good)
  rw [Bool.eq_false_iff, Ne, shorter_iff] at this
  apply Classical.byContradiction
  intro hn; exact this (.inl (by omega))
theorem truH_reS (h : House) (ss : List Sign) (c : Course) : c ∈ truH (reS h ss) [] ↔ c ∈ allC h ∧ ∀ s ∈ ss, sgn (lastOf h c []) s = true := by
  rw [truH, List.mem_filter, allC_reS, isTrue_nil, List.all_eq_true]; rfl
theorem truH_self (h : House) (c : Course) : c ∈ truH h [] ↔ c ∈ allC h ∧ ∀ s ∈ h.signs, sgn (lastOf h c []) s = true := truH_reS h h.signs c
theorem sub_more (h : House) (s : Sign) : SubH (reS h (h.signs ++ [s])) h where
  pcs := rfl
  wom := rfl
  sick := rfl
  nT := rfl
  last := fun _ _ => rfl
  tru := fun c hc => by
    rw [truH_reS] at hc
    rw [truH_self]
    exact ⟨hc.1, fun t ht => hc.2 t (List.mem_append_left _ ht)⟩
theorem leave_more {h : House} (hv : HV h) {s : Sign} (xv : HV (reS h (h.signs ++ [s]))) : (leaveOf h).length ≤ (leaveOf (reS h (h.signs ++ [s]))).length ∧ (leaveOf (reS h (h.signs ++ [s]))).length ≤ (leaveOf h).length + 1 := by
  have m1 := leave_min hv
  have m2 := leave_min xv
  have hl : (reS h (h.signs ++ [s])).signs.length = h.signs.length + 1 := by show (h.signs ++ [s]).length = _; simp
  have hg : ∀ i, i < h.signs.length → (reS h (h.signs ++ [s])).signs.getD i default = h.signs.getD i default := fun i hi => by
    show (h.signs ++ [s]).getD i default = _
    simp [List.getD_eq_getElem?_getD, List.getElem?_append_left hi]
  rw [hl] at m2
  constructor
  · have hp : possibleP h ((leaveOf (reS h (h.signs ++ [s]))).filter fun a => decide (a < (h.signs.length : Int))) = true := by
      rw [possible_iff]
      obtain ⟨c, hc, ht⟩ := (possible_iff _ _).1 m2.good
      rw [allC_reS] at hc
      refine ⟨c, hc, (isTrue_out _ _ _).2 fun i hi hn => ?_⟩
      have := (isTrue_out _ _ _).1 ht i (by rw [hl]; omega) (fun hm => hn (List.mem_filter.2 ⟨hm, by simpa using hi⟩))
      rw [hg i hi] at this; exact this
    have hd : Inc h.signs.length ((leaveOf (reS h (h.signs ++ [s]))).filter fun a => decide (a < (h.signs.length : Int))) := by
      refine ⟨List.Pairwise.filter _ m2.dom.1, fun a ha => ?_⟩
      obtain ⟨h1, h2⟩ := List.mem_filter.1 ha
      obtain ⟨i, rfl, _⟩ := m2.dom.2 a h1
      exact ⟨i, rfl, by simpa using h2⟩
    have := m1.least _ hd hp
    rw [Bool.eq_false_iff, Ne, shorter_iff] at this
    have hle := List.length_filter_le (fun a => decide (a < (h.signs.length : Int))) (leaveOf (reS h (h.signs ++ [s])))
    apply Classical.byContradiction
    intro hn; exact this (.inl (by omega))
  · have hp : possibleP (reS h (h.signs ++ [s])) (leaveOf h ++ [(h.signs.length : Int)]) = true := by
      rw [possible_iff]
      obtain ⟨c, hc, ht⟩ := (possible_iff _ _).1 m1.good
      refine ⟨c, by rw [allC_reS]; exact hc, (isTrue_out _ _ _).2 fun i hi hn => ?_⟩
      rw [hl] at hi
      have hi' : i < h.signs.length := by
        rcases Nat.lt_or_ge i h.signs.length with h1 | h1
        · exact h1
        · have : i = h.signs.length := by omega
          subst this; exact absurd (by simp) hn
      have := (isTrue_out _ _ _).1 ht i hi' (fun hm => hn (List.mem_append_left _ hm))
      rw [hg i hi']; exact this
    have hd : Inc (h.signs.length + 1) (leaveOf h ++ [(h.signs.length : Int)]) := by
      refine ⟨List.pairwise_append.2 ⟨m1.dom.1, by simp, fun a ha b hb => ?_⟩, fun a ha => ?_⟩
      · obtain ⟨i, rfl, hi⟩ := m1.dom.2 a ha
        rw [List.mem_singleton] at hb; subst hb; omega
      · rcases List.mem_append.1 ha with ha | ha
        · obtain ⟨i, rfl, hi⟩ := m1.dom.2 a ha
          exact ⟨i, rfl, by omega⟩
        · rw [List.mem_singleton] at ha; exact ⟨_, ha, by omega⟩
    have := m2.least _ hd hp
    rw [Bool.eq_false_iff, Ne, shorter_iff] at this
    apply Classical.byContradiction
    intro hn; exact this (.inl (by simp; omega))
theorem leave_nil {h : House} (hv : HV h) (hl : (leaveOf h).length = 0) : truH h [] ≠ [] := by
  have := (leave_min hv).good
  rw [List.length_eq_zero_iff.1 hl] at this
  exact (possible_tru h).1 this
end Go.Lift

set_option linter.unusedSimpArgs false
set_option linter.unusedVariables false
namespace Go.Lift
open Go Go.Proofs
/-- The hour with a number. -/
def hourK (h : House) (n : Nat) : Int := ((n % (h.last.toNat + 1) : Nat) : Int)
theorem hourK_ok {h : House} (hk : HOK h) (n : Nat) : hourOK h (hourK h n) = true := by
  obtain ⟨m, h1, h2⟩ := hk.last
  rw [hourOK, hourK, decide_eq_true_eq]
  have := Nat.mod_lt n (show 0 < h.last.toNat + 1 by omega)
  omega
theorem hourK_facts {h : House} (hk : HOK h) {n : Nat} (hn : n < 256) : IntKind.i64.wrap (n : Int) = (n : Int) ∧ ¬ IntKind.i64.wrap (h.last + 1) = 0 ∧ (n : Int).tmod (IntKind.i64.wrap (h.last + 1)) = hourK h n := by
  obtain ⟨m, h1, h2⟩ := hk.last
  have e : IntKind.i64.wrap (h.last + 1) = ((h.last.toNat + 1 : Nat) : Int) := by rw [w64 (by omega) (by omega)]; omega
  refine ⟨w64 (by omega) (by omega), by rw [e]; omega, ?_⟩
  rw [e, hourK, Int.ofNat_tmod]
theorem ready_ok {h : House} (hr : readyH h = true) : HSm h ∧ checkHouse h = 0 := by
  rw [readyH, Bool.and_eq_true, decide_eq_true_eq] at hr
  exact ⟨thin_sm hr.1, hr.2⟩
end Go.Lift

set_option linter.unusedSimpArgs false
set_option linter.unusedVariables false
namespace Go.Lift
open Go Go.Proofs
theorem Pure.wk {P : Program} {f : FuncId} {x y r : AV} {xs : List AV} (hp : Pure P f (y :: xs) r) (h : Wk x y) : Pure P f (x :: xs) r :=
  fun H => ACalls.arg0 (fun w v hr => h H w v hr) (hp H)
theorem wk9 {a b c d e f g i j a' b' c' d' e' f' g' i' j' : AV} (h1 : Wk a a') (h2 : Wk b b') (h3 : Wk c c') (h4 : Wk d d') (h5 : Wk e e') (h6 : Wk f f') (h7 : Wk g g') (h8 : Wk i i') (h9 : Wk j j') : Wk (.agg [a, b, c, d, e, f, g, i, j]) (.agg [a', b', c', d', e', f', g', i', j']) :=
  Wk.agg rfl fun n x y hx hy => by
    match n, hx, hy with
    | 0, hx, hy => cases hx; cases hy; exact h1
    | 1, hx, hy => cases hx; cases hy; exact h2
    | 2, hx, hy => cases hx; cases hy; exact h3
    | 3, hx, hy => cases hx; cases hy; exact h4
    | 4, hx, hy => cases hx; cases hy; exact h5
    | 5, hx, hy => cases hx; cases hy; exact h6
    | 6, hx, hy => cases hx; cases hy; exact h7
    | 7, hx, hy => cases hx; cases hy; exact h8
    | 8, hx, hy => cases hx; cases hy; exact h9
def keptAt (a b : List Int) (i : Nat) : Bool := decide (a.getD i 0 = 3) || decide (a.getD i 0 = b.getD i 0)
def keptB (a b : List Int) : Bool := decide (a.length = b.length) && (List.range a.length).all (keptAt a b)
theorem kept_c (a b : List Int) (ha : Sm a.length) : Pure Tryz.prog 94 [.slice (eI a), .slice (eI b)] (.bool (keptB a b)) := by
  intro H
  unfold Sm at ha
  refine fn_of hmix fc94 (by simp) ?_
  rw [ienv2]
  by_cases hl : (a.length : Int) = (b.length : Int)
  rotate_left
  · simp only [go_sem, reduceIte, reduceCtorEq, Nat.reduceEqDiff, Nat.reduceBEq, Nat.reduceAdd, Nat.reduceMul, Nat.reduceLeDiff, List.getElem?_cons_zero, List.getElem?_cons_succ, bne_self_eq_false, Int.reduceEq, ac94, hl]
    refine fin_ret' 4 (by simp [upd_at]) ?_
    simp [upd_at, keptB, show ¬ a.length = b.length by omega]
  · have hl' : a.length = b.length := by omega
    simp only [go_sem, reduceIte, reduceCtorEq, Nat.reduceEqDiff, Nat.reduceBEq, Nat.reduceAdd, Nat.reduceMul, Nat.reduceLeDiff, List.getElem?_cons_zero, List.getElem?_cons_succ, bne_self_eq_false, Int.reduceEq, ac94, hl]
    refine x_for a.length (fun j env H1 => H1 = H ∧ env 0 = .slice (eI a) ∧ env 1 = .slice (eI b) ∧ env 5 = i6 j ∧ env 33 = .any ∧ (List.range j).all (keptAt a b) = true)
      ⟨rfl, by simp [upd_at], by simp [upd_at], by simp [upd_at], by simp [upd_at], rfl⟩ ?_
    rintro j env H1 hj ⟨rfl, g0, g1, g5, hN, hq⟩
    by_cases hlt : (j : Int) < (a.length : Int)
    · have hlt' : j < a.length := by omega
      have hb' : j < b.length := by omega
      have ea : a.getD j 0 = a[j] := by simp [List.getD_eq_getElem?_getD, hlt']
      have eb : b.getD j 0 = b[j] := by simp [List.getD_eq_getElem?_getD, hb']
      have hs : (List.range (j + 1)).all (keptAt a b) = keptAt a b j := by rw [List.range_succ, List.all_append, hq]; simp
      have hbad : keptAt a b j = false → keptB a b = false := fun hk => by
        rw [keptB, Bool.and_eq_false_iff]
        exact .inr (List.all_eq_false.2 ⟨j, List.mem_range.2 hlt', by simp [hk]⟩)
      rw [hl] at hlt
      by_cases h3 : a[j] = 3
      · simp only [go_sem, reduceIte, reduceCtorEq, Nat.reduceEqDiff, Nat.reduceBEq, Nat.reduceAdd, Nat.reduceMul, Nat.reduceLeDiff, List.getElem?_cons_zero, List.getElem?_cons_succ, bne_self_eq_false, Int.reduceEq, g0, g1, g5, hN, hl, hlt, eI_get hlt', h3, wsucc (show j < 4611686018427387904 by omega), hlt']
        rw [← List.range_succ, hs, keptAt, ea, h3]; rfl
      · by_cases h4 : a[j] = b[j]
        · have h3' : ¬ b[j] = 3 := by rw [← h4]; exact h3
          simp only [go_sem, reduceIte, reduceCtorEq, Nat.reduceEqDiff, Nat.reduceBEq, Nat.reduceAdd, Nat.reduceMul, Nat.reduceLeDiff, List.getElem?_cons_zero, List.getElem?_cons_succ, bne_self_eq_false, Int.reduceEq, g0, g1, g5, hN, hl, hlt, eI_get hlt', eI_get hb', h3, h3', h4, wsucc (show j < 4611686018427387904 by omega), hlt']
          rw [← List.range_succ, hs, keptAt, ea, eb, h4]; simp
        · simp only [go_sem, reduceIte, reduceCtorEq, Nat.reduceEqDiff, Nat.reduceBEq, Nat.reduceAdd, Nat.reduceMul, Nat.reduceLeDiff, List.getElem?_cons_zero, List.getElem?_cons_succ, bne_self_eq_false, Int.reduceEq, g0, g1, g5, hN, hl, hlt, eI_get hlt', eI_get hb', h3, h4]
          refine fin_ret' 4 (by simp [upd_at, hN]) ?_
          rw [hbad (by rw [keptAt, ea, eb]; simp [h3, h4])]
          simp [upd_at]
    · have : j = a.length := by omega
      subst this
      rw [hl] at hlt
      simp only [go_sem, reduceIte, reduceCtorEq, Nat.reduceEqDiff, Nat.reduceBEq, Nat.reduceAdd, Nat.reduceMul, Nat.reduceLeDiff, List.getElem?_cons_zero, List.getElem?_cons_succ, bne_self_eq_false, Int.reduceEq, g0, g1, g5, hN, hl, hlt]
      refine fin_ret' 4 (by simp [upd_at, hN]) ?_
      have : keptB a b = true := by rw [keptB, decide_eq_true hl', hq]; rfl
      rw [this]; simp [upd_at]
theorem closer_kept {x h : House} (s : SubH x h) (hx : truH x [] ≠ []) : keptB (carryOf h) (carryOf x) = true := by
  have h1 : (carryOf h).length = nT h := by simp [carryOf]
  have h2 : (carryOf x).length = nT x := by simp [carryOf]
  rw [keptB, h1, h2, s.nT, decide_eq_true rfl, Bool.true_and, List.all_eq_true]
  intro i hi
  have hi := List.mem_range.1 hi
  have e1 : (carryOf h).getD i 0 = carryAt h i := by simp [carryOf, List.getD_eq_getElem?_getD, hi]
  have e2 : (carryOf x).getD i 0 = carryAt x i := by simp [carryOf, List.getD_eq_getElem?_getD, hi, s.nT]
  rw [keptAt, e1, e2]
  by_cases h3 : carryAt h i = 3
  · simp [h3]
  · simp [s.carry hx i h3]
theorem carry_len (h : House) : (carryOf h).length = nT h := by simp [carryOf]
set_option maxHeartbeats 1000000 in
theorem closer_c {x h : House} (s : SubH x h) (mx : HSm x) (mh : HSm h) (cx : checkHouse x = 0) (ch : checkHouse h = 0) (hx : truH x [] ≠ []) {k : Int} (kx : hourOK x k = true) (kh : hourOK h k = true) : Pure Tryz.prog 41 [eH x, eH h, i6 k] (.bool true) := by
  intro H
  have xv := hv_of mx.tsm mx.sk cx
  have hv := hv_of mh.tsm mh.sk ch
  have hne := s.ne hx
  have ax := ask_zero cx hx
  have ah := ask_zero ch hne
  have nx := nT_le xv.ok
  have nh := nT_le hv.ok
  have bx := boilOf_len' cx xv.ok kx
  have bh := boilOf_len' ch hv.ok kh
  have wx := mx.women
  have wh := mh.women
  have lx := whoseUpto_len x x.table.women.length
  have lh := whoseUpto_len h h.table.women.length
  refine fn_of hmix fc41 (by simp) ?_
  rw [ienv3]
  simp only [go_sem, reduceIte, reduceCtorEq, Nat.reduceEqDiff, Nat.reduceBEq, Nat.reduceAdd, Nat.reduceMul, Nat.reduceLeDiff, List.getElem?_cons_zero, List.getElem?_cons_succ, bne_self_eq_false, Int.reduceEq, ac41, eH]
  refine v_box _ rfl fun b1 hb1 => ?_
  have e1 := (Ext.refl H).new hb1 (.box [.slice (x.table.women.map eW), .slice (x.table.pieces.map eP), i6 x.table.wrong, .slice (eI x.sick), i6 x.others, i6 x.last, .slice (x.touches.map eTo), .slice (x.boiled.map eB), .slice (x.signs.map eS)])
  simp only [go_sem, reduceIte, reduceCtorEq, Nat.reduceEqDiff, Nat.reduceBEq, Nat.reduceAdd, Nat.reduceMul, Nat.reduceLeDiff, List.getElem?_cons_zero, List.getElem?_cons_succ, bne_self_eq_false, Int.reduceEq]
  refine v_box _ rfl fun b2 hb2 => ?_
  have n12 : b1 ≠ b2 := fun h => by subst h; simp at hb2
  have e2 := e1.new hb2 (.box [.slice (h.table.women.map eW), .slice (h.table.pieces.map eP), i6 h.table.wrong, .slice (eI h.sick), i6 h.others, i6 h.last, .slice (h.touches.map eTo), .slice (h.boiled.map eB), .slice (h.signs.map eS)])
  simp only [go_sem, reduceIte, reduceCtorEq, Nat.reduceEqDiff, Nat.reduceBEq, Nat.reduceAdd, Nat.reduceMul, Nat.reduceLeDiff, List.getElem?_cons_zero, List.getElem?_cons_succ, bne_self_eq_false, Int.reduceEq, updH_ne _ _ n12]
  refine (house_c x mx).go ?_
  simp only [go_sem, reduceIte, reduceCtorEq, Nat.reduceEqDiff, Nat.reduceBEq, Nat.reduceAdd, Nat.reduceMul, Nat.reduceLeDiff, List.getElem?_cons_zero, List.getElem?_cons_succ, bne_self_eq_false, Int.reduceEq]
  refine (carry_c x mx.tsm mx.sk).go ?_
  simp only [go_sem, reduceIte, reduceCtorEq, Nat.reduceEqDiff, Nat.reduceBEq, Nat.reduceAdd, Nat.reduceMul, Nat.reduceLeDiff, List.getElem?_cons_zero, List.getElem?_cons_succ, bne_self_eq_false, Int.reduceEq, listR, ax, updH_ne _ _ n12]
  refine (house_c h mh).go ?_
  simp only [go_sem, reduceIte, reduceCtorEq, Nat.reduceEqDiff, Nat.reduceBEq, Nat.reduceAdd, Nat.reduceMul, Nat.reduceLeDiff, List.getElem?_cons_zero, List.getElem?_cons_succ, bne_self_eq_false, Int.reduceEq]
  refine (carry_c h mh.tsm mh.sk).go ?_
  simp only [go_sem, reduceIte, reduceCtorEq, Nat.reduceEqDiff, Nat.reduceBEq, Nat.reduceAdd, Nat.reduceMul, Nat.reduceLeDiff, List.getElem?_cons_zero, List.getElem?_cons_succ, bne_self_eq_false, Int.reduceEq, listR, ah, updH_ne _ _ n12]
  refine (house_c x mx).go ?_
  simp only [go_sem, reduceIte, reduceCtorEq, Nat.reduceEqDiff, Nat.reduceBEq, Nat.reduceAdd, Nat.reduceMul, Nat.reduceLeDiff, List.getElem?_cons_zero, List.getElem?_cons_succ, bne_self_eq_false, Int.reduceEq]
  refine (whoseS_c x mx.tsm mx.sk).go ?_
  simp only [go_sem, reduceIte, reduceCtorEq, Nat.reduceEqDiff, Nat.reduceBEq, Nat.reduceAdd, Nat.reduceMul, Nat.reduceLeDiff, List.getElem?_cons_zero, List.getElem?_cons_succ, bne_self_eq_false, Int.reduceEq, listR, ax, updH_ne _ _ n12]
  refine (house_c h mh).go ?_
  simp only [go_sem, reduceIte, reduceCtorEq, Nat.reduceEqDiff, Nat.reduceBEq, Nat.reduceAdd, Nat.reduceMul, Nat.reduceLeDiff, List.getElem?_cons_zero, List.getElem?_cons_succ, bne_self_eq_false, Int.reduceEq]
  refine (whoseS_c h mh.tsm mh.sk).go ?_
  simp only [go_sem, reduceIte, reduceCtorEq, Nat.reduceEqDiff, Nat.reduceBEq, Nat.reduceAdd, Nat.reduceMul, Nat.reduceLeDiff, List.getElem?_cons_zero, List.getElem?_cons_succ, bne_self_eq_false, Int.reduceEq, listR, ah, updH_ne _ _ n12]
  refine (house_c x mx).go ?_
  simp only [go_sem, reduceIte, reduceCtorEq, Nat.reduceEqDiff, Nat.reduceBEq, Nat.reduceAdd, Nat.reduceMul, Nat.reduceLeDiff, List.getElem?_cons_zero, List.getElem?_cons_succ, bne_self_eq_false, Int.reduceEq]
  refine (boil_c x mx.tsm mx.sk k).go ?_
  simp only [go_sem, reduceIte, reduceCtorEq, Nat.reduceEqDiff, Nat.reduceBEq, Nat.reduceAdd, Nat.reduceMul, Nat.reduceLeDiff, List.getElem?_cons_zero, List.getElem?_cons_succ, bne_self_eq_false, Int.reduceEq, listR, ax, kx, updH_ne _ _ n12]
  refine (house_c h mh).go ?_
  simp only [go_sem, reduceIte, reduceCtorEq, Nat.reduceEqDiff, Nat.reduceBEq, Nat.reduceAdd, Nat.reduceMul, Nat.reduceLeDiff, List.getElem?_cons_zero, List.getElem?_cons_succ, bne_self_eq_false, Int.reduceEq]
  refine (boil_c h mh.tsm mh.sk k).go ?_
  simp only [go_sem, reduceIte, reduceCtorEq, Nat.reduceEqDiff, Nat.reduceBEq, Nat.reduceAdd, Nat.reduceMul, Nat.reduceLeDiff, List.getElem?_cons_zero, List.getElem?_cons_succ, bne_self_eq_false, Int.reduceEq, listR, ah, kh]
  refine (kept_c _ _ (by rw [carry_len]; unfold Sm; omega)).go ?_
  rw [closer_kept s hx]
  have q1 : ¬ ((whoseS h).length : Int) < ((whoseS x).length : Int) := by have := s.len hx; omega
  have q2 : ¬ ((boilOf' h k).length : Int) < ((boilOf' x k).length : Int) := by have := s.boil cx xv.ok ch hv.ok kx kh; omega
  simp only [go_sem, reduceIte, reduceCtorEq, Nat.reduceEqDiff, Nat.reduceBEq, Nat.reduceAdd, Nat.reduceMul, Nat.reduceLeDiff, List.getElem?_cons_zero, List.getElem?_cons_succ, bne_self_eq_false, Int.reduceEq, q1, q2]
  refine x_for (whoseS x).length (fun j env H1 => Ext H H1 ∧ env 11 = .slice (eI (whoseS x)) ∧ env 13 = .slice (eI (whoseS h)) ∧ env 19 = i6 j ∧ env 113 = .any)
    ⟨e2, by simp [upd_at], by simp [upd_at], by simp [upd_at], by simp [upd_at]⟩ ?_
  rintro j env H1 hj ⟨hE, g11, g13, g19, hN⟩
  by_cases hlt : (j : Int) < ((whoseS x).length : Int)
  · have hlt' : j < (whoseS x).length := by omega
    simp only [go_sem, reduceIte, reduceCtorEq, Nat.reduceEqDiff, Nat.reduceBEq, Nat.reduceAdd, Nat.reduceMul, Nat.reduceLeDiff, List.getElem?_cons_zero, List.getElem?_cons_succ, bne_self_eq_false, Int.reduceEq, g11, g13, g19, hN, hlt, eI_get hlt']
    refine (has_c _ _ (by unfold Sm whoseS; omega)).go ?_
    rw [decide_eq_true (s.mem hx _ (List.getElem_mem hlt'))]
    simp only [go_sem, reduceIte, reduceCtorEq, Nat.reduceEqDiff, Nat.reduceBEq, Nat.reduceAdd, Nat.reduceMul, Nat.reduceLeDiff, List.getElem?_cons_zero, List.getElem?_cons_succ, bne_self_eq_false, Int.reduceEq, g11, g13, g19, hN, wsucc (show j < 4611686018427387904 by unfold whoseS at hlt'; omega), hlt']
    exact hE
  · simp only [go_sem, reduceIte, reduceCtorEq, Nat.reduceEqDiff, Nat.reduceBEq, Nat.reduceAdd, Nat.reduceMul, Nat.reduceLeDiff, List.getElem?_cons_zero, List.getElem?_cons_succ, bne_self_eq_false, Int.reduceEq, g11, g13, g19, hN, hlt]
    exact fin_ret 6 (by simp [upd_at, hN]) ⟨_, H, Settle.refl hE, by simp [upd_at], rfl⟩
theorem leaveOf_le {h : House} (hv : HV h) : (leaveOf h).length ≤ 62 := by
  rw [← leave_eq hv]; exact bestUpto_len _ _ _
set_option maxHeartbeats 1000000 in
theorem more_law (h : House) (hL : h.signs.length * 16 ≤ 140737488351232) (s : Sign) (n : Nat) (hn : n < 256) : Pure Tryz.prog 6 [eH h, .agg (eS s), .int .u8 (n : Int)] (.bool true) := by
  intro H
  refine fn_of hmix fc6 (by simp) ?_
  rw [ienv3]
  simp only [go_sem, reduceIte, reduceCtorEq, Nat.reduceEqDiff, Nat.reduceBEq, Nat.reduceAdd, Nat.reduceMul, Nat.reduceLeDiff, List.getElem?_cons_zero, List.getElem?_cons_succ, bne_self_eq_false, Int.reduceEq, ac6, eH, eS]
  refine v_box _ rfl fun b1 hb1 => ?_
  have e1 := (Ext.refl H).new hb1 (.box [.slice (h.table.women.map eW), .slice (h.table.pieces.map eP), i6 h.table.wrong, .slice (eI h.sick), i6 h.others, i6 h.last, .slice (h.touches.map eTo), .slice (h.boiled.map eB), .slice (h.signs.map eS)])
  simp only [go_sem, reduceIte, reduceCtorEq, Nat.reduceEqDiff, Nat.reduceBEq, Nat.reduceAdd, Nat.reduceMul, Nat.reduceLeDiff, List.getElem?_cons_zero, List.getElem?_cons_succ, bne_self_eq_false, Int.reduceEq]
  refine v_box _ rfl fun b2 hb2 => ?_
  have n12 : b1 ≠ b2 := fun h => by subst h; simp at hb2
  have e2 := e1.new hb2 (.box [i6 s.thing, .bool s.carries])
  simp only [go_sem, reduceIte, reduceCtorEq, Nat.reduceEqDiff, Nat.reduceBEq, Nat.reduceAdd, Nat.reduceMul, Nat.reduceLeDiff, List.getElem?_cons_zero, List.getElem?_cons_succ, bne_self_eq_false, Int.reduceEq, updH_ne _ _ n12]
  refine v_alloc fun b3 hb3 => ?_
  have n13 : b1 ≠ b3 := fun h => by subst h; simp [updH, n12] at hb3
  have n23 : b2 ≠ b3 := fun h => by subst h; simp at hb3
  have z3 : H b3 = none := e2.isNone hb3
  simp only [go_sem, reduceIte, reduceCtorEq, Nat.reduceEqDiff, Nat.reduceBEq, Nat.reduceAdd, Nat.reduceMul, Nat.reduceLeDiff, List.getElem?_cons_zero, List.getElem?_cons_succ, bne_self_eq_false, Int.reduceEq, updH_ne _ _ n12, updH_ne _ _ n13, updH_ne _ _ n23]
  rw [v_store]
  refine ⟨rfl, rfl, by simp [AV.cells, AV.isCell], _, updH_same _ _ _, by simp, ?_⟩
  rw [c_agg, show placeAt [.emp, .emp, .int .i64 0, .emp, .int .i64 0, .int .i64 0, .emp, .emp, .emp] 0 [.slice (h.table.women.map eW), .slice (h.table.pieces.map eP), i6 h.table.wrong, .slice (eI h.sick), i6 h.others, i6 h.last, .slice (h.touches.map eTo), .slice (h.boiled.map eB), .slice (h.signs.map eS)] = [.slice (h.table.women.map eW), .slice (h.table.pieces.map eP), i6 h.table.wrong, .slice (eI h.sick), i6 h.others, i6 h.last, .slice (h.touches.map eTo), .slice (h.boiled.map eB), .slice (h.signs.map eS)] from rfl]
  have e3 := (e2.new hb3 (.box [.emp, .emp, .int .i64 0, .emp, .int .i64 0, .int .i64 0, .emp, .emp, .emp])).upd z3 (.box [.slice (h.table.women.map eW), .slice (h.table.pieces.map eP), i6 h.table.wrong, .slice (eI h.sick), i6 h.others, i6 h.last, .slice (h.touches.map eTo), .slice (h.boiled.map eB), .slice (h.signs.map eS)])
  generalize hH3 : updH (updH (updH (updH H b1 (.box [.slice (h.table.women.map eW), .slice (h.table.pieces.map eP), i6 h.table.wrong, .slice (eI h.sick), i6 h.others, i6 h.last, .slice (h.touches.map eTo), .slice (h.boiled.map eB), .slice (h.signs.map eS)])) b2 (.box [i6 s.thing, .bool s.carries])) b3 (.box [.emp, .emp, .int .i64 0, .emp, .int .i64 0, .int .i64 0, .emp, .emp, .emp])) b3 (.box [.slice (h.table.women.map eW), .slice (h.table.pieces.map eP), i6 h.table.wrong, .slice (eI h.sick), i6 h.others, i6 h.last, .slice (h.touches.map eTo), .slice (h.boiled.map eB), .slice (h.signs.map eS)]) = H3 at e3 ⊢
  have B1 : H3 b1 = some (.box [.slice (h.table.women.map eW), .slice (h.table.pieces.map eP), i6 h.table.wrong, .slice (eI h.sick), i6 h.others, i6 h.last, .slice (h.touches.map eTo), .slice (h.boiled.map eB), .slice (h.signs.map eS)]) := by rw [← hH3, updH_ne _ _ n13, updH_ne _ _ n13, updH_ne _ _ n12]; exact updH_same _ _ _
  have B2 : H3 b2 = some (.box [i6 s.thing, .bool s.carries]) := by rw [← hH3, updH_ne _ _ n23, updH_ne _ _ n23]; exact updH_same _ _ _
  have B3 : H3 b3 = some (.box [.slice (h.table.women.map eW), .slice (h.table.pieces.map eP), i6 h.table.wrong, .slice (eI h.sick), i6 h.others, i6 h.last, .slice (h.touches.map eTo), .slice (h.boiled.map eB), .slice (h.signs.map eS)]) := by rw [← hH3]; exact updH_same _ _ _
  simp only [go_sem, reduceIte, reduceCtorEq, Nat.reduceEqDiff, Nat.reduceBEq, Nat.reduceAdd, Nat.reduceMul, Nat.reduceLeDiff, List.getElem?_cons_zero, List.getElem?_cons_succ, bne_self_eq_false, Int.reduceEq, B1, B2, B3, take_f', d_bsa]
  refine v_append (v := .emp) (es := []) (H0 := H) (.inl ⟨rfl, rfl⟩) e3 rfl (fun e he => by cases he) (eS_good h.signs) (eS_cell h.signs) (by simp; omega) (by simp; omega) ?_
  intro v1 H4 hg4 he4 hk4
  rw [List.nil_append] at hg4
  have C1 := hk4.box (sz := 2) (H0 := H) (es := []) (.inl ⟨rfl, rfl⟩) B1
  have C2 := hk4.box (sz := 2) (H0 := H) (es := []) (.inl ⟨rfl, rfl⟩) B2
  have C3 := hk4.box (sz := 2) (H0 := H) (es := []) (.inl ⟨rfl, rfl⟩) B3
  simp only [go_sem, reduceIte, reduceCtorEq, Nat.reduceEqDiff, Nat.reduceBEq, Nat.reduceAdd, Nat.reduceMul, Nat.reduceLeDiff, List.getElem?_cons_zero, List.getElem?_cons_succ, bne_self_eq_false, Int.reduceEq, C1, C2, C3, take_f', d_bsa]
  refine v_append hg4 he4 rfl (eS_good _) (eS_good [s]) (eS_cell [s]) (by simp; omega) (by simp; omega) ?_
  intro v2 H5 hg5 he5 hk5
  have D1 := hk5.box hg4 C1
  have D3 := hk5.box hg4 C3
  simp only [go_sem, reduceIte, reduceCtorEq, Nat.reduceEqDiff, Nat.reduceBEq, Nat.reduceAdd, Nat.reduceMul, Nat.reduceLeDiff, List.getElem?_cons_zero, List.getElem?_cons_succ, bne_self_eq_false, Int.reduceEq, D1, D3]
  rw [v_store]
  refine ⟨hg5.cellv.1, by rw [hg5.cellv.2.1]; rfl, by rw [hg5.cellv.2.1]; intro y hy; simp at hy; subst hy; exact hg5.cellv.2.2, _, D3, by simp, ?_⟩
  rw [hg5.cellv.2.1, show placeAt [.slice (h.table.women.map eW), .slice (h.table.pieces.map eP), i6 h.table.wrong, .slice (eI h.sick), i6 h.others, i6 h.last, .slice (h.touches.map eTo), .slice (h.boiled.map eB), .slice (h.signs.map eS)] (0 + 8) [v2] = [.slice (h.table.women.map eW), .slice (h.table.pieces.map eP), i6 h.table.wrong, .slice (eI h.sick), i6 h.others, i6 h.last, .slice (h.touches.map eTo), .slice (h.boiled.map eB), v2] from rfl]
  have e6 := he5.upd z3 (.box [.slice (h.table.women.map eW), .slice (h.table.pieces.map eP), i6 h.table.wrong, .slice (eI h.sick), i6 h.others, i6 h.last, .slice (h.touches.map eTo), .slice (h.boiled.map eB), v2])
  generalize hH6 : updH H5 b3 (.box [.slice (h.table.women.map eW), .slice (h.table.pieces.map eP), i6 h.table.wrong, .slice (eI h.sick), i6 h.others, i6 h.last, .slice (h.touches.map eTo), .slice (h.boiled.map eB), v2]) = H6 at e6 ⊢
  have F1 : H6 b1 = some (.box [.slice (h.table.women.map eW), .slice (h.table.pieces.map eP), i6 h.table.wrong, .slice (eI h.sick), i6 h.others, i6 h.last, .slice (h.touches.map eTo), .slice (h.boiled.map eB), .slice (h.signs.map eS)]) := by rw [← hH6, updH_ne _ _ n13]; exact D1
  have F3 : H6 b3 = some (.box [.slice (h.table.women.map eW), .slice (h.table.pieces.map eP), i6 h.table.wrong, .slice (eI h.sick), i6 h.others, i6 h.last, .slice (h.touches.map eTo), .slice (h.boiled.map eB), v2]) := by rw [← hH6]; exact updH_same _ _ _
  have wk : Wk (.agg [.slice (h.table.women.map eW), .slice (h.table.pieces.map eP), i6 h.table.wrong, .slice (eI h.sick), i6 h.others, i6 h.last, .slice (h.touches.map eTo), .slice (h.boiled.map eB), v2]) (eH (reS h (h.signs ++ [s]))) := by
    have hw := hg5.wk
    refine wk9 (Wk.refl _) (Wk.refl _) (Wk.refl _) (Wk.refl _) (Wk.refl _) (Wk.refl _) (Wk.refl _) (Wk.refl _) ?_
    show Wk v2 (.slice ((h.signs ++ [s]).map eS))
    rw [List.map_append]; exact hw
  simp only [go_sem, reduceIte, reduceCtorEq, Nat.reduceEqDiff, Nat.reduceBEq, Nat.reduceAdd, Nat.reduceMul, Nat.reduceLeDiff, List.getElem?_cons_zero, List.getElem?_cons_succ, bne_self_eq_false, Int.reduceEq, F1, F3]
  refine (ready_c h).go ?_
  cases c1 : readyH h
  · simp only [go_sem, reduceIte, reduceCtorEq, Nat.reduceEqDiff, Nat.reduceBEq, Nat.reduceAdd, Nat.reduceMul, Nat.reduceLeDiff, List.getElem?_cons_zero, List.getElem?_cons_succ, bne_self_eq_false, Int.reduceEq]
    refine awake_c.go ?_
    simp only [go_sem, reduceIte, reduceCtorEq, Nat.reduceEqDiff, Nat.reduceBEq, Nat.reduceAdd, Nat.reduceMul, Nat.reduceLeDiff, List.getElem?_cons_zero, List.getElem?_cons_succ, bne_self_eq_false, Int.reduceEq]
    exact fin_ret 6 (by simp [upd_at]) ⟨_, H, Settle.refl e6, by simp [upd_at], rfl⟩
  simp only [go_sem, reduceIte, reduceCtorEq, Nat.reduceEqDiff, Nat.reduceBEq, Nat.reduceAdd, Nat.reduceMul, Nat.reduceLeDiff, List.getElem?_cons_zero, List.getElem?_cons_succ, bne_self_eq_false, Int.reduceEq, F3]
  refine ((ready_c (reS h (h.signs ++ [s]))).wk wk).go ?_
  cases c2 : readyH (reS h (h.signs ++ [s]))
  · simp only [go_sem, reduceIte, reduceCtorEq, Nat.reduceEqDiff, Nat.reduceBEq, Nat.reduceAdd, Nat.reduceMul, Nat.reduceLeDiff, List.getElem?_cons_zero, List.getElem?_cons_succ, bne_self_eq_false, Int.reduceEq]
    refine awake_c.go ?_
    simp only [go_sem, reduceIte, reduceCtorEq, Nat.reduceEqDiff, Nat.reduceBEq, Nat.reduceAdd, Nat.reduceMul, Nat.reduceLeDiff, List.getElem?_cons_zero, List.getElem?_cons_succ, bne_self_eq_false, Int.reduceEq]
    exact fin_ret 6 (by simp [upd_at]) ⟨_, H, Settle.refl e6, by simp [upd_at], rfl⟩
  obtain ⟨hm, hc⟩ := ready_ok c1
  obtain ⟨xm, xc⟩ := ready_ok c2
  have hv := hv_of hm.tsm hm.sk hc
  have xv := hv_of xm.tsm xm.sk xc
  obtain ⟨l1, l2⟩ := leave_more hv xv
  have l3 := leaveOf_le hv
  obtain ⟨f1, f2, f3⟩ := hourK_facts hv.ok hn
  have hh := hourK_ok hv.ok n
  simp only [go_sem, reduceIte, reduceCtorEq, Nat.reduceEqDiff, Nat.reduceBEq, Nat.reduceAdd, Nat.reduceMul, Nat.reduceLeDiff, List.getElem?_cons_zero, List.getElem?_cons_succ, bne_self_eq_false, Int.reduceEq, F1]
  refine (house_c h hm).go ?_
  simp only [go_sem, reduceIte, reduceCtorEq, Nat.reduceEqDiff, Nat.reduceBEq, Nat.reduceAdd, Nat.reduceMul, Nat.reduceLeDiff, List.getElem?_cons_zero, List.getElem?_cons_succ, bne_self_eq_false, Int.reduceEq]
  refine (leave_c h hm.tsm hm.sk).go ?_
  simp only [go_sem, reduceIte, reduceCtorEq, Nat.reduceEqDiff, Nat.reduceBEq, Nat.reduceAdd, Nat.reduceMul, Nat.reduceLeDiff, List.getElem?_cons_zero, List.getElem?_cons_succ, bne_self_eq_false, Int.reduceEq, listR, hc, F3]
  refine ((house_c _ xm).wk wk).go ?_
  simp only [go_sem, reduceIte, reduceCtorEq, Nat.reduceEqDiff, Nat.reduceBEq, Nat.reduceAdd, Nat.reduceMul, Nat.reduceLeDiff, List.getElem?_cons_zero, List.getElem?_cons_succ, bne_self_eq_false, Int.reduceEq]
  refine (leave_c _ xm.tsm xm.sk).go ?_
  have q1 : ¬ ((leaveOf (reS h (h.signs ++ [s]))).length : Int) < ((leaveOf h).length : Int) := by omega
  have q2 : ¬ ((leaveOf h).length : Int) + 1 < ((leaveOf (reS h (h.signs ++ [s]))).length : Int) := by omega
  simp only [go_sem, reduceIte, reduceCtorEq, Nat.reduceEqDiff, Nat.reduceBEq, Nat.reduceAdd, Nat.reduceMul, Nat.reduceLeDiff, List.getElem?_cons_zero, List.getElem?_cons_succ, bne_self_eq_false, Int.reduceEq, listR, xc, q1, w64 (show -9223372036854775808 ≤ ((leaveOf h).length : Int) + 1 by omega) (show ((leaveOf h).length : Int) + 1 < 9223372036854775808 by omega), q2]
  by_cases q3 : (0 : Int) < ((leaveOf (reS h (h.signs ++ [s]))).length : Int)
  · simp only [go_sem, reduceIte, reduceCtorEq, Nat.reduceEqDiff, Nat.reduceBEq, Nat.reduceAdd, Nat.reduceMul, Nat.reduceLeDiff, List.getElem?_cons_zero, List.getElem?_cons_succ, bne_self_eq_false, Int.reduceEq, q3]
    refine pgo_call awake_c ?_
    simp only [go_sem, reduceIte, reduceCtorEq, Nat.reduceEqDiff, Nat.reduceBEq, Nat.reduceAdd, Nat.reduceMul, Nat.reduceLeDiff, List.getElem?_cons_zero, List.getElem?_cons_succ, bne_self_eq_false, Int.reduceEq]
    exact fin_ret 6 (by simp [upd_at]) ⟨_, H, Settle.refl e6, by simp [upd_at], rfl⟩
  have xt := leave_nil xv (by omega)
  simp only [go_sem, reduceIte, reduceCtorEq, Nat.reduceEqDiff, Nat.reduceBEq, Nat.reduceAdd, Nat.reduceMul, Nat.reduceLeDiff, List.getElem?_cons_zero, List.getElem?_cons_succ, bne_self_eq_false, Int.reduceEq, q3, F1, F3, f1, f2, f3]
  refine pgo_call ((closer_c (sub_more h s) xm hm xc hc xt hh hh).wk wk) ?_
  simp only [go_sem, reduceIte, reduceCtorEq, Nat.reduceEqDiff, Nat.reduceBEq, Nat.reduceAdd, Nat.reduceMul, Nat.reduceLeDiff, List.getElem?_cons_zero, List.getElem?_cons_succ, bne_self_eq_false, Int.reduceEq]
  refine pgo_call awake_c ?_
  simp only [go_sem, reduceIte, reduceCtorEq, Nat.reduceEqDiff, Nat.reduceBEq, Nat.reduceAdd, Nat.reduceMul, Nat.reduceLeDiff, List.getElem?_cons_zero, List.getElem?_cons_succ, bne_self_eq_false, Int.reduceEq]
  exact fin_ret 6 (by simp [upd_at]) ⟨_, H, Settle.refl e6, by simp [upd_at], rfl⟩
end Go.Lift

