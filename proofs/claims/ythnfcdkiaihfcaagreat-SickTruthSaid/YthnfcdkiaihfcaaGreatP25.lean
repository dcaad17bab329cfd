/- Part 25 of the proof: the tools and contracts. Conditions: none. -/
import Derived.Test.YthnfcdkiaihfcaaGreatP24
set_option linter.unusedSimpArgs false
set_option linter.unusedVariables false
namespace Go.Lift
open Go Go.Proofs Go.Proofs.YthnfcdkiaihfcaaGreat
theorem lift_list {α : Type} {f : α → List AV} {ss : List Sh} (h : ∀ e, FitsL ss e → ∃ a, e = f a) : ∀ es : List (List AV), (∀ e ∈ es, FitsL ss e) → ∃ l : List α, es = l.map f
  | [], _ => ⟨[], rfl⟩
  | e :: es, k => by
    obtain ⟨a, rfl⟩ := h e (k e List.mem_cons_self)
    obtain ⟨l, rfl⟩ := lift_list h es (fun x hx => k x (List.mem_cons_of_mem _ hx))
    exact ⟨a :: l, rfl⟩
theorem fit_int {k : IntKind} {x : AV} (h : Fits (.int k) x) : ∃ n, x = .int k n ∧ (Lit.int k n).wf = true := by cases h with | int _ n hn => exact ⟨n, rfl, hn⟩
theorem fit_i6 {x : AV} (h : Fits (.int .i64) x) : ∃ n, x = i6 n := by cases h with | int _ n hn => exact ⟨n, rfl⟩
theorem fit_slice {α : Type} {f : α → List AV} {ss : List Sh} (h : ∀ e, FitsL ss e → ∃ a, e = f a) {x : AV} (hx : Fits (.slice ss) x) : ∃ l : List α, x = .slice (l.map f) := by
  cases hx with
  | slice _ es hes => obtain ⟨l, rfl⟩ := lift_list h es hes; exact ⟨l, rfl⟩
theorem fitL_int {k : IntKind} (e : List AV) (h : FitsL [.int k] e) : ∃ n : Int, e = [.int k n] ∧ (Lit.int k n).wf = true := by
  cases h with
  | cons _ _ x _ h t =>
    cases t
    obtain ⟨n, rfl, hn⟩ := fit_int h
    exact ⟨n, rfl, hn⟩
theorem fit_eI {x : AV} (hx : Fits (.slice [.int .i64]) x) : ∃ l : List Int, x = .slice (eI l) := fit_slice (f := fun n => [i6 n]) (fun e he => by obtain ⟨n, rfl, _⟩ := fitL_int e he; exact ⟨n, rfl⟩) hx
theorem fit_eW {x : AV} (hx : Fits (.slice [.int .i64, .int .i64, .int .i64]) x) : ∃ l : List Woman, x = .slice (l.map eW) := fit_slice (fun e he => by
  cases he with
  | cons _ _ x1 _ h1 t =>
    cases t with
    | cons _ _ x2 _ h2 t =>
      cases t with
      | cons _ _ x3 _ h3 t =>
        cases t
        obtain ⟨a, rfl⟩ := fit_i6 h1
        obtain ⟨b, rfl⟩ := fit_i6 h2
        obtain ⟨c, rfl⟩ := fit_i6 h3
        exact ⟨⟨a, b, c⟩, rfl⟩) hx
theorem fit_eP {x : AV} (hx : Fits (.slice [.slice [.int .i64], .int .i64]) x) : ∃ l : List Piece, x = .slice (l.map eP) := fit_slice (fun e he => by
  cases he with
  | cons _ _ x1 _ h1 t =>
    cases t with
    | cons _ _ x2 _ h2 t =>
      cases t
      obtain ⟨a, rfl⟩ := fit_eI h1
      obtain ⟨b, rfl⟩ := fit_i6 h2
      exact ⟨⟨a, b⟩, rfl⟩) hx
theorem fit_eB {x : AV} (hx : Fits (.slice [.int .i64, .int .i64]) x) : ∃ l : List Boiling, x = .slice (l.map eB) := fit_slice (fun e he => by
  cases he with
  | cons _ _ x1 _ h1 t =>
    cases t with
    | cons _ _ x2 _ h2 t =>
      cases t
      obtain ⟨a, rfl⟩ := fit_i6 h1
      obtain ⟨b, rfl⟩ := fit_i6 h2
      exact ⟨⟨a, b⟩, rfl⟩) hx
theorem fitL_eS (e : List AV) (he : FitsL [.int .i64, .bool] e) : ∃ s, e = eS s := by
  cases he with
  | cons _ _ x1 _ h1 t =>
    cases t with
    | cons _ _ x2 _ h2 t =>
      cases t
      obtain ⟨a, rfl⟩ := fit_i6 h1
      cases h2 with
      | bool b => exact ⟨⟨a, b⟩, rfl⟩
theorem fit_eS {x : AV} (hx : Fits (.slice [.int .i64, .bool]) x) : ∃ l : List Sign, x = .slice (l.map eS) := fit_slice fitL_eS hx
theorem fit_eTo {x : AV} (hx : Fits (.slice [.int .i64, .int .i64, .int .i64, .int .i64]) x) : ∃ l : List Touch, x = .slice (l.map eTo) := fit_slice (fun e he => by
  cases he with
  | cons _ _ x1 _ h1 t =>
    cases t with
    | cons _ _ x2 _ h2 t =>
      cases t with
      | cons _ _ x3 _ h3 t =>
        cases t with
        | cons _ _ x4 _ h4 t =>
          cases t
          obtain ⟨a, rfl⟩ := fit_i6 h1
          obtain ⟨b, rfl⟩ := fit_i6 h2
          obtain ⟨c, rfl⟩ := fit_i6 h3
          obtain ⟨d, rfl⟩ := fit_i6 h4
          exact ⟨⟨a, b, c, d⟩, rfl⟩) hx
def houseSh : List Sh := [.slice [.int .i64, .int .i64, .int .i64], .slice [.slice [.int .i64], .int .i64], .int .i64, .slice [.int .i64], .int .i64, .int .i64, .slice [.int .i64, .int .i64, .int .i64, .int .i64], .slice [.int .i64, .int .i64], .slice [.int .i64, .bool]]
theorem fit_house {xs : List AV} (h : FitsL houseSh xs) : ∃ h : House, AV.agg xs = eH h := by
  unfold houseSh at h
  cases h with
  | cons _ _ x1 _ h1 t =>
  cases t with
  | cons _ _ x2 _ h2 t =>
  cases t with
  | cons _ _ x3 _ h3 t =>
  cases t with
  | cons _ _ x4 _ h4 t =>
  cases t with
  | cons _ _ x5 _ h5 t =>
  cases t with
  | cons _ _ x6 _ h6 t =>
  cases t with
  | cons _ _ x7 _ h7 t =>
  cases t with
  | cons _ _ x8 _ h8 t =>
  cases t with
  | cons _ _ x9 _ h9 t =>
  cases t
  obtain ⟨a1, rfl⟩ := fit_eW h1
  obtain ⟨a2, rfl⟩ := fit_eP h2
  obtain ⟨a3, rfl⟩ := fit_i6 h3
  obtain ⟨a4, rfl⟩ := fit_eI h4
  obtain ⟨a5, rfl⟩ := fit_i6 h5
  obtain ⟨a6, rfl⟩ := fit_i6 h6
  obtain ⟨a7, rfl⟩ := fit_eTo h7
  obtain ⟨a8, rfl⟩ := fit_eB h8
  obtain ⟨a9, rfl⟩ := fit_eS h9
  exact ⟨⟨⟨a1, a2, a3⟩, a4, a5, a6, a7, a8, a9⟩, rfl⟩
theorem sh31 : shapes Tryz.prog 9 31 = some houseSh := by kernel_rfl
theorem sh63 : shapes Tryz.prog 9 63 = some [.slice [.int .i64], .slice [.int .i64]] := by kernel_rfl
theorem sh3 : shapes Tryz.prog 9 3 = some [.int .i64] := by kernel_rfl
theorem sh26 : shapes Tryz.prog 9 26 = some [.slice [.int .i64]] := by kernel_rfl
theorem sh5 : shapes Tryz.prog 9 5 = some [.int .u8] := by kernel_rfl
theorem sh60 : shapes Tryz.prog 9 60 = some [.int .u16] := by kernel_rfl
theorem sh77 : shapes Tryz.prog 9 77 = some [.int .i64, .bool] := by kernel_rfl
theorem sh111 : shapes Tryz.prog 9 111 = some [.slice [.int .u16]] := by kernel_rfl
theorem st31 : isSt Tryz.prog 31 = true := by kernel_rfl
theorem st63 : isSt Tryz.prog 63 = true := by kernel_rfl
theorem st77 : isSt Tryz.prog 77 = true := by kernel_rfl
theorem st3 : isSt Tryz.prog 3 = false := by kernel_rfl
theorem st26 : isSt Tryz.prog 26 = false := by kernel_rfl
theorem st5 : isSt Tryz.prog 5 = false := by kernel_rfl
theorem st60 : isSt Tryz.prog 60 = false := by kernel_rfl
theorem st111 : isSt Tryz.prog 111 = false := by kernel_rfl
theorem arg_st {P : Program} {t : TypeId} {x : AV} {ss : List Sh} (h : ArgOf P t x) (hs : shapes P 9 t = some ss) (ht : isSt P t = true) : ∃ xs, FitsL ss xs ∧ x = .agg xs := by
  obtain ⟨ss', xs, h1, h2, h3⟩ := h
  rw [hs] at h1; cases h1
  rcases h3 with ⟨_, h3⟩ | ⟨h3, _⟩
  · exact ⟨xs, h2, h3⟩
  · rw [ht] at h3; cases h3
theorem arg_one {P : Program} {t : TypeId} {x : AV} {s : Sh} (h : ArgOf P t x) (hs : shapes P 9 t = some [s]) (ht : isSt P t = false) : Fits s x := by
  obtain ⟨ss', xs, h1, h2, h3⟩ := h
  rw [hs] at h1; cases h1
  rcases h3 with ⟨h3, _⟩ | ⟨_, rfl⟩
  · rw [ht] at h3; cases h3
  · cases h2 with
    | cons _ _ _ _ h _ => exact h
theorem arg31 {x : AV} (h : ArgOf Tryz.prog 31 x) : ∃ h : House, x = eH h := by
  obtain ⟨xs, h1, rfl⟩ := arg_st h sh31 st31
  exact fit_house h1
theorem arg63 {x : AV} (h : ArgOf Tryz.prog 63 x) : ∃ c : Course, x = eC c := by
  obtain ⟨xs, h1, rfl⟩ := arg_st h sh63 st63
  cases h1 with
  | cons _ _ x1 _ h1 t =>
  cases t with
  | cons _ _ x2 _ h2 t =>
  cases t
  obtain ⟨a, rfl⟩ := fit_eI h1
  obtain ⟨b, rfl⟩ := fit_eI h2
  exact ⟨⟨a, b⟩, rfl⟩
theorem arg77 {x : AV} (h : ArgOf Tryz.prog 77 x) : ∃ s : Sign, x = .agg (eS s) := by
  obtain ⟨xs, h1, rfl⟩ := arg_st h sh77 st77
  obtain ⟨s, rfl⟩ := fitL_eS _ h1
  exact ⟨s, rfl⟩
theorem arg3 {x : AV} (h : ArgOf Tryz.prog 3 x) : ∃ n : Int, x = i6 n ∧ (Lit.int .i64 n).wf = true := fit_int (arg_one h sh3 st3)
theorem arg26 {x : AV} (h : ArgOf Tryz.prog 26 x) : ∃ l : List Int, x = .slice (eI l) := fit_eI (arg_one h sh26 st26)
theorem arg5 {x : AV} (h : ArgOf Tryz.prog 5 x) : ∃ n : Nat, x = .int .u8 (n : Int) ∧ n < 256 := by
  obtain ⟨n, rfl, hn⟩ := fit_int (arg_one h sh5 st5)
  simp only [Lit.wf, Bool.and_eq_true, decide_eq_true_eq] at hn
  have hn1 : (0 : Int) ≤ n := hn.1
  have hn2 : n ≤ (255 : Int) := hn.2
  refine ⟨n.toNat, by rw [Int.toNat_of_nonneg (by omega)], by omega⟩
theorem arg60 {x : AV} (h : ArgOf Tryz.prog 60 x) : ∃ n : Nat, x = .int .u16 (n : Int) ∧ n < 65536 := by
  obtain ⟨n, rfl, hn⟩ := fit_int (arg_one h sh60 st60)
  simp only [Lit.wf, Bool.and_eq_true, decide_eq_true_eq] at hn
  have hn1 : (0 : Int) ≤ n := hn.1
  have hn2 : n ≤ (65535 : Int) := hn.2
  refine ⟨n.toNat, by rw [Int.toNat_of_nonneg (by omega)], by omega⟩
def eU (l : List Nat) : List (List AV) := l.map fun n : Nat => [AV.int .u16 (n : Int)]
theorem u16_list : ∀ es : List (List AV), (∀ e ∈ es, FitsL [.int .u16] e) → ∃ l : List Nat, es = eU l ∧ ∀ n ∈ l, n < 65536
  | [], _ => ⟨[], rfl, by simp⟩
  | e :: es, k => by
    obtain ⟨n, rfl, hn⟩ := fitL_int e (k e List.mem_cons_self)
    obtain ⟨l, rfl, hl⟩ := u16_list es (fun x hx => k x (List.mem_cons_of_mem _ hx))
    simp only [Lit.wf, Bool.and_eq_true, decide_eq_true_eq] at hn
    have hn1 : (0 : Int) ≤ n := hn.1
    have hn2 : n ≤ (65535 : Int) := hn.2
    refine ⟨n.toNat :: l, ?_, ?_⟩
    · show _ = [AV.int .u16 ((n.toNat : Nat) : Int)] :: _
      rw [Int.toNat_of_nonneg (by omega)]; rfl
    · intro m hm
      rcases List.mem_cons.1 hm with rfl | hm
      · omega
      · exact hl m hm
theorem arg111 {x : AV} (h : ArgOf Tryz.prog 111 x) : ∃ l : List Nat, x = .slice (eU l) ∧ ∀ n ∈ l, n < 65536 := by
  have := arg_one h sh111 st111
  cases this with
  | slice _ es hes => obtain ⟨l, rfl, hl⟩ := u16_list es hes; exact ⟨l, rfl, hl⟩
end Go.Lift

