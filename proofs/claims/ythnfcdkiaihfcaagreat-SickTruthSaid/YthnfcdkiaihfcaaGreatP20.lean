/- Part 20 of the proof: the tools and contracts. Conditions: none. -/
import Derived.Test.YthnfcdkiaihfcaaGreatP19
set_option linter.unusedVariables false
set_option linter.unusedSimpArgs false
namespace Go.Lift
open Go

/-- All that was private still is, as it was. -/
def Ext (H H' : AHeap) : Prop := ∀ b o, H b = some o → H' b = some o
theorem Ext.refl (H : AHeap) : Ext H H := fun _ _ h => h
theorem Ext.trans {H H1 H2 : AHeap} (a : Ext H H1) (b : Ext H1 H2) : Ext H H2 := fun x o h => b x o (a x o h)
theorem Ext.isNone {H H' : AHeap} (e : Ext H H') {b : Nat} (h : H' b = none) : H b = none := by
  cases hb : H b with
  | none => rfl
  | some o => rw [e b o hb] at h; cases h
theorem Ext.new {H H' : AHeap} (e : Ext H H') {b : Nat} (h : H' b = none) (o : AObj) : Ext H (updH H' b o) := fun x o' hx => by
  by_cases hxb : x = b
  · subst hxb; rw [e.isNone h] at hx; cases hx
  · rw [updH_ne _ _ hxb]; exact e x o' hx
theorem Ext.upd {H H' : AHeap} (e : Ext H H') {b : Nat} (h : H b = none) (o : AObj) : Ext H (updH H' b o) := fun x o' hx => by
  by_cases hxb : x = b
  · subst hxb; rw [h] at hx; cases hx
  · rw [updH_ne _ _ hxb]; exact e x o' hx
theorem Ext.del {H H' : AHeap} (e : Ext H H') {b : Nat} (h : H b = none) : Ext H (delH H' b) := fun x o' hx => by
  by_cases hxb : x = b
  · subst hxb; rw [h] at hx; cases hx
  · rw [delH_ne _ hxb]; exact e x o' hx

def afor (Q : AEx → Env → AHeap → Prop) (n : Nat) (I : Nat → Env → AHeap → Prop) (j : Nat) : AEx → Env → AHeap → Prop
  | .norm, env, H => j < n ∧ I (j + 1) env H
  | ex, env, H => Q ex env H
section
variable {P : Program} {N : Nat} {Q : AEx → Env → AHeap → Prop} {env : Env} {H : AHeap} {b : ACode}
theorem q_for_n {n j : Nat} {I : Nat → Env → AHeap → Prop} : afor Q n I j .norm env H = (j < n ∧ I (j + 1) env H) := _root_.id rfl
theorem q_for_r {n j : Nat} {I : Nat → Env → AHeap → Prop} : afor Q n I j .ret env H = Q .ret env H := _root_.id rfl
theorem q_for_e {n j id : Nat} {I : Nat → Env → AHeap → Prop} : afor Q n I j (.exit id) env H = Q (.exit id) env H := _root_.id rfl
theorem aexec_mono : ∀ (c : ACode) {Q Q' : AEx → Env → AHeap → Prop}, (∀ ex env H, Q ex env H → Q' ex env H) → ∀ {env H}, aexec P N c Q env H → aexec P N c Q' env H := by
  have hops : ∀ (l : List AOp) {K K' : Env → AHeap → Prop}, (∀ env H, K env H → K' env H) → ∀ {env H}, aops P l K env H → aops P l K' env H := by
    intro l
    induction l with
    | nil => intro K K' hK env H h; exact hK _ _ h
    | cons o l ih =>
      intro K K' hK env H h
      simp only [aops, aop1] at h ⊢
      split at h
      · exact aopV_mono (fun r H' h => ih hK h) h
      · split at h
        · split at h
          · rename_i hb; rw [if_pos hb]; exact aopV_mono (fun r H' h => ih hK h) h
          · rename_i hb; rw [if_neg hb]; exact ih hK h
        · exact ih hK h
        · exact h
  have hatl : ∀ (t : ATr) {K K' : Env → AHeap → Prop}, (∀ env H, K env H → K' env H) → ∀ {env H}, atl P t K env H → atl P t K' env H := by
    intro t
    induction t with
    | done => intro K K' hK env H h; exact hK _ _ h
    | one o us t ih =>
      intro K K' hK env H h
      simp only [atl, aop1] at h ⊢
      split at h
      · exact aopV_mono (fun r H' h => ⟨h.1, ih hK h.2⟩) h
      · split at h
        · split at h
          · rename_i hb; rw [if_pos hb]; exact aopV_mono (fun r H' h => ⟨h.1, ih hK h.2⟩) h
          · rename_i hb; rw [if_neg hb]; exact ⟨h.1, ih hK h.2⟩
        · exact ⟨h.1, ih hK h.2⟩
        · exact h
    | alt a b iha ihb => intro K K' hK env H h; exact ⟨iha hK h.1, ihb hK h.2⟩
  have hapre : ∀ (l : List (Bool × AOp)) {K K' : Env → Prop} {H : AHeap}, (∀ env, K env → K' env) → ∀ {env}, apre P l env H K → apre P l env H K' := by
    intro l
    induction l with
    | nil => intro K K' H hK env h; exact hK _ h
    | cons p l ih =>
      obtain ⟨fr, u⟩ := p
      intro K K' H hK env h
      simp only [apre] at h ⊢
      split at h
      · obtain ⟨r, h1, h2⟩ := h; exact ⟨r, h1, ih hK h2⟩
      · exact ih hK h
      · exact h
  intro c
  induction c with
  | skip => intro Q Q' hQ env H h; exact hQ _ _ _ h
  | ret => intro Q Q' hQ env H h; exact hQ _ _ _ h
  | label => intro Q Q' hQ env H h; exact hQ _ _ _ h
  | exit id => intro Q Q' hQ env H h; exact hQ _ _ _ h
  | seq a b iha ihb =>
    intro Q Q' hQ env H h
    refine iha ?_ h
    intro ex env' H' h'
    cases ex with
    | norm => exact ihb hQ h'
    | exit id => exact hQ _ _ _ h'
    | ret => exact hQ _ _ _ h'
  | cond c a b iha ihb =>
    intro Q Q' hQ env H h
    obtain ⟨t, h1, h2, h3⟩ := h
    exact ⟨t, h1, fun e => iha hQ (h2 e), fun e => ihb hQ (h3 e)⟩
  | loop b ih =>
    intro Q Q' hQ env H h
    obtain ⟨I, h0, h1⟩ := h
    refine ⟨I, h0, fun k env H hk => ih ?_ (h1 k env H hk)⟩
    intro ex env' H' h'
    cases ex with
    | norm => exact h'
    | exit id => exact hQ _ _ _ h'
    | ret => exact hQ _ _ _ h'
  | block id b ih =>
    intro Q Q' hQ env H h
    refine ih ?_ h
    intro ex env' H' h'
    cases ex with
    | norm => exact hQ _ _ _ h'
    | exit id' =>
      simp only [ablock] at h' ⊢
      split at h'
      · rename_i hb; rw [if_pos hb]; exact hQ _ _ _ h'
      · rename_i hb; rw [if_neg hb]; exact hQ _ _ _ h'
    | ret => exact hQ _ _ _ h'
  | ops l => intro Q Q' hQ env H h; exact hops l (hQ _) h
  | draw p t => intro Q Q' hQ env H h; exact hapre p (fun env h => hatl t (hQ _) h) h
  | range g ps ga gb =>
    intro Q Q' hQ env H h
    obtain ⟨h0, gf, fs, cs, he, h⟩ := h
    refine ⟨h0, gf, fs, cs, he, fun r l hr hl hne => (h r l hr hl hne).mono ?_⟩
    rintro _ H2 ⟨st, pend, env', ps', ga', gb', d, h1, h2, ex, h3, h4⟩
    exact ⟨st, pend, env', ps', ga', gb', d, h1, h2, ex, h3, hQ _ _ _ h4⟩

theorem x_for (n : Nat) (I : Nat → Env → AHeap → Prop) (h0 : I 0 env H) (hs : ∀ j env H, j ≤ n → I j env H → aexec P N b (afor Q n I j) env H) : aexec P N (.loop b) Q env H := by
  refine ⟨fun k env H => ∃ j, j ≤ n ∧ k = n - j ∧ I j env H, ⟨n, 0, by omega, by omega, h0⟩, ?_⟩
  rintro k env H ⟨j, hj, rfl, hI⟩
  refine aexec_mono b ?_ (hs j env H hj hI)
  intro ex env' H' h'
  cases ex with
  | norm => exact ⟨n - (j + 1), by have := h'.1; omega, j + 1, by have := h'.1; omega, rfl, h'.2⟩
  | exit id => exact h'
  | ret => exact h'
end

/-- A list that grows in new memory: not there when it began (H0). -/
def Grown (sz : Nat) (H0 H : AHeap) (v : AV) (es : List (List AV)) : Prop :=
  (v = .emp ∧ es = []) ∨ ∃ b cap, v = .grow b cap es ∧ H0 b = none ∧ H b = some (.tail es.length sz cap)

/-- What is private is kept, but for the place of a growing list. -/
def Kept (H H' : AHeap) (v : AV) : Prop := ∀ x o, H x = some o → (∀ b cap es, v = .grow b cap es → x ≠ b) → H' x = some o

theorem Grown.asSlice {sz : Nat} {H0 H : AHeap} {v : AV} {es : List (List AV)} (g : Grown sz H0 H v es) : asSlice v = some es := by
  rcases g with ⟨rfl, rfl⟩ | ⟨b, cap, rfl, _⟩ <;> rfl

theorem v_append {P : Program} {R : AV → AHeap → Prop} {sz bytes : Nat} {H0 H : AHeap} {v y : AV} {es es2 : List (List AV)} (g : Grown sz H0 H v es) (e : Ext H0 H) (hy : asSlice y = some es2) (hg : goodEls sz es) (hg2 : goodEls sz es2) (hc : cellEls es2)
    (hb : (es.length + es2.length) * bytes ≤ 140737488355328) (hb' : es.length + es2.length ≤ 9223372036854775807)
    (h : ∀ v' H', Grown sz H0 H' v' (es ++ es2) → Ext H0 H' → Kept H H' v → R v' H') : aopV P (.append sz bytes) [v, y] H R := by
  refine ⟨es2, hy, hg2, hc, ?_⟩
  rcases g with ⟨rfl, rfl⟩ | ⟨b, cap, rfl, hb0, hb1⟩
  · refine ⟨fun he => ?_, fun he => ⟨by simpa using hb, by simpa using hb', fun b cap hbn hcp => .inl ?_⟩⟩
    · subst he; exact h _ _ (.inl ⟨rfl, rfl⟩) e (fun x o hx _ => hx)
    · refine h _ _ (.inr ⟨b, cap, rfl, e.isNone hbn, by simp⟩) (e.new hbn _) (fun x o hx _ => ?_)
      rw [updH_ne _ _ (fun hxb => by subst hxb; rw [hbn] at hx; cases hx)]; exact hx
  · refine ⟨hb1, hg, hb, hb', fun b' cap' hb'' => ?_⟩
    have hbn : H0 b' = none := by
      rcases hb'' with rfl | hbn
      · exact hb0
      · exact e.isNone hbn
    refine h _ _ (.inr ⟨b', cap', rfl, hbn, by simp⟩) ((e.del hb0).upd hbn _) (fun x o hx hne => ?_)
    have h1 := hne b cap es rfl
    rw [updH_ne _ _ (fun hxb => ?_), delH_ne _ h1]
    · exact hx
    · subst hxb
      rcases hb'' with rfl | hbn2
      · exact h1 rfl
      · rw [hbn2] at hx; cases hx

theorem Grown.weaken {sz : Nat} {H0 H : AHeap} {v : AV} {es : List (List AV)} (g : Grown sz H0 H v es) (e : Ext H0 H) : Settle H v H0 (.slice es) := by
  refine ⟨e, fun w u hH hr => ?_⟩
  rcases g with ⟨rfl, rfl⟩ | ⟨b, cap, rfl, hb0, hb1⟩
  · exact Rep.weaken_emp (hr.mono (Evolve.drop e))
  · exact Rep.weaken_slice (hr.mono (Evolve.drop e))

theorem Grown.of {sz : Nat} {H0 H H' : AHeap} {v : AV} {es : List (List AV)} (g : Grown sz H0 H v es) (h : ∀ b n s c, H b = some (.tail n s c) → H' b = some (.tail n s c)) : Grown sz H0 H' v es := by
  rcases g with ⟨rfl, rfl⟩ | ⟨b, cap, rfl, hb0, hb1⟩
  · exact .inl ⟨rfl, rfl⟩
  · exact .inr ⟨b, cap, rfl, hb0, h _ _ _ _ hb1⟩
theorem Grown.new {sz : Nat} {H0 H : AHeap} {v : AV} {es : List (List AV)} (g : Grown sz H0 H v es) {x : Nat} (hx : H x = none) (o : AObj) : Grown sz H0 (updH H x o) v es :=
  g.of fun b n s c h => by rw [updH_ne _ _ (fun e => by subst e; rw [hx] at h; cases h)]; exact h
theorem Grown.store {sz : Nat} {H0 H : AHeap} {v : AV} {es : List (List AV)} (g : Grown sz H0 H v es) {x : Nat} {cs : List AV} (hx : H x = some (.box cs)) (o : AObj) : Grown sz H0 (updH H x o) v es :=
  g.of fun b n s c h => by rw [updH_ne _ _ (fun e => by subst e; rw [hx] at h; cases h)]; exact h
theorem Kept.box {sz : Nat} {H0 H H' : AHeap} {v : AV} {es : List (List AV)} (k : Kept H H' v) (g : Grown sz H0 H v es) {b : Nat} {cs : List AV} (h : H b = some (.box cs)) : H' b = some (.box cs) := by
  refine k b _ h ?_
  rintro b' cap es' rfl rfl
  rcases g with ⟨h1, _⟩ | ⟨b', cap', h1, hb0, hb1⟩
  · cases h1
  · cases h1; rw [h] at hb1; cases hb1
theorem placeAll (cs new : List AV) (h : cs.length = new.length) : placeAt cs 0 new = new := by
  simp [placeAt, h]
def atObj : Option AObj → Nat → Option (List AV)
  | some (.box cs), off => if off ≤ cs.length then some (cs.drop off) else none
  | _, _ => none
theorem at_obj (H : AHeap) (b off : Nat) : cellsAt H (.ptr b off) = atObj (H b) off := by
  simp only [cellsAt]
  cases h : H b with
  | none => simp [atObj]
  | some o => cases o <;> simp [atObj]
theorem obj_box (cs : List AV) (off : Nat) : atObj (some (.box cs)) off = if off ≤ cs.length then some (cs.drop off) else none := _root_.id rfl
theorem take_tt (n : Nat) (cs : List AV) : takeV true n cs = if n ≤ cs.length then some (.agg (cs.take n)) else none := _root_.id rfl
theorem v_store {P : Program} {R : AV → AHeap → Prop} {H : AHeap} (n b off : Nat) (x : AV) : aopV P (.store n) [.ptr b off, x] H R =
    (x.ok = true ∧ x.cells.length = n ∧ (∀ y ∈ x.cells, AV.isCell y = true) ∧ ∃ cs, H b = some (.box cs) ∧ off + n ≤ cs.length ∧ R .any (updH H b (.box (placeAt cs off x.cells)))) := by
  simp only [aopV]
  cases h : H b with
  | none => simp
  | some o => cases o <;> simp
theorem c_agg (cs : List AV) : (AV.agg cs).cells = cs := _root_.id rfl
theorem c_int (k : IntKind) (n : Int) : (AV.int k n).cells = [.int k n] := _root_.id rfl
theorem c_bool (b : Bool) : (AV.bool b).cells = [.bool b] := _root_.id rfl
theorem c_slice (es : List (List AV)) : (AV.slice es).cells = [.slice es] := _root_.id rfl
theorem c_emp : AV.emp.cells = [.emp] := _root_.id rfl
theorem c_grow (b cap : Nat) (es : List (List AV)) : (AV.grow b cap es).cells = [.grow b cap es] := _root_.id rfl

structure Woman where
  mark : Int
  lo : Int
  hi : Int
  deriving DecidableEq, Inhabited
structure Piece where
  marks : List Int
  bundle : Int
  deriving DecidableEq, Inhabited
structure Table where
  women : List Woman
  pieces : List Piece
  wrong : Int
  deriving DecidableEq, Inhabited
structure Touch where
  a : Int
  b : Int
  lo : Int
  hi : Int
  deriving DecidableEq, Inhabited
structure Boiling where
  thing : Int
  hour : Int
  deriving DecidableEq, Inhabited
structure Sign where
  thing : Int
  carries : Bool
  deriving DecidableEq, Inhabited
structure House where
  table : Table
  sick : List Int
  others : Int
  last : Int
  touches : List Touch
  boiled : List Boiling
  signs : List Sign
  deriving DecidableEq, Inhabited
structure Course where
  owners : List Int
  hours : List Int
  deriving DecidableEq, Inhabited

def eI (l : List Int) : List (List AV) := l.map fun n => [i6 n]
def eW (w : Woman) : List AV := [i6 w.mark, i6 w.lo, i6 w.hi]
def eP (p : Piece) : List AV := [.slice (eI p.marks), i6 p.bundle]
def eT (t : Table) : AV := .agg [.slice (t.women.map eW), .slice (t.pieces.map eP), i6 t.wrong]
def eTo (t : Touch) : List AV := [i6 t.a, i6 t.b, i6 t.lo, i6 t.hi]
def eB (b : Boiling) : List AV := [i6 b.thing, i6 b.hour]
def eS (s : Sign) : List AV := [i6 s.thing, .bool s.carries]
def eH (h : House) : AV := .agg [.slice (h.table.women.map eW), .slice (h.table.pieces.map eP), i6 h.table.wrong, .slice (eI h.sick), i6 h.others, i6 h.last, .slice (h.touches.map eTo), .slice (h.boiled.map eB), .slice (h.signs.map eS)]
def eC (c : Course) : AV := .agg [.slice (eI c.owners), .slice (eI c.hours)]
@[simp] theorem eI_len (l : List Int) : (eI l).length = l.length := by simp [eI]
theorem eI_get {l : List Int} {j : Nat} (h : j < l.length) : (eI l)[j]? = some [i6 l[j]] := by simp [eI, h]
theorem map_get {α : Type} {l : List α} {f : α → List AV} {j : Nat} (h : j < l.length) : (l.map f)[j]? = some (f l[j]) := by simp [h]
theorem eI_good (l : List Int) : goodEls 1 (eI l) := by intro e he; simp [eI] at he; obtain ⟨n, _, rfl⟩ := he; rfl
theorem eI_cell (l : List Int) : cellEls (eI l) := by
  intro e he x hx
  simp only [eI, List.mem_map] at he
  obtain ⟨n, _, rfl⟩ := he
  simp only [List.mem_singleton] at hx
  subst hx; rfl
theorem eI_app (l m : List Int) : eI (l ++ m) = eI l ++ eI m := by simp [eI]

theorem mem_take_succ {α : Type} {l : List α} {n : α} {j : Nat} (h : j < l.length) : n ∈ l.take (j + 1) ↔ n ∈ l.take j ∨ n = l[j] := by
  rw [List.take_add_one, List.getElem?_eq_getElem h]; simp only [Option.toList_some, List.mem_append, List.mem_singleton]
/-- A length that no counter outgrows. -/
def Sm (n : Nat) : Prop := n < 2147483648
theorem wsucc {j : Nat} (h : j < 4611686018427387904) : IntKind.i64.wrap ((j : Int) + 1) = ((j + 1 : Nat) : Int) := by
  rw [w64 (by omega) (by omega)]; simp
attribute [go_sem ↓] aops_nil aops_go aops_go0 aops_if k_cont k_cont0 apre_nil apre_if apre_go k_draw x_skip x_label x_ret x_exit x_seq x_block x_ops x_cond x_draw q_kseq_n q_kseq_r q_kseq_e q_block_n q_block_r q_block_e q_loop_n q_loop_r q_loop_e l_done q_for_n q_for_r q_for_e
attribute [go_sem] g_tt g_ff g_tf g_ft g_u pgo_det Tag.isCall popt_some gp_tt gp_ff gp_tf gp_ft gp_u opt_some List.map_cons List.map_nil ev upd_at x_sel_t x_sel_f d_mov d_pick d_not d_nilchk d_nilchk' d_conv d_add d_sub d_mul d_quo d_rem d_shl d_shr d_and d_or d_andnot d_eql d_neq d_lss d_leq d_gtr d_geq d_eqb d_neqb d_mkfunc d_load d_fieldaddr d_fieldaddr' d_field_t d_field_f d_idxaddr d_idxaddr_g elemO_some d_idxaddr_m d_arraddr d_arraddr' d_idx_f d_sub_s d_sub_g d_arrsub d_arrall d_extract d_len d_len_g d_len_e d_len_m d_min d_build d_bslice0 d_bs1 d_bs2 d_bsa d_eqagg v_mov v_pick v_not v_nilchk v_conv v_bin v_binb v_eqagg v_mkfunc v_load v_fieldaddr v_field v_idxaddr v_arraddr v_idx v_sub v_arrsub v_arrall v_extract v_len v_min v_build v_bslice v_lookup v_call v_callv ite_true ite_false Bool.false_eq_true Bool.true_eq_false if_true if_false decide_eq_true_eq decide_eq_false_iff_not decide_true decide_false Nat.zero_add Nat.add_zero eq_self not_true_eq_false not_false_eq_true Bool.not_true Bool.not_false List.length_cons List.length_nil at_elem take_f take_tt Int.toNat_natCast Option.some.injEq Option.bind_some Int.natCast_nonneg true_and and_true and_self eI_len List.length_map at_obj obj_box updH_same Nat.zero_le Nat.le_refl List.drop_zero List.drop_succ_cons List.take_succ_cons List.take_zero c_agg c_int c_bool c_slice c_emp c_grow
end Go.Lift

