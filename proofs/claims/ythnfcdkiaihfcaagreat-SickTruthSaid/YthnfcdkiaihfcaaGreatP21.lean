/- Part 21 of the proof: the tools and contracts. Conditions: none. -/
import Derived.Test.YthnfcdkiaihfcaaGreatP20
set_option linter.unusedSimpArgs false
set_option linter.unusedVariables false
namespace Go.Lift
open Go Go.Proofs
/-- The private heap may be said anew. -/
def Frz (H H' : AHeap) : Prop := ∀ w, HRel H w → HRel H' w ∧ Evolve H w H' w
def gexec (P : Program) (N : Nat) : List Unit → ACode → (AEx → Env → AHeap → Prop) → Env → AHeap → Prop
  | [], ac, Q, env, H => ∃ H', Frz H H' ∧ aexec P N ac Q env H'
  | _ :: us, .seq a b, Q, env, H => aexec P N a (aseq Q fun _ env' H' => gexec P N us b Q env' H') env H
  | _ :: _, _, _, _, _ => False
section
variable {P : Program} {N : Nat} {Q : AEx → Env → AHeap → Prop} {env : Env} {H : AHeap}
def Kg (P : Program) (N : Nat) (us : List Unit) (b : ACode) (Q : AEx → Env → AHeap → Prop) : AEx → Env → AHeap → Prop := aseq Q fun _ env' H' => gexec P N us b Q env' H'
theorem x_gseq (u : Unit) (us : List Unit) (a b : ACode) : gexec P N (u :: us) (.seq a b) Q env H = aexec P N a (Kg P N us b Q) env H := _root_.id rfl
theorem q_kg_n (us : List Unit) (b : ACode) : Kg P N us b Q .norm env H = gexec P N us b Q env H := _root_.id rfl
theorem q_kg_r (us : List Unit) (b : ACode) : Kg P N us b Q .ret env H = Q .ret env H := _root_.id rfl
theorem q_kg_e (us : List Unit) (b : ACode) (id : Nat) : Kg P N us b Q (.exit id) env H = Q (.exit id) env H := _root_.id rfl
theorem StRel.frz {N : Nat} {H H' : AHeap} {w : World} {env : Env} {a : Act} (h : StRel N H w env a) (e : Evolve H w H' w) : StRel N H' w env a :=
  ⟨h.size, fun t ht => (h.rep t ht).mono e, h.defers⟩
theorem gcode_sound (hm : P.follows .mixedOrders = true) (certs : Nat → Option Cert) : ∀ (us : List Unit) (c : Code) (ac : ACode), tr P N certs true c = some ac → ∀ (Q : AEx → Env → AHeap → Prop) (env : Env) (H : AHeap) (a : Act) (w : World),
    gexec P N us ac Q env H → HRel H w → StRel N H w env a → c.wpIn (WF none) 0 P (QR N H w Q) a w := by
  intro us
  induction us with
  | nil =>
    intro c ac ht Q env H a w h hH hS
    obtain ⟨H', hf, h⟩ := h
    obtain ⟨h1, h2⟩ := hf w hH
    exact wpIn_mono (code_sound hm certs (fun _ => rfl) c ac ht Q env H' a w h h1 (hS.frz h2)) (QR.mono (fun _ _ _ h => h) h2)
  | cons u us ih =>
    intro c
    induction c with
    | seq x y _ _ =>
      intro ac ht Q env H a w h hH hS
      simp only [tr] at ht
      split at ht
      · rename_i ax ay hx hy
        cases ht
        simp only [gexec] at h
        refine wpIn_seq (wpIn_mono (code_sound hm certs (fun _ => rfl) x ax hx _ env H a w h hH hS) ?_)
        intro ex a' w' hq
        cases ex with
        | normal =>
          obtain ⟨env', H', h1, h2, h3, h4⟩ := hq
          simp only [aseq] at h1
          exact wpIn_mono (ih y ay hy Q env' H' a' w' h1 h2 h3) (QR.mono (fun _ _ _ h => h) h4)
        | exit id => exact hq
        | ret => exact hq
        | goto l => exact hq
        | panic ch => exact hq
        | outgrown => exact hq
      · cases ht
    | scope b ihb =>
      intro ac ht Q env H a w h hH hS
      simp only [tr] at ht
      exact wpIn_scope' (ihb ac ht Q env H a w h hH hS) (fun l a w h => h)
    | skip => intro ac ht Q env H a w h hH hS; cases ht; exact h.elim
    | ret => intro ac ht Q env H a w h hH hS; cases ht; exact h.elim
    | label l => intro ac ht Q env H a w h hH hS; cases ht; exact h.elim
    | exit id => intro ac ht Q env H a w h hH hS; cases ht; exact h.elim
    | cond c t e _ _ =>
      intro ac ht Q env H a w h hH hS
      simp only [tr] at ht
      split at ht
      · split at ht
        · cases ht; exact h.elim
        · cases ht
      · cases ht
    | loop b _ =>
      intro ac ht Q env H a w h hH hS
      simp only [tr, Option.map_eq_some_iff] at ht
      obtain ⟨ab, hb, rfl⟩ := ht
      exact h.elim
    | block id b _ =>
      intro ac ht Q env H a w h hH hS
      simp only [tr, Option.map_eq_some_iff] at ht
      obtain ⟨ab, hb, rfl⟩ := ht
      exact h.elim
    | region id ops draw =>
      intro ac ht Q env H a w h hH hS
      cases draw with
      | false =>
        simp only [tr, Option.map_eq_some_iff] at ht
        obtain ⟨ab, hb, rfl⟩ := ht
        exact h.elim
      | true =>
        simp only [tr] at ht
        split at ht
        · rw [Option.map_eq_some_iff] at ht
          obtain ⟨p, hp, rfl⟩ := ht
          exact h.elim
        · cases ht
    | rangeFunc g ps ga gb _ _ =>
      intro ac ht Q env H a w h hH hS
      simp only [tr] at ht
      split at ht
      · cases ht; exact h.elim
      · cases ht
    | goto l => intro ac ht; cases ht
    | refuse why => intro ac ht; cases ht
end
theorem fn_of_g {P : Program} (hm : P.follows .mixedOrders = true) {certs : Nat → Option Cert} {f : FuncId} {N : Nat} {rs : List ResultVar} {ac : ACode} {xs : List AV} {H : AHeap} {R : AV → AHeap → Prop} (us : List Unit)
    (hf : fnC P f certs = some (N, rs, ac)) (hl : xs.length ≤ N) (h : gexec P N us ac (fin P rs N R) (ienv xs) H) : ACalls P f xs H R := by
  unfold fnC at hf
  split at hf
  · rename_i fn hfn
    split at hf
    · rename_i c hc
      split at hf
      · rename_i hh
        rw [Option.map_eq_some_iff] at hf
        obtain ⟨ac', ht, he⟩ := hf
        simp only [Prod.mk.injEq] at he
        obtain ⟨rfl, rfl, rfl⟩ := he
        rw [Bool.and_eq_true] at hh
        exact calls_of' hfn hc hh.1 rfl hl hh.2 fun a w hH hS => gcode_sound hm certs us c ac' ht _ (ienv xs) H a w h hH hS
      · cases hf
    · cases hf
  · cases hf
/-- The cells of a list's rows. -/
def RowsOf (sz : Nat) (cs : List AV) (es : List (List AV)) : Prop := goodEls sz es ∧ ∀ i j, i < es.length → j < sz → cs[i * sz + j]? = (es.getD i [])[j]?
theorem RowsOf.start {sz : Nat} (h0 : 0 < sz) {es : List (List AV)} (hg : goodEls sz es) (tl : List AV) : RowsOf sz (es.flatten ++ tl) es := by
  refine ⟨hg, fun i j hi hj => ?_⟩
  have hlen := flatten_length sz es hg
  have h1 : (i + 1) * sz ≤ es.length * sz := Nat.mul_le_mul_right _ (by omega)
  rw [Nat.add_mul] at h1
  rw [List.getElem?_append_left (by omega), flatten_getElem? sz h0 es hg, Nat.mul_comm, Nat.mul_add_div h0, Nat.mul_add_mod, Nat.div_eq_of_lt (by omega), Nat.mod_eq_of_lt (by omega), Nat.add_zero, List.getD_eq_getElem?_getD, List.getElem?_eq_getElem hi]
  rfl
theorem RowsOf.set {sz : Nat} {cs : List AV} {es : List (List AV)} (h : RowsOf sz cs es) {p o : Nat} (hp : p < es.length) (ho : o < sz) (x : AV) : RowsOf sz (cs.set (p * sz + o) x) (es.set p ((es.getD p []).set o x)) := by
  have hpl : (es.getD p []).length = sz := by
    rw [List.getD_eq_getElem?_getD, List.getElem?_eq_getElem hp]; exact h.1 _ (List.getElem_mem hp)
  refine ⟨fun e he => ?_, fun i j hi hj => ?_⟩
  · rcases List.mem_or_eq_of_mem_set he with he | rfl
    · exact h.1 e he
    · rw [List.length_set]; exact hpl
  · rw [List.length_set] at hi
    have hlt : cs[p * sz + o]? = (es.getD p [])[o]? := h.2 p o hp ho
    have hol : p * sz + o < cs.length := by
      rcases Nat.lt_or_ge (p * sz + o) cs.length with hh | hh
      · exact hh
      · rw [List.getElem?_eq_none hh, List.getElem?_eq_getElem (by omega)] at hlt; cases hlt
    have hd : (es.set p ((es.getD p []).set o x)).getD i [] = if p = i then (es.getD p []).set o x else es.getD i [] := by
      rw [List.getD_eq_getElem?_getD, List.getElem?_set]
      by_cases hpi : p = i
      · subst hpi; simp [hp]
      · simp [hpi, List.getD_eq_getElem?_getD]
    rw [hd, List.getElem?_set]
    by_cases hpi : p = i
    · subst hpi
      rw [if_pos rfl, List.getElem?_set]
      by_cases hjo : o = j
      · subst hjo
        rw [if_pos rfl, if_pos rfl, if_pos hol, if_pos (by omega)]
      · rw [if_neg (by omega), if_neg hjo]; exact h.2 p j hi hj
    · have hne : p * sz + o ≠ i * sz + j := by
        intro he
        have h1 : (p * sz + o) / sz = p := by rw [Nat.mul_comm, Nat.mul_add_div (by omega), Nat.div_eq_of_lt ho, Nat.add_zero]
        have h2 : (i * sz + j) / sz = i := by rw [Nat.mul_comm, Nat.mul_add_div (by omega), Nat.div_eq_of_lt hj, Nat.add_zero]
        rw [he, h2] at h1; exact hpi h1.symm
      rw [if_neg hne, if_neg hpi]; exact h.2 i j hi hj
theorem frz_box {H : AHeap} {b c k n cap sz : Nat} {cs ds : List AV} {es : List (List AV)} (hb : H b = some (.box cs)) (hc : H c = some (.box ds)) (hne : c ≠ b) (hk : ds[k]? = some (.mslice b 0 n cap)) (hn : es.length = n) (hcap : n ≤ cap) (hr : RowsOf sz cs es) :
    Frz H (updH (delH H b) c (.box (ds.set k (.slice es)))) := by
  subst hn
  intro w hH
  have hsub : ∀ x o, delH H b x = some o → H x = some o := fun x o hx => by
    have hxb : x ≠ b := fun h => by subst h; simp at hx
    rwa [delH_ne _ hxb] at hx
  have E1 : Evolve H w (delH H b) w := Evolve.drop hsub
  have hH1 := hH.drop hsub
  have hc1 : delH H b c = some (.box ds) := by rw [delH_ne _ hne]; exact hc
  have E2 : Evolve (delH H b) w (updH (delH H b) c (.box (ds.set k (.slice es)))) w := by
    refine ⟨rfl, rfl, rfl, Nat.le_refl _, fun x hx hn => ?_, fun x n sz cap off v hx ho hv => ?_⟩
    · have hxc : x ≠ c := fun h => by subst h; rw [hc1] at hn; cases hn
      exact ⟨by rw [updH_ne _ _ hxc]; exact hn, rfl⟩
    · have hxc : x ≠ c := fun h => by subst h; rw [hc1] at hx; cases hx
      exact ⟨.inr ⟨n, sz, cap, by rw [updH_ne _ _ hxc]; exact hx, ho⟩, hv⟩
  refine ⟨?_, E1.trans E2⟩
  obtain ⟨arr, el, hw, hs, hrep⟩ := hH b _ hb
  obtain ⟨arr', el', hw', hs', hrep'⟩ := hH1 c _ hc1
  refine hH1.step E2 c (fun x _ _ => rfl) (fun x o hx h => by rwa [updH_ne _ _ hx] at h) (fun o ho => ?_)
  rw [updH_same] at ho
  cases ho
  refine ⟨arr', el', hw', by rw [List.length_set]; exact hs', fun i x hi => ?_⟩
  rw [List.getElem?_set] at hi
  by_cases hki : k = i
  · subst hki
    have hkl : k < ds.length := by
      rcases Nat.lt_or_ge k ds.length with h | h
      · exact h
      · rw [List.getElem?_eq_none h] at hk; cases hk
    rw [if_pos rfl, if_pos hkl] at hi
    cases hi
    have hm := hrep' k _ hk
    generalize arr'.getD k undef = u at hm
    cases hm
    have hlen : ∀ i j, i < es.length → j < sz → ∃ x, cs[i * sz + j]? = some x ∧ (es.getD i [])[j]? = some x := by
      intro i j hi hj
      have hel : (es.getD i []).length = sz := by
        rw [List.getD_eq_getElem?_getD, List.getElem?_eq_getElem hi]; exact hr.1 _ (List.getElem_mem hi)
      have h2 : (es.getD i [])[j]? = some ((es.getD i [])[j]'(by omega)) := List.getElem?_eq_getElem (by omega)
      exact ⟨_, (hr.2 i j hi hj).trans h2, h2⟩
    refine Rep.slice b 0 cap sz es (fun i j => arr.getD (i * sz + j) undef) hcap hr.1 (fun i j hi hj => ?_) (fun i j e x hi hj => ?_)
    · obtain ⟨x, hx, _⟩ := hlen i j hi hj
      have hlt : i * sz + j < arr.size := by
        rw [hs]
        rcases Nat.lt_or_ge (i * sz + j) cs.length with h | h
        · exact h
        · rw [List.getElem?_eq_none h] at hx; cases hx
      refine ⟨.inl (by rw [updH_ne _ _ hne.symm]; simp), ?_⟩
      simp only [World.cell?, hw, Option.isSome_none, Bool.false_eq_true, if_false, Nat.zero_add]
      rw [Array.getElem?_eq_getElem hlt, Array.getD_eq_getD_getElem?, Array.getElem?_eq_getElem hlt]
      rfl
    · have hil := lt_of_some hi
      have he : es.getD i [] = e := by rw [List.getD_eq_getElem?_getD, hi]; rfl
      have hjl : j < sz := by rw [← hr.1 e (List.mem_of_getElem? hi)]; exact lt_of_some hj
      have := hr.2 i j hil hjl
      rw [he, hj] at this
      exact (hrep (i * sz + j) x this).mono (E1.trans E2)
  · rw [if_neg hki] at hi
    exact (hrep' i x hi).mono E2
theorem v_appendm {P : Program} {R : AV → AHeap → Prop} {sz bytes : Nat} {H : AHeap} {y : AV} {es2 : List (List AV)} (hy : asSlice y = some es2) (hne : es2 ≠ []) (hg2 : goodEls sz es2) (hc : cellEls es2)
    (hb : es2.length * bytes ≤ 140737488355328) (hb' : es2.length ≤ 9223372036854775807)
    (h : ∀ b cap, H b = none → es2.length ≤ cap → R (.mslice b 0 es2.length cap) (updH H b (.box (es2.flatten ++ List.replicate ((cap - es2.length) * sz) .any)))) : aopV P (.append sz bytes) [.emp, y] H R :=
  ⟨es2, hy, hg2, hc, fun he => absurd he hne, fun _ => ⟨hb, hb', fun b cap hbn hcp => .inr (h b cap hbn hcp)⟩⟩
end Go.Lift

