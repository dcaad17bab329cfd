/- Part 15 of the proof: the tools and contracts. Conditions: none. -/
import Derived.Test.YthnfcdkiaihfcaaGreatP14
set_option linter.unusedVariables false
set_option linter.unusedSimpArgs false
namespace Go.Lift
open Go

theorem count_set : ∀ (l : List Bool) (i : Nat), l[i]? = some false → (l.set i true).count false + 1 = l.count false
  | [], i, h => by simp at h
  | b :: l, 0, h => by
    simp only [List.getElem?_cons_zero, Option.some.injEq] at h
    subst h; simp
  | b :: l, i + 1, h => by
    have := count_set l i (by simpa using h)
    simp only [List.set_cons_succ, List.count_cons]
    omega

theorem count_zero : ∀ (l : List Bool), l.count false = 0 → ∀ b ∈ l, b = true
  | [], _, b, h => by simp at h
  | x :: l, h, b, hb => by
    simp only [List.count_cons] at h
    rcases List.mem_cons.1 hb with rfl | hb
    · cases b
      · simp at h
      · rfl
    · exact count_zero l (by omega) b hb

section
variable {P : Program}

theorem draw_sound {ro : Option Nat} {N : Nat} {ops : Array Oper} {pre : List Nat} {C : List Nat → CT → Bool} {A : Nat → Nat → Prop} (hm : P.follows .mixedOrders = true) (F : DrawFacts P N ops pre C A) {fr : Nat → Bool} {preA : List (Bool × AOp)} {T : Nat → AOp × List AOp} {ct : CT}
    {K : Env → AHeap → Prop} {Q : Exit → Act → World → Prop} (hpre : ∀ u ∈ pre, ∀ ao, (ops[u]?).bind (trOper P N ops) = some ao → (fr u, ao) ∈ preA) (hpre' : ∀ p ∈ preA, ∃ u ∈ pre, (ops[u]?).bind (trOper P N ops) = some p.2) (hok : preOK (preA.map (·.2)) = true)
    (hC : C [] ct = true) (hsub : ct.sub C [] = true)
    (hT : ∀ i, i < ops.size → i ∉ pre → (ops[i]?).bind (trOper P N ops) = some (T i).1 ∧ ∀ u ∈ pre, ¬ A i u → (∃ au, (ops[u]?).bind (trOper P N ops) = some au ∧ (au.tag.isCall = true → fr u = true) ∧ (au.tag.isCall = false → au.tag.reads = true → au ∈ (T i).2)))
    (hreads : ∀ u ∈ pre, ∀ au, (ops[u]?).bind (trOper P N ops) = some au → au.tag.reads = true → au.dst.isSome = true)
    {env : Env} {H : AHeap} {a : Act} {w : World} {id : Nat} (h : adraw P preA (ct.tr T) K env H) (hH : HRel H w) (hS : StRel N H w env a) (hQ : ∀ a' w', StepPost N H w K a' w' → Q .normal a' w') :
    (Code.region id ops true).wpIn (WF ro) 0 P Q a w := by
  refine wpIn_region_any hm ?_
  have hg := drew_wg w
  have hEd := hg.evolve hH
  obtain ⟨envP, hK, hsame, hvals⟩ := apre_vals preA env _ hok h
  have main : ∀ (fuel : Nat) (listed : Array Bool) (a' : Act) (w' : World), listed.toList.count false ≤ fuel → (∃ s ct env' H', Inv P N ops pre C fr T K H w listed a' w' s ct env' H') →
      wpAnyIn (WF ro) 0 P .any ops Q fuel listed a' w' := by
    intro fuel
    have hdone : ∀ (listed : Array Bool) (a' : Act) (w' : World), Region.ready .any ops listed = [] → (∃ s ct env' H', Inv P N ops pre C fr T K H w listed a' w' s ct env' H') → Q .normal a' w' := by
      rintro listed a' w' hr ⟨s, ct', env', H', I⟩
      have hall : ∀ i, i < ops.size → listed.getD i false = true := by
        intro i
        induction i using Nat.strongRecOn with
        | _ i ih =>
          intro hi
          cases hl : listed.getD i false with
          | true => rfl
          | false =>
            exfalso
            have : i ∈ Region.ready .any ops listed := by
              refine mem_ready.2 ⟨?_, ops[i], Array.getElem?_eq_getElem hi, fun e he hb => ?_⟩
              · rw [Array.getD_eq_getD_getElem?, Array.getElem?_eq_getElem (by rw [I.sizeL]; exact hi)] at hl ⊢
                simpa using hl
              · have hlt := F.edge i ops[i] (Array.getElem?_eq_getElem hi) e he hb
                exact ih e.on hlt (by omega)
            rw [hr] at this; simp at this
      have hnil : ct'.heads = [] := by
        rw [List.eq_nil_iff_forall_not_mem]
        intro p hp
        obtain ⟨h1, h2, h3⟩ := F.head s ct' I.ok p hp
        exact h3 ((I.tails p.1 h1 h2).1 (hall p.1 h1))
      have hrest := atl_end hnil I.rest
      refine hQ a' w' ⟨env', H', hrest, I.hrel, ⟨I.size, fun t ht => ?_, I.defers⟩, I.ev⟩
      rcases I.rep t ht with ⟨j, q, _, hj, _, hl⟩ | h
      · have := hall j (Array.getElem?_eq_some_iff.1 hj).1
        rw [this] at hl; cases hl
      · exact h
    induction fuel with
    | zero =>
      intro listed a' w' hc hI
      have hz := count_zero listed.toList (by omega)
      have hr : Region.ready .any ops listed = [] := by
        rw [List.eq_nil_iff_forall_not_mem]
        intro i hi
        obtain ⟨hun, o, ho, _⟩ := mem_ready.1 hi
        obtain ⟨s, ct', env', H', I⟩ := hI
        have hlt : i < ops.size := (Array.getElem?_eq_some_iff.1 ho).1
        have hlt' : i < listed.size := by rw [I.sizeL]; exact hlt
        rw [Array.getD_eq_getD_getElem?, Array.getElem?_eq_getElem hlt'] at hun
        have := hz listed[i] (by simp)
        rw [this] at hun; cases hun
      exact ⟨hr, hdone listed a' w' hr hI⟩
    | succ fuel ih =>
      intro listed a' w' hc hI
      refine ⟨fun hr => hdone listed a' w' hr hI, fun i hi => ?_⟩
      obtain ⟨s, ct', env', H', I⟩ := hI
      refine wpOpIn_mono ?_ (draw_step (ro := ro) (Q := Q) F hT hreads I hi)
      intro a'' w'' hI'
      refine ih _ a'' w'' ?_ hI'
      obtain ⟨hun, o, ho, _⟩ := mem_ready.1 hi
      have hlt : i < ops.size := (Array.getElem?_eq_some_iff.1 ho).1
      have hlt' : i < listed.size := by rw [I.sizeL]; exact hlt
      have hf : listed.toList[i]? = some false := by
        rw [Array.getD_eq_getD_getElem?, Array.getElem?_eq_getElem hlt'] at hun
        rw [Array.getElem?_toList, Array.getElem?_eq_getElem hlt']
        simpa using hun
      have := count_set listed.toList i hf
      rw [Array.toList_setIfInBounds]
      omega
  refine main ops.size _ a _ (by simp) ⟨[], ct, envP, H, by simp, ?_, hC, hsub, ?_, hg.hrel hH, hS.size, ?_, ?_, ?_, hK, hEd⟩
  · intro i o ho hl
    exfalso
    rw [Array.getD_eq_getD_getElem?] at hl
    have hlt : i < ops.size := (Array.getElem?_eq_some_iff.1 ho).1
    simp [hlt] at hl
  · intro i hi _
    simp [hi]
  · rw [hS.defers, hsame N]
    intro p hp hd
    obtain ⟨u, hu, hau⟩ := hpre' p hp
    rw [Option.bind_eq_some_iff] at hau
    obtain ⟨o, ho, ht⟩ := hau
    obtain ⟨_, _, h3, _, _, h6⟩ := trOper_inv ht
    exact absurd (h6 N (by rw [← h3]; exact hd)) (Nat.lt_irrefl N)
  · intro t ht
    by_cases hx : ∃ (j : Nat) (q : Oper), j ∈ pre ∧ ops[j]? = some q ∧ q.dst = some t
    · obtain ⟨j, q, hjp, hj, hq⟩ := hx
      left
      refine ⟨j, q, hjp, hj, hq, ?_⟩
      have hlt : j < ops.size := (Array.getElem?_eq_some_iff.1 hj).1
      simp [hlt]
    · right
      rw [hsame t (fun p hp hd => ?_)]
      · exact (hS.rep t ht).mono hEd
      · obtain ⟨u, hu, hau⟩ := hpre' p hp
        rw [Option.bind_eq_some_iff] at hau
        obtain ⟨o, ho, htr⟩ := hau
        exact hx ⟨u, o, hu, ho, by rw [← (trOper_inv htr).2.2.1]; exact hd⟩
  · intro u hu _ ao hao
    exact hvals _ (hpre u hu ao hao)

structure Cert where
  pre : List Nat
  tl : CT
  anc : List (List Nat)

def Cert.A (c : Cert) (i : Nat) : List Nat := c.anc.getD i []

/-- At each place in the tree each operation that can come is a head. -/
def Cert.at (c : Cert) (n : Nat) (s : List Nat) (t : CT) : Bool :=
  (List.range n).all (fun i => c.pre.contains i || s.contains i || !((c.A i).all fun j => c.pre.contains j || s.contains j) || t.heads.any fun p => p.1 == i) &&
  t.heads.all fun p => decide (p.1 < n) && !c.pre.contains p.1 && !s.contains p.1

def certOK (ops : Array Oper) (aos : List AOp) (c : Cert) : Bool :=
  let n := ops.size
  (List.range n).all (fun i => match ops[i]? with
    | some o => o.after.toList.all (fun e => !Region.binds .any e || decide (e.on < i)) && (c.A i).all (fun j => o.after.toList.any fun e => Region.binds .any e && (j == e.on || (c.A e.on).contains j))
    | none => false) &&
  c.pre.all (fun i => decide (i < n)) &&
  (List.range n).all (fun i => (List.range n).all fun j => i == j || (match ops[i]?, ops[j]? with
    | some o, some q => o.dst.isNone || o.dst != q.dst
    | _, _ => false)) &&
  (List.range n).all (fun i => (List.range n).all fun j => match aos[i]?, ops[j]? with
    | some ao, some q => (match q.dst with | some t => !(opAll ao).contains t || (if c.pre.contains j then (c.A i).contains j else !c.pre.contains i || (c.A j).contains i) | none => true)
    | _, _ => false) &&
  c.at n [] c.tl && c.tl.sub (c.at n) [] &&
  preOK (c.pre.filterMap fun u => aos[u]?) && c.pre.all (fun u => match aos[u]? with | some ao => !ao.tag.reads || ao.dst.isSome | none => false)

def looseIn (c : Cert) (n u : Nat) : Bool := (List.range n).any fun i => !c.pre.contains i && !(c.A i).contains u

def preOf (aos : List AOp) (c : Cert) (n : Nat) : List (Bool × AOp) := c.pre.filterMap fun u => (aos[u]?).map fun ao => (looseIn c n u, ao)
def looseOf (aos : List AOp) (c : Cert) (i : Nat) : List AOp := c.pre.filterMap fun u => if (c.A i).contains u then none else (aos[u]?).bind fun ao => if ao.tag.reads then some ao else none
def tlOf (aos : List AOp) (c : Cert) (i : Nat) : AOp × List AOp := match aos[i]? with
  | some ao => (ao, looseOf aos c i)
  | none => (⟨none, .dead, [], none⟩, [])

def trDraw (P : Program) (N : Nat) (ops : Array Oper) (c : Cert) : Option (List (Bool × AOp) × ATr) :=
  match trOps P N ops with
  | none => none
  | some aos => if certOK ops aos c then some (preOf aos c ops.size, c.tl.tr (tlOf aos c)) else none

theorem trDraw_sound {ro : Option Nat} {N : Nat} {ops : Array Oper} {c : Cert} {preA : List (Bool × AOp)} {tlA : ATr} (hm : P.follows .mixedOrders = true) (ht : trDraw P N ops c = some (preA, tlA))
    {K : Env → AHeap → Prop} {Q : Exit → Act → World → Prop} {env : Env} {H : AHeap} {a : Act} {w : World} {id : Nat} (h : adraw P preA tlA K env H) (hH : HRel H w) (hS : StRel N H w env a) (hQ : ∀ a' w', StepPost N H w K a' w' → Q .normal a' w') :
    (Code.region id ops true).wpIn (WF ro) 0 P Q a w := by
  unfold trDraw at ht
  split at ht
  · cases ht
  rename_i aos haos
  split at ht
  · rename_i hc
    cases ht
    have hmap := mapM_some haos
    have haosI : ∀ i : Nat, aos[i]? = (ops[i]?).bind (trOper P N ops) := by
      intro i
      have := congrArg (fun l => l[i]?) hmap
      simp only [List.getElem?_map, Array.getElem?_toList] at this
      cases ho : ops[i]? with
      | none =>
        rw [ho] at this
        cases ha : aos[i]? with
        | none => rfl
        | some ao => rw [ha] at this; simp at this
      | some o =>
        rw [ho] at this
        cases ha : aos[i]? with
        | none => rw [ha] at this; simp at this
        | some ao => rw [ha] at this; simp at this ⊢; exact this.symm
    simp only [certOK, Bool.and_eq_true, List.all_eq_true, List.mem_range] at hc
    obtain ⟨⟨⟨⟨⟨⟨⟨c1, c3⟩, c5⟩, c6⟩, c71⟩, c72⟩, c8⟩, c9⟩ := hc
    have hi_of : ∀ {i : Nat} {ao : AOp}, (ops[i]?).bind (trOper P N ops) = some ao → i < ops.size := by
      intro i ao hao
      rw [Option.bind_eq_some_iff] at hao
      obtain ⟨o, ho, _⟩ := hao
      exact (Array.getElem?_eq_some_iff.1 ho).1
    have hread : ∀ {i j : Nat} {ao : AOp} {q : Oper} {t : Nat}, (ops[i]?).bind (trOper P N ops) = some ao → ops[j]? = some q → q.dst = some t → t ∈ opAll ao → (if c.pre.contains j then (c.A i).contains j else !c.pre.contains i || (c.A j).contains i) = true := by
      intro i j ao q t hao hq h1 h2
      have hj : j < ops.size := (Array.getElem?_eq_some_iff.1 hq).1
      have := c6 i (hi_of hao) j hj
      rw [haosI, hao, hq] at this
      simp only [h1, Bool.or_eq_true, Bool.not_eq_true'] at this
      rcases this with h | h
      · rw [← Bool.not_eq_true, List.contains_iff_mem] at h
        exact absurd h2 h
      · exact h
    have F : DrawFacts P N ops c.pre (c.at ops.size) (fun i j => j ∈ c.A i) := by
      refine ⟨fun i hi => ?_, fun i o ho e he hb => ?_, fun i j hi hj => ?_, fun i hi => ?_, fun i j o q d ho hq h1 h2 => ?_, fun i j ao q t hao hq h1 h2 hj => ?_, fun i j ao q t hao hq h1 h2 hi hj => ?_, fun s t hC i hi hip his hA => ?_, fun s t hC p hp => ?_⟩
      · rw [← haosI]
        have := congrArg List.length hmap
        simp at this
        exact ⟨_, List.getElem?_eq_getElem (by omega)⟩
      · have hlt : i < ops.size := (Array.getElem?_eq_some_iff.1 ho).1
        have := c1 i hlt
        rw [ho] at this
        simp only [Bool.and_eq_true, List.all_eq_true] at this
        have := this.1 e (by simpa using he)
        simpa [hb] using this
      · have := c1 i hi
        obtain ⟨o, ho⟩ : ∃ o, ops[i]? = some o := ⟨_, Array.getElem?_eq_getElem hi⟩
        rw [ho] at this
        simp only [Bool.and_eq_true, List.all_eq_true] at this
        have := this.2 j hj
        simp only [List.any_eq_true, Bool.and_eq_true, Bool.or_eq_true, beq_iff_eq, List.contains_iff_mem] at this
        obtain ⟨e, he, hb, h⟩ := this
        exact ⟨o, ho, e, by simpa using he, hb, h⟩
      · have := c3 i hi
        simpa using this
      · have hi : i < ops.size := (Array.getElem?_eq_some_iff.1 ho).1
        have hj : j < ops.size := (Array.getElem?_eq_some_iff.1 hq).1
        have := c5 i hi j hj
        rw [ho, hq] at this
        simpa [h1, h2] using this
      · have := hread hao hq h1 h2
        rw [if_pos (List.contains_iff_mem.2 hj)] at this
        exact List.contains_iff_mem.1 this
      · have := hread hao hq h1 h2
        rw [if_neg (fun h => hj (List.contains_iff_mem.1 h)), Bool.or_eq_true, Bool.not_eq_true'] at this
        rcases this with h | h
        · rw [← Bool.not_eq_true, List.contains_iff_mem] at h; exact absurd hi h
        · exact List.contains_iff_mem.1 h
      · simp only [Cert.at, Bool.and_eq_true, List.all_eq_true, List.mem_range] at hC
        have := hC.1 i hi
        simp only [Bool.or_eq_true, Bool.not_eq_true', List.any_eq_true, beq_iff_eq] at this
        rcases this with ((h | h) | h) | h
        · exact absurd (List.contains_iff_mem.1 h) hip
        · exact absurd (List.contains_iff_mem.1 h) his
        · exfalso
          rw [← Bool.not_eq_true, List.all_eq_true] at h
          refine h fun j hj => ?_
          by_cases hjp : j ∈ c.pre
          · rw [List.contains_iff_mem.2 hjp]; rfl
          · rw [List.contains_iff_mem.2 (hA j hj hjp)]; simp
        · obtain ⟨⟨i', t'⟩, hp, rfl⟩ := h
          exact ⟨t', hp⟩
      · simp only [Cert.at, Bool.and_eq_true, List.all_eq_true, List.mem_range] at hC
        have := hC.2 p hp
        simp only [decide_eq_true_eq, Bool.not_eq_true', ← Bool.not_eq_true, List.contains_iff_mem] at this
        exact ⟨this.1.1, this.1.2, this.2⟩
    refine draw_sound (fr := looseIn c ops.size) hm F (fun u hu ao hao => ?_) (fun p hp => ?_) ?_ c71 c72 (fun i hi hip => ?_) (fun u hu au hau hr => ?_) h hH hS hQ
    · simp only [preOf, List.mem_filterMap]
      exact ⟨u, hu, by rw [haosI, hao]; rfl⟩
    · simp only [preOf, List.mem_filterMap] at hp
      obtain ⟨u, hu, hp⟩ := hp
      rw [Option.map_eq_some_iff] at hp
      obtain ⟨ao, hao, rfl⟩ := hp
      exact ⟨u, hu, by rw [← haosI]; exact hao⟩
    · have : (preOf aos c ops.size).map (·.2) = c.pre.filterMap fun u => aos[u]? := by
        simp only [preOf, List.map_filterMap, Option.map_map]
        congr 1
        funext u
        cases aos[u]? <;> rfl
      rw [this]; exact c8
    · obtain ⟨ao, hao⟩ := F.trans i hi
      have hao' : aos[i]? = some ao := by rw [haosI]; exact hao
      simp only [tlOf, hao']
      refine ⟨hao, fun u hu hnA => ?_⟩
      obtain ⟨au, hau⟩ := F.trans u (F.preLt u hu)
      refine ⟨au, hau, fun _ => ?_, fun _ hr => ?_⟩
      · simp only [looseIn, List.any_eq_true, Bool.and_eq_true, Bool.not_eq_true', List.mem_range]
        refine ⟨i, hi, ?_, ?_⟩ <;> rw [← Bool.not_eq_true, List.contains_iff_mem]
        · exact hip
        · exact hnA
      · simp only [looseOf, List.mem_filterMap]
        refine ⟨u, hu, ?_⟩
        rw [if_neg (by rw [List.contains_iff_mem]; exact hnA), haosI, hau]
        simp [hr]
    · have := c9 u hu
      rw [haosI, hau] at this
      simpa [hr] using this
  · cases ht
end
end Go.Lift

