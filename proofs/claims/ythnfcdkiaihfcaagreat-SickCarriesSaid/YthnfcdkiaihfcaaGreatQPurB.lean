/- The courses of the reference are those of the program, in another order. Conditions: none. -/
import Derived.Test.YthnfcdkiaihfcaaGreatQRefM
set_option linter.unusedSimpArgs false
set_option linter.unusedVariables false
namespace Go.Lift
open Go Go.Proofs
theorem enumG_nodup {f : Nat → List Int} (hf : ∀ i, (f i).Nodup) : ∀ (k : Nat) (pre : List Int), (enumG f k pre).Nodup
  | 0, pre => by simp [enumG]
  | k + 1, pre => by
    rw [enumG, List.Nodup, List.pairwise_flatMap]
    refine ⟨fun w _ => enumG_nodup hf k _, ?_⟩
    refine List.Pairwise.imp ?_ (hf pre.length)
    intro a b hab x hx y hy hxy
    subst hxy
    obtain ⟨s1, h1, _⟩ := (mem_enumG f k _ _).1 hx
    obtain ⟨s2, h2, _⟩ := (mem_enumG f k _ _).1 hy
    rw [h1] at h2
    simp at h2
    exact hab h2.1
theorem nodup_filter {α : Type} {l : List α} (p : α → Bool) (h : l.Nodup) : (l.filter p).Nodup := List.Pairwise.filter p h
theorem nodup_ofNat {l : List Nat} (h : l.Nodup) : (l.map Int.ofNat).Nodup := by
  refine List.Pairwise.map Int.ofNat (fun a b hab => ?_) h
  intro hh
  exact hab (Int.ofNat.inj hh)
theorem womenUpto_nodup (ws : List Woman) (marks : List Int) (n : Nat) : (womenUpto ws marks n).Nodup := nodup_ofNat (nodup_filter _ List.nodup_range)
theorem whoIs_nodup (t : Table) (i m : Nat) : (whoIs t i m).Nodup := nodup_ofNat (nodup_filter _ List.nodup_range)
def ownersA (t : Table) : List (List Int) := (enumW (whoseT t) t.pieces.length []).filter (isTruthT t)
theorem ownersA_mem {t : Table} (hc : checkTable t = 0) (o : List Int) : o ∈ ownersA t ↔ isTruthT t o = true := by
  rw [ownersA, List.mem_filter]
  exact ⟨fun h => h.2, fun h => ⟨truth_whose hc h, h⟩⟩
theorem truthsR_mem {t : Table} (hc : checkTable t = 0) (o : List Int) : o ∈ truthsR t ↔ isTruthT t o = true := by
  rw [truthsR_eq hc, List.mem_filter, isTruthT_iff hc, isTruthR, Bool.and_eq_true, decide_eq_true_eq, mem_allO]
  constructor
  · rintro ⟨h1, h2, h3⟩; exact ⟨h1, h3⟩
  · rintro ⟨h1, h2⟩; exact ⟨h1, h1, h2⟩
theorem getD_nodup {L : List (List Int)} (h : ∀ l ∈ L, l.Nodup) (i : Nat) : (L.getD i []).Nodup := by
  rw [List.getD_eq_getElem?_getD]
  cases hi : L[i]? with
  | none => simp
  | some l => exact h l (List.mem_of_getElem? hi)
theorem owners_perm {t : Table} (hc : checkTable t = 0) : (truthsR t).Perm (ownersA t) := by
  refine (List.perm_ext_iff_of_nodup ?_ ?_).2 fun o => ?_
  · rw [truthsR_eq hc, allO, enumO_eq]
    exact nodup_filter _ (enumG_nodup (fun i => womenUpto_nodup _ _ _) _ _)
  · rw [ownersA, enumW_eq]
    refine nodup_filter _ (enumG_nodup (fun i => getD_nodup (fun l hl => ?_) i) _ _)
    simp only [whoseT, List.mem_map] at hl
    obtain ⟨j, _, rfl⟩ := hl
    exact whoIs_nodup _ _ _
  · rw [truthsR_mem hc, ownersA_mem hc]
/-! hours: the first touch turns fastest there, the last one here -/
theorem flat_cons {α β : Type} (f : β → α) (g : β → List α) : ∀ l : List β, (l.flatMap fun y => f y :: g y).Perm (l.map f ++ l.flatMap g)
  | [] => List.Perm.refl _
  | y :: l => by
    simp only [List.flatMap_cons, List.map_cons, List.cons_append]
    refine List.Perm.cons _ ?_
    have h1 := (flat_cons f g l).append_left (g y)
    refine h1.trans ?_
    rw [← List.append_assoc, ← List.append_assoc]
    exact List.perm_append_comm.append_right _
theorem flat_swap {α β γ : Type} (f : α → β → γ) (l2 : List β) : ∀ l1 : List α, (l1.flatMap fun x => l2.map fun y => f x y).Perm (l2.flatMap fun y => l1.map fun x => f x y)
  | [] => by simp
  | x :: l1 => by
    rw [List.flatMap_cons]
    have h := flat_swap f l2 l1
    refine (h.append_left _).trans ?_
    exact (flat_cons (fun y => f x y) (fun y => l1.map fun x => f x y) l2).symm
theorem flat_congr {α β : Type} {f g : α → List β} : ∀ {l : List α}, (∀ a ∈ l, (f a).Perm (g a)) → (l.flatMap f).Perm (l.flatMap g)
  | [], _ => List.Perm.refl _
  | a :: l, h => by
    rw [List.flatMap_cons, List.flatMap_cons]
    exact (h a List.mem_cons_self).append (flat_congr fun b hb => h b (List.mem_cons_of_mem _ hb))
def enS (f : Nat → List Int) : Nat → Nat → List (List Int)
  | 0, _ => [[]]
  | k + 1, j => (f j).flatMap fun w => (enS f k (j + 1)).map fun s => w :: s
theorem enumG_enS (f : Nat → List Int) : ∀ (k : Nat) (pre : List Int), enumG f k pre = (enS f k pre.length).map fun s => pre ++ s
  | 0, pre => by simp [enumG, enS]
  | k + 1, pre => by
    rw [enumG, enS, List.map_flatMap]
    congr 1
    funext w
    rw [enumG_enS f k, List.map_map, List.length_append, List.length_singleton]
    congr 1
    funext s
    simp
theorem hrs_perm (h : House) : ∀ (k j : Nat), (∀ i, j ≤ i → i < j + k → 1 ≤ hourN h i) → ((List.range (prodL (hourN h) j k)).map (hrsGo h k j)).Perm (enS (hoursAt h) k j)
  | 0, j, _ => by simp [prodL, enS, hrsGo]
  | k + 1, j, hp => by
    have ih := hrs_perm h k (j + 1) (fun i h1 h2 => hp i (by omega) (by omega))
    have hk := hp j (by omega) (by omega)
    rw [prodL, Nat.mul_comm, range_mul, List.map_flatMap, enS]
    have e1 : (fun q => ((List.range (hourN h j)).map fun r => q * hourN h j + r).map (hrsGo h (k + 1) j)) = fun q => (List.range (hourN h j)).map fun r : Nat => ((h.touches.getD j default).lo + (r : Int)) :: hrsGo h k (j + 1) q := by
      funext q
      rw [List.map_map]
      apply List.ext_getElem
      · simp
      · intro i h1 h2
        simp only [List.length_map, List.length_range] at h1 h2
        simp only [List.getElem_map, List.getElem_range, Function.comp, hrsGo]
        have e1 : (q * hourN h j + i) / hourN h j = q := by
          rw [Nat.mul_comm, Nat.mul_add_div hk, Nat.div_eq_of_lt h2, Nat.add_zero]
        have e2 : (q * hourN h j + i) % hourN h j = i := by
          rw [Nat.mul_comm, Nat.mul_add_mod, Nat.mod_eq_of_lt h2]
        rw [e1, e2]
    rw [e1]
    refine (flat_swap (fun (q r : Nat) => ((h.touches.getD j default).lo + (r : Int)) :: hrsGo h k (j + 1) q) (List.range (hourN h j)) (List.range (prodL (hourN h) (j + 1) k))).trans ?_
    rw [hoursAt, List.flatMap_map]
    refine flat_congr fun r _ => ?_
    have := ih.map fun s => ((h.touches.getD j default).lo + (r : Int)) :: s
    rw [List.map_map] at this
    exact this
theorem hours_perm (h : House) (hp : ∀ i, i < h.touches.length → 1 ≤ hourN h i) : ((List.range (prodL (hourN h) 0 h.touches.length)).map (hrsOf h)).Perm (enumH h h.touches.length []) := by
  have := hrs_perm h h.touches.length 0 (fun i _ h2 => hp i (by omega))
  rw [enumH_eq, enumG_enS]
  simp only [List.nil_append, List.length_nil, List.map_id']
  exact this
end Go.Lift
