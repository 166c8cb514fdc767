/- Plain laws of what a majority has reached. -/
import Derived.Test.YtlkonimjeoaljaaDoorReached
import Derived.Test.YtlkonimjeoaljaaDoorRef6
namespace Go.Proofs.YtlkonimjeoaljaaDoor
open Go.RowKit

namespace Qu
--BEGIN
theorem desc_perm (l : List Int) : (Sd.desc l).Perm l := List.mergeSort_perm l _
theorem desc_pair (l : List Int) : (Sd.desc l).Pairwise (fun x y => y ≤ x) := by
  have h := List.pairwise_mergeSort (le := fun x y : Int => decide (y ≤ x)) (fun a b c h1 h2 => by simp only [decide_eq_true_eq] at *; omega) (fun a b => by simp only [Bool.or_eq_true, decide_eq_true_eq]; omega) l
  exact h.imp (fun h => by simpa using h)
theorem sorted_cnt (x : Int) : ∀ (D : List Int), D.Pairwise (fun x y => y ≤ x) → ∀ t, t < D.length → (t + 1 ≤ D.countP (fun y => decide (x ≤ y)) ↔ x ≤ D.getD t 0)
  | [], _, t, h => absurd h (by simp)
  | y :: D, hp, t, h => by
    obtain ⟨h1, h2⟩ := List.pairwise_cons.1 hp
    rw [List.countP_cons]
    by_cases hx : x ≤ y
    · rw [if_pos (by simpa using hx)]
      cases t with
      | zero => simp; omega
      | succ t =>
        have := sorted_cnt x D h2 t (by simpa using h)
        rw [List.getD_cons_succ, ← this]
        omega
    · rw [if_neg (by simpa using hx)]
      have h0 : D.countP (fun y => decide (x ≤ y)) = 0 := by
        rw [List.countP_eq_zero]
        intro z hz
        have := h1 z hz
        simp only [decide_eq_true_eq]
        omega
      rw [h0]
      cases t with
      | zero => simp; omega
      | succ t =>
        rw [List.getD_cons_succ, List.getD_eq_getElem?_getD, List.getElem?_eq_getElem (by simpa using h), Option.getD_some]
        have := h1 _ (List.getElem_mem (by simpa using h : t < D.length))
        omega
/-- how many members have reached x, of those below k -/
def cntTo (c : Nat) (l : List Int) (x : Int) (k : Nat) : Nat := (List.range k).countP (fun i => (c % 128).testBit i && decide (x ≤ l.getD i 0))
theorem cntTo_succ (c : Nat) (l : List Int) (x : Int) (k : Nat) : cntTo c l x (k + 1) = cntTo c l x k + (if (c % 128).testBit k && decide (x ≤ l.getD k 0) then 1 else 0) := by
  unfold cntTo
  rw [List.range_succ, List.countP_append, List.countP_singleton]
theorem cntTo_le (c : Nat) (l : List Int) (x : Int) (k : Nat) : cntTo c l x k ≤ k := by
  unfold cntTo
  have := List.countP_le_length (p := fun i => (c % 128).testBit i && decide (x ≤ l.getD i 0)) (l := List.range k)
  simpa using this
theorem cntTo_mono (c : Nat) (l : List Int) (x : Int) (k : Nat) : ∀ j, cntTo c l x k ≤ cntTo c l x (k + j)
  | 0 => Nat.le_refl _
  | j + 1 => by
    have := cntTo_mono c l x k j
    rw [← Nat.add_assoc, cntTo_succ]
    omega
theorem cntTo_long (c : Nat) (l : List Int) (x : Int) (h0 : 0 < x) (k : Nat) (hk : l.length ≤ k) : ∀ j, cntTo c l x (k + j) = cntTo c l x k
  | 0 => rfl
  | j + 1 => by
    have := cntTo_long c l x h0 k hk j
    have e : l.getD (k + j) 0 = 0 := by rw [List.getD_eq_getElem?_getD, List.getElem?_eq_none (by omega)]; rfl
    have e2 : decide (x ≤ l.getD (k + j) 0) = false := by rw [e]; simpa using h0
    rw [← Nat.add_assoc, cntTo_succ, this, e2, Bool.and_false]
    rfl
theorem vals_cnt (c : Nat) (l : List Int) (x : Int) : (vals c l).countP (fun y => decide (x ≤ y)) = cntTo c l x 7 := by
  unfold vals mem cntTo
  rw [List.countP_map, List.countP_map, List.countP_filter]
  congr 1
  funext i
  simp [Bool.and_comm]
/-- what is reached is x or more just where so many members have x or more -/
theorem reach_iff (c : Nat) (l : List Int) (x : Int) (h : 0 < pop (c % 128)) : needN c ≤ cntTo c l x 7 ↔ x ≤ reachN c l := by
  have h1 := sorted_cnt x (Sd.desc (vals c l)) (desc_pair _) (pop (c % 128) / 2) (by rw [Sd.desc_length, vals_length]; omega)
  rw [(desc_perm (vals c l)).countP_eq, vals_cnt] at h1
  exact h1
theorem reach_mem (c : Nat) (l : List Int) (h : 0 < pop (c % 128)) : ∃ i : Nat, i < 7 ∧ (c % 128).testBit i = true ∧ reachN c l = l.getD i 0 := by
  have hl : pop (c % 128) / 2 < (Sd.desc (vals c l)).length := by rw [Sd.desc_length, vals_length]; omega
  have hm : reachN c l ∈ vals c l := by
    apply (desc_perm (vals c l)).mem_iff.1
    unfold reachN
    rw [List.getD_eq_getElem?_getD, List.getElem?_eq_getElem hl, Option.getD_some]
    exact List.getElem_mem hl
  unfold vals mem at hm
  simp only [List.map_map, List.mem_map, List.mem_filter, List.mem_range, Function.comp_apply, Int.toNat_natCast] at hm
  obtain ⟨i, ⟨hi, hb⟩, e⟩ := hm
  exact ⟨i, hi, hb, e.symm⟩
theorem reach_none (c : Nat) (l : List Int) (h : pop (c % 128) = 0) : reachN c l = 0 := by
  have hv0 : vals c l = [] := List.eq_nil_of_length_eq_zero (by rw [vals_length]; exact h)
  have e : Sd.desc [] = [] := by unfold Sd.desc; exact List.mergeSort_nil ..
  unfold reachN
  rw [hv0, h, e]
  rfl
/-- the document's way: each number that is told is tried -/
def bestTo (c : Nat) (l : List Int) (K : Nat) : Nat → Int
  | 0 => 0
  | k + 1 => if ((c % 128).testBit k = true ∧ needN c ≤ cntTo c l (l.getD k 0) K) ∧ bestTo c l K k < l.getD k 0 then l.getD k 0 else bestTo c l K k
theorem pop_pos {c i : Nat} (hi : i < 7) (h : (c % 128).testBit i = true) : 0 < pop (c % 128) := by
  unfold pop mem
  rw [List.length_map]
  exact List.length_pos_of_mem (List.mem_filter.2 ⟨List.mem_range.2 hi, h⟩)
theorem best_le (c : Nat) (l : List Int) (K : Nat) (hK : K ≤ 7) (hr : 0 ≤ reachN c l) : ∀ k, k ≤ K → bestTo c l K k ≤ reachN c l
  | 0, _ => hr
  | k + 1, hk => by
    have ih := best_le c l K hK hr k (by omega)
    unfold bestTo
    split
    · rename_i hc
      have h1 := cntTo_mono c l (l.getD k 0) K (7 - K)
      rw [show K + (7 - K) = 7 by omega] at h1
      exact (reach_iff c l _ (pop_pos (by omega) hc.1.1)).1 (by omega)
    · exact ih
theorem best_up (c : Nat) (l : List Int) (K i : Nat) (h1 : (c % 128).testBit i = true) (h2 : needN c ≤ cntTo c l (l.getD i 0) K) : ∀ k, i < k → l.getD i 0 ≤ bestTo c l K k
  | 0, h => absurd h (by omega)
  | k + 1, h => by
    unfold bestTo
    by_cases e : i = k
    · subst e
      split
      · exact Int.le_refl _
      · rename_i hc
        by_cases hlt : bestTo c l K i < l.getD i 0
        · exact absurd ⟨⟨h1, h2⟩, hlt⟩ hc
        · omega
    · have ih := best_up c l K i h1 h2 k (by omega)
      split
      · rename_i hc
        omega
      · exact ih
theorem best_nonneg (c : Nat) (l : List Int) (K : Nat) : ∀ k, 0 ≤ bestTo c l K k
  | 0 => Int.le_refl _
  | k + 1 => by
    have ih := best_nonneg c l K k
    unfold bestTo
    split
    · rename_i hc; omega
    · exact ih
theorem best_eq (c : Nat) (l : List Int) (hl : ∀ x ∈ l, 0 ≤ x) : bestTo c l (min l.length 7) (min l.length 7) = reachN c l := by
  have h0 : ∀ i, 0 ≤ l.getD i 0 := by
    intro i
    rw [List.getD_eq_getElem?_getD]
    by_cases h : i < l.length
    · rw [List.getElem?_eq_getElem h, Option.getD_some]; exact hl _ (List.getElem_mem h)
    · rw [List.getElem?_eq_none (by omega)]; exact Int.le_refl _
  have hK : min l.length 7 ≤ 7 := Nat.min_le_right _ _
  have hr : 0 ≤ reachN c l := by
    by_cases hp : pop (c % 128) = 0
    · rw [reach_none c l hp]; exact Int.le_refl _
    · obtain ⟨i, _, _, e⟩ := reach_mem c l (by omega)
      rw [e]; exact h0 i
  have h1 := best_le c l (min l.length 7) hK hr _ (Nat.le_refl _)
  have h2 := best_nonneg c l (min l.length 7) (min l.length 7)
  by_cases hz : reachN c l = 0
  · omega
  · have hp : 0 < pop (c % 128) := by
      rcases Nat.eq_zero_or_pos (pop (c % 128)) with h | h
      · exact absurd (reach_none c l h) hz
      · exact h
    obtain ⟨i, hi, hb, e⟩ := reach_mem c l hp
    have hil : i < l.length := by
      by_cases h : i < l.length
      · exact h
      · exfalso
        apply hz
        rw [e, List.getD_eq_getElem?_getD, List.getElem?_eq_none (by omega)]
        rfl
    have hn := (reach_iff c l (reachN c l) hp).2 (Int.le_refl _)
    have hcl : cntTo c l (reachN c l) 7 = cntTo c l (reachN c l) (min l.length 7) := by
      by_cases h7 : 7 ≤ l.length
      · rw [Nat.min_eq_right h7]
      · have := cntTo_long c l (reachN c l) (by omega) l.length (Nat.le_refl _) (7 - l.length)
        rw [show l.length + (7 - l.length) = 7 by omega] at this
        rw [this, Nat.min_eq_left (by omega)]
    rw [hcl, e] at hn
    have h3 := best_up c l (min l.length 7) i hb hn (min l.length 7) (by omega)
    rw [← e] at h3
    omega
/-- a set that is told by its bits -/
theorem pop_bits {c s : Nat} {l : List Int} {x : Int} (h : ∀ i, i < 7 → s.testBit i = decide (x ≤ l.getD i 0)) : pop ((c &&& s) % 128) = cntTo c l x 7 := by
  unfold pop mem cntTo
  rw [List.length_map, List.countP_eq_length_filter]
  congr 1
  refine List.filter_congr fun i hi => ?_
  have hi7 : i < 7 := List.mem_range.1 hi
  have e := Nat.testBit_mod_two_pow (c &&& s) 7 i
  have e1 := Nat.testBit_mod_two_pow c 7 i
  rw [show (2 : Nat) ^ 7 = 128 from rfl] at e e1
  rw [e, e1, Nat.testBit_and, h i hi7]
  simp [hi7]
theorem cnt_more {c : Nat} {l m : List Int} {x : Int} (h : ∀ i, i < 7 → l.getD i 0 ≤ m.getD i 0) : cntTo c l x 7 ≤ cntTo c m x 7 := by
  unfold cntTo
  refine List.countP_mono_left fun i hi h1 => ?_
  have := h i (List.mem_range.1 hi)
  simp only [Bool.and_eq_true, decide_eq_true_eq] at h1 ⊢
  exact ⟨h1.1, by omega⟩
theorem reach_mono {c : Nat} {l m : List Int} (h : ∀ i, i < 7 → l.getD i 0 ≤ m.getD i 0) : reachN c l ≤ reachN c m := by
  rcases Nat.eq_zero_or_pos (pop (c % 128)) with hp | hp
  · rw [reach_none c l hp, reach_none c m hp]; exact Int.le_refl _
  · have h1 := (reach_iff c l (reachN c l) hp).2 (Int.le_refl _)
    exact (reach_iff c m (reachN c l) hp).1 (Nat.le_trans h1 (cnt_more h))
--END
end Qu

end Go.Proofs.YtlkonimjeoaljaaDoor
