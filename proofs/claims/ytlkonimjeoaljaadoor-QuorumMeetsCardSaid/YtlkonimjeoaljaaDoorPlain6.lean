/- Plain laws of quorums: two majorities meet; a change is turned back; what a majority has reached. -/
import Derived.Test.YtlkonimjeoaljaaDoorReached
namespace Go.Proofs.YtlkonimjeoaljaaDoor
open Go.RowKit

namespace Qu
--BEGIN
theorem and_low' (c s : Nat) : (c &&& s) % 128 = (c % 128) &&& (s % 128) := by
  have e := Nat.and_mod_two_pow (a := c) (b := s) (n := 7)
  simpa using e
theorem pop_incl : ∀ a : Fin 128, ∀ b : Fin 128, pop a.val + pop b.val = pop (a.val ||| b.val) + pop (a.val &&& b.val) := by decide +kernel
theorem pop_under : ∀ a : Fin 128, ∀ c : Fin 128, pop (c.val &&& a.val) ≤ pop c.val := by decide +kernel
theorem pop_one : ∀ x : Fin 128, ∀ k : Fin 7, pop (x.val &&& 2 ^ k.val) ≤ 1 := by decide +kernel
theorem pop_more : ∀ c : Fin 128, ∀ k : Fin 7, more c.val k.val < 128 ∧ c.val &&& more c.val k.val = c.val ∧ (more c.val k.val ≠ c.val → pop (more c.val k.val) = pop c.val + 1) := by decide +kernel
theorem or_lt {a b : Nat} (ha : a < 128) (hb : b < 128) : a ||| b < 128 := Nat.or_lt_two_pow (n := 7) ha hb
theorem and_lt' {a b : Nat} (ha : a < 128) : a &&& b < 128 := Nat.lt_of_le_of_lt Nat.and_le_left ha
/-- both parts of c together: too many not to share one -/
theorem meet {c a b : Nat} (hc : c < 128) (ha : a < 128) (hb : b < 128) (h : pop c < pop (c &&& a) + pop (c &&& b)) : c &&& (a &&& b) ≠ 0 := by
  intro h0
  have h1 := pop_incl ⟨c &&& a, and_lt' hc⟩ ⟨c &&& b, and_lt' hc⟩
  simp only at h1
  rw [← Nat.and_or_distrib_left, show (c &&& a) &&& (c &&& b) = c &&& (a &&& b) by
    rw [Nat.and_assoc, ← Nat.and_assoc a c b, Nat.and_comm a c, Nat.and_assoc, ← Nat.and_assoc c c, Nat.and_self], h0] at h1
  have h2 := pop_under ⟨a ||| b, or_lt ha hb⟩ ⟨c, hc⟩
  simp only at h2
  have h3 : pop 0 = 0 := by decide
  omega
theorem near {x d k : Nat} (hx : x < 128) (hk : k < 7) : pop (more d k &&& x) ≤ pop (d &&& x) + 1 := by
  have h1 := pop_incl ⟨x &&& d, and_lt' hx⟩ ⟨x &&& 2 ^ k, and_lt' hx⟩
  have h2 := pop_one ⟨x, hx⟩ ⟨k, hk⟩
  simp only at h1 h2
  rw [← Nat.and_or_distrib_left] at h1
  unfold more
  rw [Nat.and_comm _ x, Nat.and_comm d x]
  omega
/-- a majority of d and one of d with one member more share a member of d -/
theorem meet_more {d k a b : Nat} (hd : d < 128) (hk : k < 7) (ha : a < 128) (hb : b < 128) (hne : more d k ≠ d)
    (h1 : pop d / 2 + 1 ≤ pop (d &&& a)) (h2 : pop (more d k) / 2 + 1 ≤ pop (more d k &&& b)) : d &&& (a &&& b) ≠ 0 := by
  have h3 := near (x := b) (d := d) hb hk
  have h4 := (pop_more ⟨d, hd⟩ ⟨k, hk⟩).2.2 hne
  simp only at h4
  exact meet hd ha hb (by omega)
theorem turned_back : ∀ c : Fin 128, ∀ k : Fin 7, ∀ add : Bool, turned c.val add k.val = c.val ∨ turned c.val add k.val = 0 ∨
    (turned (turned c.val add k.val) (!add) k.val = c.val ∧ turned c.val add k.val < 128 ∧ (turned c.val add k.val % 128).testBit k.val = add) := by decide +kernel
theorem less_more : ∀ c : Fin 128, ∀ k : Fin 7, less c.val k.val ≠ c.val → more (less c.val k.val) k.val = c.val := by decide +kernel
--END
theorem chg_cases (c : Nat) (add : Bool) (id : Int) : (chg c add id = (0, 1)) ∨ (chg c add id = (0, 32)) ∨
    (∃ k : Nat, k < 7 ∧ id = k ∧ 0 < c ∧ c < 128 ∧ turned c add k ≠ c ∧ turned c add k ≠ 0 ∧ turned c add k < 128 ∧ chg c add id = (turned c add k, 0) ∧
      chg (turned c add k) (!add) id = (c, 0) ∧ soundB (turned c add k) = true ∧ hasB (turned c add k) id = add) := by
  unfold chg
  by_cases h : soundB c = false ∨ id < 0 ∨ 7 ≤ id
  · left; rw [if_pos h]
  · rw [if_neg h]
    by_cases h2 : turned c add id.toNat = c ∨ turned c add id.toNat = 0
    · right; left; rw [if_pos h2]
    · right; right
      rw [if_neg h2]
      have hs : soundB c = true := by
        cases hs : soundB c
        · exact absurd (.inl hs) h
        · rfl
      unfold soundB at hs
      simp only [decide_eq_true_eq] at hs
      obtain ⟨k, rfl⟩ := Int.eq_ofNat_of_zero_le (show 0 ≤ id by omega)
      have hk : k < 7 := by omega
      rw [Int.toNat_natCast] at h2 ⊢
      obtain ⟨h3, h4⟩ := not_or.1 h2
      rcases turned_back ⟨c, hs.2⟩ ⟨k, hk⟩ add with e | e | ⟨e1, e2, e3⟩
      · exact absurd e h3
      · exact absurd e h4
      simp only at e1 e2 e3
      have hs2 : soundB (turned c add k) = true := by unfold soundB; simp only [decide_eq_true_eq]; omega
      refine ⟨k, hk, rfl, hs.1, hs.2, h3, h4, e2, rfl, ?_, hs2, ?_⟩
      · rw [if_neg (by rw [hs2]; intro hh; rcases hh with hh | hh | hh; cases hh; omega; omega), e1, if_neg (by intro hh; rcases hh with hh | hh; exact h3 hh.symm; omega)]
      · unfold hasB
        rw [Int.toNat_natCast, e3]
        have : decide (0 ≤ (k : Int) ∧ (k : Int) < 7) = true := by simp only [decide_eq_true_eq]; omega
        rw [this, Bool.true_and]
theorem majB_low {c s : Nat} (hc : c < 128) : majB c s = decide (pop c / 2 + 1 ≤ pop (c &&& (s % 128))) := by
  unfold majB needN
  rw [and_low', Nat.mod_eq_of_lt hc]
theorem low_ne {x : Nat} (h : x % 128 ≠ 0) : x ≠ 0 := by omega
theorem meets_one {c a b : Nat} (hc : c < 128) (h1 : majB c a = true) (h2 : majB c b = true) : (a &&& b) &&& c ≠ 0 := by
  rw [majB_low hc, decide_eq_true_eq] at h1 h2
  have := meet (a := a % 128) (b := b % 128) hc (by omega) (by omega) (by omega)
  apply low_ne
  rw [and_low', and_low', Nat.mod_eq_of_lt hc, Nat.and_comm]
  exact this
theorem meets_two {c d a b k : Nat} {add : Bool} (hc : c < 128) (hk : k < 7) (hd : turned c add k = d) (hd8 : d < 128) (hne : d ≠ c) (h1 : majB c a = true) (h2 : majB d b = true) : ((a &&& b) &&& c) &&& d ≠ 0 := by
  rw [majB_low hc, decide_eq_true_eq] at h1
  rw [majB_low hd8, decide_eq_true_eq] at h2
  apply low_ne
  rw [and_low', and_low', and_low', Nat.mod_eq_of_lt hc, Nat.mod_eq_of_lt hd8]
  cases add
  · have hd' : less c k = d := hd
    have hm := less_more ⟨c, hc⟩ ⟨k, hk⟩ (by rw [hd']; exact hne)
    simp only at hm
    rw [hd'] at hm
    have := meet_more (d := d) (k := k) (a := b % 128) (b := a % 128) hd8 hk (by omega) (by omega) (by rw [hm]; exact fun e => hne e.symm) h2 (by rw [hm]; exact h1)
    have hcd := (pop_more ⟨d, hd8⟩ ⟨k, hk⟩).2.1
    simp only at hcd
    rw [hm] at hcd
    rw [Nat.and_assoc, Nat.and_comm c d, hcd, Nat.and_comm (a % 128), Nat.and_comm _ d]
    exact this
  · have hd' : more c k = d := hd
    have := meet_more (d := c) (k := k) (a := a % 128) (b := b % 128) hc hk (by omega) (by omega) (by rw [hd']; exact hne) h1 (by rw [hd']; exact h2)
    have hcd := (pop_more ⟨c, hc⟩ ⟨k, hk⟩).2.1
    simp only at hcd
    rw [hd'] at hcd
    rw [Nat.and_assoc, hcd, Nat.and_comm _ c]
    exact this
end Qu

end Go.Proofs.YtlkonimjeoaljaaDoor
