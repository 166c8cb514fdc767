/- Of two sets that share no member one at most has a majority; of an odd number of members just one has: the walk of the law. -/
import Derived.Test.YtlkonimjeoaljaaDoorBegun6
namespace Go.Proofs.YtlkonimjeoaljaaDoor
open Go.RowKit

namespace Qu
/-- the bits that are not in a set -/
def comp (s : Nat) : Nat := 2 ^ 64 - 1 - s
theorem comp_lt (s : Nat) : comp s < 2 ^ 64 := by unfold comp; omega
theorem comp_low {s : Nat} (hs : s < 2 ^ 64) : comp s % 128 = 127 - s % 128 := by unfold comp; omega
theorem and_low' (c s : Nat) : (c &&& s) % 128 = (c % 128) &&& (s % 128) := by
  have e := Nat.and_mod_two_pow (a := c) (b := s) (n := 7)
  simpa using e
theorem halves_pop : ∀ c : Fin 128, ∀ s : Fin 128, pop (c.val &&& s.val) + pop (c.val &&& (127 - s.val)) = pop c.val := by decide +kernel
theorem self_and (c : Nat) : (c &&& c) % 128 = c % 128 := by rw [Nat.and_self]
theorem halves {c s : Nat} (hs : s < 2 ^ 64) : pop ((c &&& s) % 128) + pop ((c &&& comp s) % 128) = pop (c % 128) := by
  rw [and_low', and_low', comp_low hs]
  exact halves_pop ⟨c % 128, by omega⟩ ⟨s % 128, by omega⟩
end Qu

namespace Qu
theorem xor_max {s : Nat} (hs : s < 2 ^ 64) : bits .xor .u64 IntKind.u64.max (s : Int) = ((comp s : Nat) : Int) := by
  unfold bits
  simp only [IntKind.wrap_u64]
  show ((BitVec.ofInt 64 18446744073709551615 ^^^ BitVec.ofInt 64 (s : Int)).toNat : Int) % 18446744073709551616 = _
  have e : BitVec.ofInt 64 18446744073709551615 = BitVec.allOnes 64 := by decide
  rw [e, BitVec.allOnes_xor, BitVec.toNat_not, BitVec.ofInt_natCast, BitVec.toNat_ofNat, Nat.mod_eq_of_lt hs]
  unfold comp
  omega
/-- what the law says, in numbers -/
theorem halves_law {c s : Nat} (hs : s < 2 ^ 64) : (majB c s = true → majB c (comp s) = false) ∧ (pop (c % 128) % 2 ≠ 0 → majB c s = !majB c (comp s)) ∧ (pop (c % 128) ≠ 0 → majB c c = true) := by
  have hh := halves (c := c) hs
  have hse := self_and c
  unfold majB needN
  rw [hse]
  refine ⟨fun h => ?_, fun h => ?_, fun h => ?_⟩
  · simp only [decide_eq_true_eq, decide_eq_false_iff_not] at *; omega
  · rw [Bool.eq_iff_iff]; simp only [decide_eq_true_eq, Bool.not_eq_true', decide_eq_false_iff_not]; omega
  · simp only [decide_eq_true_eq]; omega
end Qu

set_option maxRecDepth 100000 in
set_option maxHeartbeats 2000000 in
theorem walk_halves (w : World) (c s : Nat) (hc : c < 2 ^ 64) (hs : s < 2 ^ 64) (ht : Qu.TabOk w) :
    Calls Tryd.prog 6 #[.int .u64 c, .int .u64 s] w fun e w' => e = .returned (.bool true) ∧ Only NoBlock w w' := by
  have hml : Qu.pop (c % 128) ≤ 7 := Qu.pop_le (c % 128)
  have hmm : (Qu.mem (c % 128)).length = Qu.pop (c % 128) := rfl
  have e4 : Qu.needN c = Qu.pop (c % 128) / 2 + 1 := rfl
  have hL := Qu.halves_law (c := c) hs
  have E4 := Lib.hid e4
  have HM := Lib.hid hmm
  have HL := Lib.hid hL
  have hwf := Qu.xor_max hs
  have HX := Lib.hid hwf
  clear e4 hL hmm hwf
  generalize Qu.pop (c % 128) = n at *
  go_enter Tryd.func6, Tryd.ntmps6
  go_wp2_with fail
  refine (begun6_ok w ht).mono ?_
  rintro e w1 ⟨rfl, ho1⟩
  go_wp2_with fail
  refine (majority_at w1 c s hc hs).mono ?_
  rintro e w2 ⟨rfl, rfl⟩
  generalize Qu.majB c s = b1 at *
  go_wp2_with fail
  rw [HX.out]
  refine (majority_at w1 c (Qu.comp s) hc (Qu.comp_lt s)).mono ?_
  rintro e w2 ⟨rfl, rfl⟩
  generalize Qu.majB c (Qu.comp s) = b2 at *
  go_wp2_with fail
  refine (members_at w1 c hc (ht.keeps ho1 (fun h => h))).mono ?_
  rintro e w2 ⟨v2, rfl, hm2, ho2⟩
  obtain ⟨a2, k2, rfl⟩ := hm2.shape
  rw [HM.out]
  have hO := ho1.trans ho2
  clear hm2 ho1 ho2
  have HN := Lib.hid (And.intro hml (rfl : n = n))
  have hfin : (n % 2 = 0 ∨ b1 ≠ b2) ∧ (b1 && b2) = false ∧ (n ≠ 0 → Qu.majB c c = true) := by
    obtain ⟨h1, h2, h3⟩ := HL.out
    refine ⟨?_, ?_, h3⟩
    · by_cases hp : n % 2 = 0
      · exact .inl hp
      · right; rw [h2 hp]; cases b2 <;> decide
    · cases hb1 : b1
      · rfl
      · rw [h1 hb1]; rfl
  have hcases : (b1 = false ∧ b2 = false ∧ n % 2 = 0) ∨ (b1 = true ∧ b2 = false) ∨ (b1 = false ∧ b2 = true) := by
    obtain ⟨h1, h2, -⟩ := hfin
    cases b1 <;> cases b2
    · rcases h1 with h | h
      · exact .inl ⟨rfl, rfl, h⟩
      · exact absurd rfl h
    · exact .inr (.inr ⟨rfl, rfl⟩)
    · exact .inr (.inl ⟨rfl, rfl⟩)
    · cases h2
  have HF := Lib.hid hfin.2.2
  clear hfin HL HN
  by_cases hp : n % 2 = 0
  · have hp2 : (n : Int) % 2 = 0 := by omega
    by_cases hn0 : n = 0
    · subst hn0
      rcases hcases with ⟨rfl, rfl, -⟩ | ⟨rfl, rfl⟩ | ⟨rfl, rfl⟩
      all_goals
        go_wp2_with fail
        refine (need_at w2 c hc).mono ?_
        rintro e w3 ⟨rfl, rfl⟩
        rw [E4.out]
        go_wp2_with fail
        go_ret
        exact ⟨rfl, hO⟩
    · have hn1 : ((n : Int) == 0) = false := by simp; omega
      rcases hcases with ⟨rfl, rfl, -⟩ | ⟨rfl, rfl⟩ | ⟨rfl, rfl⟩
      all_goals
        go_wp2_with fail
        refine (need_at w2 c hc).mono ?_
        rintro e w3 ⟨rfl, rfl⟩
        rw [E4.out]
        go_wp2_with fail
        refine (majority_at w2 c c hc hc).mono ?_
        rintro e w4 ⟨rfl, rfl⟩
        rw [HF.out hn0]
        go_wp2_with fail
        go_ret
        exact ⟨rfl, hO⟩
  · have hp2 : (n : Int) % 2 = 1 := by omega
    have hn0 : n ≠ 0 := by omega
    have hn1 : ((n : Int) == 0) = false := by simp; omega
    rcases hcases with ⟨rfl, rfl, h⟩ | ⟨rfl, rfl⟩ | ⟨rfl, rfl⟩
    · exact absurd h hp
    all_goals
      go_wp2_with fail
      refine (need_at w2 c hc).mono ?_
      rintro e w3 ⟨rfl, rfl⟩
      rw [E4.out]
      go_wp2_with fail
      refine (majority_at w2 c c hc hc).mono ?_
      rintro e w4 ⟨rfl, rfl⟩
      rw [HF.out hn0]
      go_wp2_with fail
      go_ret
      exact ⟨rfl, hO⟩

theorem walk_QuorumHalves {w : World} (c : Nat) (hc : c < 2 ^ 64) (s : Nat) (hs : s < 2 ^ 64) (ht : Qu.TabOk w) :
    Calls Tryd.prog 6 #[.int .u64 c, .int .u64 s] w fun e w' => e = .returned (.bool true) ∧ Below w.heap.size w w' :=
  (walk_halves w c s hc hs ht).mono fun _ _ ⟨he, ho⟩ => ⟨he, ho.below (Nat.le_refl _) (fun _ h => h.elim)⟩

end Go.Proofs.YtlkonimjeoaljaaDoor
