/- The document's Change: what it answers. -/
import Derived.Test.YtlkonimjeoaljaaDoorPlain6
import Derived.Test.YtlkonimjeoaljaaDoorRef6
namespace Go.Proofs.YtlkonimjeoaljaaDoor
open Go.RowKit

namespace Qu
theorem rc_same : ∀ c : Fin 128, ∀ k : Fin 7, ∀ add : Bool, (c.val % 128).testBit k.val = add → turned c.val add k.val = c.val := by decide +kernel
theorem rc_last : ∀ c : Fin 128, ∀ k : Fin 7, (c.val % 128).testBit k.val = true → pop (c.val % 128) = 1 → turned c.val false k.val = 0 := by decide +kernel
theorem rc_more : ∀ c : Fin 128, ∀ k : Fin 7, (c.val % 128).testBit k.val = false → turned c.val true k.val = c.val + 2 ^ k.val ∧ turned c.val true k.val ≠ c.val := by decide +kernel
theorem rc_less : ∀ c : Fin 128, ∀ k : Fin 7, (c.val % 128).testBit k.val = true → pop (c.val % 128) ≠ 1 → turned c.val false k.val + 2 ^ k.val = c.val ∧ turned c.val false k.val ≠ 0 := by decide +kernel
theorem chg_in {c k : Nat} {add : Bool} (h0 : 0 < c) (hc : c < 128) (hk : k < 7) : chg c add k = if turned c add k = c ∨ turned c add k = 0 then (0, 32) else (turned c add k, 0) := by
  unfold chg
  have hs : soundB c = true := by unfold soundB; simp only [decide_eq_true_eq]; omega
  rw [if_neg (by rw [hs]; intro hh; rcases hh with hh | hh | hh; cases hh; omega; omega)]
  rfl
end Qu

theorem rchange_bad (w : World) (c : Nat) (hc : c < 2 ^ 64) (add : Bool) (id : Int) (hbad : Qu.soundB c = false ∨ id < 0 ∨ 7 ≤ id) :
    Calls Tryd.prog 24 #[.int .u64 c, .bool add, .int .i64 id] w fun e w' => e = .returned (.tuple #[.int .u64 0, .int .i64 1]) ∧ Only NoBlock w w' := by
  have h3 : (Qu.soundB c = false) ∨ (Qu.soundB c = true ∧ id < 0) ∨ (Qu.soundB c = true ∧ 0 ≤ id ∧ 7 ≤ id) := by
    cases hs : Qu.soundB c
    · exact .inl rfl
    · rcases hbad with h | h | h
      · rw [hs] at h; cases h
      · exact .inr (.inl ⟨rfl, h⟩)
      · exact .inr (.inr ⟨rfl, by omega, h⟩)
  clear hbad
  rcases h3 with h | ⟨h, h1⟩ | ⟨h, h1, h2⟩
  all_goals
    have HS := Lib.hid h
    clear h
    go_enter Tryd.func24, Tryd.ntmps24
    go_wp2_with fail
    refine (rsound_at w c hc).mono ?_
    rintro e w1 ⟨rfl, rfl⟩
    rw [HS.out]
    go_wp2_with fail
    go_ret2
    exact ⟨rfl, Only.refl _ _⟩

/-- where Change has nothing to do -/
theorem rchange_same (w : World) (c k : Nat) (h0 : 0 < c) (hc : c < 128) (hk : k < 7) (add : Bool) (hb : Qu.hasB c k = add) :
    Calls Tryd.prog 24 #[.int .u64 c, .bool add, .int .i64 k] w fun e w' => e = .returned (.tuple #[.int .u64 0, .int .i64 32]) ∧ Only NoBlock w w' := by
  have hs : Qu.soundB c = true := by unfold Qu.soundB; simp only [decide_eq_true_eq]; omega
  have HS := Lib.hid hs
  have HB := Lib.hid hb
  have hk6 : ¬ (6 : Int) < (k : Int) := by omega
  clear hs hb
  cases add
  all_goals
    go_enter Tryd.func24, Tryd.ntmps24
    go_wp2_with fail
    refine (rsound_at w c (by omega)).mono ?_
    rintro e w1 ⟨rfl, rfl⟩
    rw [HS.out]
    go_wp2_with fail
    refine (rhas6_at w c (by omega) k).mono ?_
    rintro e w1 ⟨rfl, rfl⟩
    rw [HB.out]
    go_wp2_with fail
    go_ret2
    exact ⟨rfl, Only.refl _ _⟩

theorem rchange_more (w : World) (c k : Nat) (h0 : 0 < c) (hc : c < 128) (hk : k < 7) (hb : Qu.hasB c k = false) :
    Calls Tryd.prog 24 #[.int .u64 c, .bool true, .int .i64 k] w fun e w' => e = .returned (.tuple #[.int .u64 ((c + 2 ^ k : Nat) : Int), .int .i64 0]) ∧ Only NoBlock w w' := by
  have hs : Qu.soundB c = true := by unfold Qu.soundB; simp only [decide_eq_true_eq]; omega
  have HS := Lib.hid hs
  have HB := Lib.hid hb
  clear hs hb
  have h7 : k = 0 ∨ k = 1 ∨ k = 2 ∨ k = 3 ∨ k = 4 ∨ k = 5 ∨ k = 6 := by omega
  rcases h7 with rfl | rfl | rfl | rfl | rfl | rfl | rfl
  all_goals
    go_enter Tryd.func24, Tryd.ntmps24
    go_wp2_with fail
    refine (rsound_at w c (by omega)).mono ?_
    rintro e w1 ⟨rfl, rfl⟩
    rw [HS.out]
    go_wp2_with fail
    refine (rhas6_at w c (by omega) _).mono ?_
    rintro e w1 ⟨rfl, rfl⟩
    erw [HB.out]
    go_wp2_with fail
    go_ret2
    exact ⟨rfl, Only.refl _ _⟩

theorem rchange_last (w : World) (c k : Nat) (h0 : 0 < c) (hc : c < 128) (hk : k < 7) (hb : Qu.hasB c k = true) (hp : Qu.pop (c % 128) = 1) :
    Calls Tryd.prog 24 #[.int .u64 c, .bool false, .int .i64 k] w fun e w' => e = .returned (.tuple #[.int .u64 0, .int .i64 32]) ∧ Only NoBlock w w' := by
  have hs : Qu.soundB c = true := by unfold Qu.soundB; simp only [decide_eq_true_eq]; omega
  have HS := Lib.hid hs
  have HB := Lib.hid hb
  have hk6 : ¬ (6 : Int) < (k : Int) := by omega
  have hmm : (Qu.mem (c % 128)).length = 1 := hp
  clear hs hb hp
  go_enter Tryd.func24, Tryd.ntmps24
  go_wp2_with fail
  refine (rsound_at w c (by omega)).mono ?_
  rintro e w1 ⟨rfl, rfl⟩
  rw [HS.out]
  go_wp2_with fail
  refine (rhas6_at w c (by omega) k).mono ?_
  rintro e w1 ⟨rfl, rfl⟩
  rw [HB.out]
  go_wp2_with fail
  refine (rmembers_at w c (by omega)).mono ?_
  rintro e w2 ⟨v2, rfl, hm2, ho2⟩
  obtain ⟨a2, k2, rfl⟩ := hm2.shape
  rw [hmm]
  go_wp2_with fail
  go_ret2
  exact ⟨rfl, ho2⟩

theorem rchange_less (w : World) (c k d : Nat) (h0 : 0 < c) (hc : c < 128) (hk : k < 7) (hb : Qu.hasB c k = true) (hp : Qu.pop (c % 128) ≠ 1) (hd : d + 2 ^ k = c) :
    Calls Tryd.prog 24 #[.int .u64 c, .bool false, .int .i64 k] w fun e w' => e = .returned (.tuple #[.int .u64 (d : Int), .int .i64 0]) ∧ Only NoBlock w w' := by
  have hs : Qu.soundB c = true := by unfold Qu.soundB; simp only [decide_eq_true_eq]; omega
  have HS := Lib.hid hs
  have HB := Lib.hid hb
  have hmm : ((Qu.mem (c % 128)).length : Int) ≠ 1 := by intro e; exact hp (by unfold Qu.pop; omega)
  have hm7 : (Qu.mem (c % 128)).length ≤ 7 := Qu.pop_le (c % 128)
  have HM := Lib.hid hmm
  have HDD := Lib.hid hd
  clear hs hb hp hmm hd
  have h7 : k = 0 ∨ k = 1 ∨ k = 2 ∨ k = 3 ∨ k = 4 ∨ k = 5 ∨ k = 6 := by omega
  rcases h7 with rfl | rfl | rfl | rfl | rfl | rfl | rfl
  all_goals
    go_enter Tryd.func24, Tryd.ntmps24
    go_wp2_with fail
    refine (rsound_at w c (by omega)).mono ?_
    rintro e w1 ⟨rfl, rfl⟩
    rw [HS.out]
    go_wp2_with fail
    refine (rhas6_at w c (by omega) _).mono ?_
    rintro e w1 ⟨rfl, rfl⟩
    erw [HB.out]
    go_wp2_with fail
    refine (rmembers_at w c (by omega)).mono ?_
    rintro e w2 ⟨v2, rfl, hm2, ho2⟩
    obtain ⟨a2, k2, rfl⟩ := hm2.shape
    have hne := HM.out
    generalize (Qu.mem (c % 128)).length = n at hne hm7
    go_wp2_with fail
    go_ret2
    refine ⟨?_, ho2⟩
    have := HDD.out
    have hdc : ∀ x y : Int, x = y → Ending.returned (Value.tuple #[.int .u64 x, .int .i64 0]) = Ending.returned (Value.tuple #[.int .u64 y, .int .i64 0]) := fun x y h => by rw [h]
    refine hdc _ _ ?_
    first | omega | (rw [IntKind.wrap_u64]; omega)

theorem rchange_at (w : World) (c : Nat) (hc : c < 2 ^ 64) (add : Bool) (id : Int) :
    Calls Tryd.prog 24 #[.int .u64 c, .bool add, .int .i64 id] w fun e w' => e = .returned (.tuple #[.int .u64 (Qu.chg c add id).1, .int .i64 (Qu.chg c add id).2]) ∧ Only NoBlock w w' := by
  by_cases hbad : Qu.soundB c = false ∨ id < 0 ∨ 7 ≤ id
  · have e : Qu.chg c add id = (0, 1) := by unfold Qu.chg; rw [if_pos hbad]
    rw [e]
    exact rchange_bad w c hc add id hbad
  · have hs : Qu.soundB c = true := by
      cases h : Qu.soundB c
      · exact absurd (.inl h) hbad
      · rfl
    unfold Qu.soundB at hs
    simp only [decide_eq_true_eq] at hs
    obtain ⟨k, rfl⟩ := Int.eq_ofNat_of_zero_le (show 0 ≤ id by omega)
    have hk : k < 7 := by omega
    have hbit := Qu.hasB_bit (c := c) hk
    have hin := Qu.chg_in (add := add) hs.1 hs.2 hk
    by_cases hb : Qu.hasB c k = add
    · have h1 := Qu.rc_same ⟨c, hs.2⟩ ⟨k, hk⟩ add (by rw [← hb, hbit])
      simp only at h1
      rw [hin, if_pos (.inl h1)]
      exact rchange_same w c k hs.1 hs.2 hk add hb
    · cases add
      · have hb' : Qu.hasB c k = true := by cases h : Qu.hasB c k; exact absurd h hb; rfl
        have hbt := hbit.symm.trans hb'
        by_cases hp : Qu.pop (c % 128) = 1
        · have h1 := Qu.rc_last ⟨c, hs.2⟩ ⟨k, hk⟩ hbt hp
          simp only at h1
          rw [hin, if_pos (.inr h1)]
          exact rchange_last w c k hs.1 hs.2 hk hb' hp
        · have h1 := Qu.rc_less ⟨c, hs.2⟩ ⟨k, hk⟩ hbt hp
          simp only at h1
          have hp2 := Nat.two_pow_pos k
          rw [hin, if_neg (by intro hh; rcases hh with hh | hh; omega; exact h1.2 hh)]
          exact rchange_less w c k _ hs.1 hs.2 hk hb' hp h1.1
      · have hb' : Qu.hasB c k = false := by cases h : Qu.hasB c k; rfl; exact absurd h hb
        have hbt := hbit.symm.trans hb'
        have h1 := Qu.rc_more ⟨c, hs.2⟩ ⟨k, hk⟩ hbt
        simp only at h1
        have hp2 := Nat.two_pow_pos k
        rw [hin, if_neg (by intro hh; rcases hh with hh | hh; exact h1.2 hh; omega), h1.1]
        exact rchange_more w c k hs.1 hs.2 hk hb'

end Go.Proofs.YtlkonimjeoaljaaDoor
