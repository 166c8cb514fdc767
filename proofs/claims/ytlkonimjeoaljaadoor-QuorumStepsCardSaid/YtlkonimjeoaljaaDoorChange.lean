/- The program's quorum.Change: what it answers. -/
import Derived.Test.YtlkonimjeoaljaaDoorQuorum
namespace Go.Proofs.YtlkonimjeoaljaaDoor
open Go.RowKit

namespace Qu
/-- c with one member more, or one fewer -/
def more (c k : Nat) : Nat := c ||| 2 ^ k
def less (c k : Nat) : Nat := c &&& (127 - 2 ^ k)
def turned (c : Nat) (add : Bool) (k : Nat) : Nat := if add then more c k else less c k
/-- what Change answers -/
def chg (c : Nat) (add : Bool) (id : Int) : Nat × Int :=
  if soundB c = false ∨ id < 0 ∨ 7 ≤ id then (0, 1)
  else if turned c add id.toNat = c ∨ turned c add id.toNat = 0 then (0, 32) else (turned c add id.toNat, 0)
theorem less_lt {c k : Nat} (h : c < 128) : less c k < 128 := Nat.lt_of_le_of_lt Nat.and_le_left h
theorem more_lt : ∀ c : Fin 128, ∀ k : Fin 7, more c.val k.val < 128 := by decide +kernel
theorem andNot_0 : ∀ c : Fin 128, bits .andNot .u64 (c.val : Int) 1 = (less c.val 0 : Int) := by decide +kernel
theorem or_0 : ∀ c : Fin 128, bits .or .u64 (c.val : Int) 1 = (more c.val 0 : Int) := by decide +kernel
theorem andNot_1 : ∀ c : Fin 128, bits .andNot .u64 (c.val : Int) 2 = (less c.val 1 : Int) := by decide +kernel
theorem or_1 : ∀ c : Fin 128, bits .or .u64 (c.val : Int) 2 = (more c.val 1 : Int) := by decide +kernel
theorem andNot_2 : ∀ c : Fin 128, bits .andNot .u64 (c.val : Int) 4 = (less c.val 2 : Int) := by decide +kernel
theorem or_2 : ∀ c : Fin 128, bits .or .u64 (c.val : Int) 4 = (more c.val 2 : Int) := by decide +kernel
theorem andNot_3 : ∀ c : Fin 128, bits .andNot .u64 (c.val : Int) 8 = (less c.val 3 : Int) := by decide +kernel
theorem or_3 : ∀ c : Fin 128, bits .or .u64 (c.val : Int) 8 = (more c.val 3 : Int) := by decide +kernel
theorem andNot_4 : ∀ c : Fin 128, bits .andNot .u64 (c.val : Int) 16 = (less c.val 4 : Int) := by decide +kernel
theorem or_4 : ∀ c : Fin 128, bits .or .u64 (c.val : Int) 16 = (more c.val 4 : Int) := by decide +kernel
theorem andNot_5 : ∀ c : Fin 128, bits .andNot .u64 (c.val : Int) 32 = (less c.val 5 : Int) := by decide +kernel
theorem or_5 : ∀ c : Fin 128, bits .or .u64 (c.val : Int) 32 = (more c.val 5 : Int) := by decide +kernel
theorem andNot_6 : ∀ c : Fin 128, bits .andNot .u64 (c.val : Int) 64 = (less c.val 6 : Int) := by decide +kernel
theorem or_6 : ∀ c : Fin 128, bits .or .u64 (c.val : Int) 64 = (more c.val 6 : Int) := by decide +kernel
end Qu

set_option maxHeartbeats 4000000 in
theorem change_bad (w : World) (c : Nat) (hc : c < 2 ^ 64) (add : Bool) (id : Int) (hbad : Qu.soundB c = false ∨ id < 0 ∨ 7 ≤ id) :
    Calls Tryd.prog 14 #[.int .u64 c, .bool add, .int .i64 id] w fun e w' => e = .returned (.tuple #[.int .u64 0, .int .i64 1]) ∧ w = w' := by
  have h3 : (Qu.soundB c = false) ∨ (Qu.soundB c = true ∧ id < 0) ∨ (Qu.soundB c = true ∧ 0 ≤ id ∧ 7 ≤ id) := by
    cases hs : Qu.soundB c
    · exact .inl rfl
    · rcases hbad with h | h | h
      · rw [hs] at h; cases h
      · exact .inr (.inl ⟨rfl, h⟩)
      · exact .inr (.inr ⟨rfl, by omega, h⟩)
  clear hbad
  rcases h3 with h | ⟨h, h1⟩ | ⟨h, h1, h2⟩
  all_goals
    have HS := Lib.hid h
    clear h
    go_enter Tryd.func14, Tryd.ntmps14
    go_wp2_with fail
    refine (sound_at w c hc).mono ?_
    rintro e w1 ⟨rfl, rfl⟩
    rw [HS.out]
    go_wp2_with fail
    go_ret2
    exact ⟨rfl, rfl⟩

set_option maxHeartbeats 4000000 in
theorem change_0 (w : World) (c : Nat) (h0 : 0 < c) (hc : c < 128) (add : Bool) :
    Calls Tryd.prog 14 #[.int .u64 c, .bool add, .int .i64 0] w fun e w' => e = .returned (.tuple #[.int .u64 (Qu.chg c add 0).1, .int .i64 (Qu.chg c add 0).2]) ∧ w = w' := by
  have hs : Qu.soundB c = true := by unfold Qu.soundB; simp; omega
  have hch : Qu.chg c add 0 = if Qu.turned c add 0 = c ∨ Qu.turned c add 0 = 0 then (0, 32) else (Qu.turned c add 0, 0) := by
    unfold Qu.chg
    rw [if_neg (by rw [hs]; decide)]
    rfl
  have HC := Lib.hid hch
  have HS := Lib.hid hs
  have h1 := Qu.or_0 ⟨c, hc⟩
  have h2 := Qu.andNot_0 ⟨c, hc⟩
  simp only at h1 h2
  have H1 := Lib.hid h1
  have H2 := Lib.hid h2
  have hml := Qu.more_lt ⟨c, hc⟩ ⟨0, by decide⟩
  have hll := Qu.less_lt (k := 0) hc
  simp only at hml
  clear hch hs h1 h2
  cases add with
  | true =>
    replace HC : RowKit.Hid (Qu.chg c true 0 = if Qu.more c 0 = c ∨ Qu.more c 0 = 0 then (0, 32) else (Qu.more c 0, 0)) := HC
    go_enter Tryd.func14, Tryd.ntmps14
    go_wp2_with fail
    refine (sound_at w c (by omega)).mono ?_
    rintro e w1 ⟨rfl, rfl⟩
    rw [HS.out]
    have e1 := H1.out
    have e2 := H2.out
    generalize Qu.more c 0 = d at HC H1 e1 hml
    generalize Qu.less c 0 = d2 at H2 e2 hll
    by_cases hdc : d = c
    · subst hdc
      have hR : Qu.chg d true 0 = (0, 32) := by rw [HC.out, if_pos (.inl rfl)]
      have HR := Lib.hid hR
      clear hR HC
      go_wp2_with fail
      go_ret2
      exact ⟨by rw [HR.out]; rfl, rfl⟩
    · by_cases hd0 : d = 0
      · subst hd0
        have hR : Qu.chg c true 0 = (0, 32) := by rw [HC.out, if_pos (.inr rfl)]
        have HR := Lib.hid hR
        clear hR HC
        have hb : ((0 : Int) == (c : Int)) = false := by simp; omega
        clear hdc
        go_wp2_with fail
        go_ret2
        exact ⟨by rw [HR.out]; rfl, rfl⟩
      · have hR : Qu.chg c true 0 = (d, 0) := by rw [HC.out, if_neg (by rintro (h | h) <;> contradiction)]
        have HR := Lib.hid hR
        have hb : ((d : Int) == (c : Int)) = false := by simp; omega
        have hb0 : ((d : Int) == 0) = false := by simp; omega
        clear hR HC hdc hd0
        go_wp2_with fail
        go_ret2
        exact ⟨by rw [HR.out]; rfl, rfl⟩
  | false =>
    replace HC : RowKit.Hid (Qu.chg c false 0 = if Qu.less c 0 = c ∨ Qu.less c 0 = 0 then (0, 32) else (Qu.less c 0, 0)) := HC
    go_enter Tryd.func14, Tryd.ntmps14
    go_wp2_with fail
    refine (sound_at w c (by omega)).mono ?_
    rintro e w1 ⟨rfl, rfl⟩
    rw [HS.out]
    have e2 := H2.out
    generalize Qu.less c 0 = d at HC H2 e2 hll
    by_cases hdc : d = c
    · subst hdc
      have hR : Qu.chg d false 0 = (0, 32) := by rw [HC.out, if_pos (.inl rfl)]
      have HR := Lib.hid hR
      clear hR HC
      go_wp2_with fail
      go_ret2
      exact ⟨by rw [HR.out]; rfl, rfl⟩
    · by_cases hd0 : d = 0
      · subst hd0
        have hR : Qu.chg c false 0 = (0, 32) := by rw [HC.out, if_pos (.inr rfl)]
        have HR := Lib.hid hR
        clear hR HC
        have hb : ((0 : Int) == (c : Int)) = false := by simp; omega
        clear hdc
        go_wp2_with fail
        go_ret2
        exact ⟨by rw [HR.out]; rfl, rfl⟩
      · have hR : Qu.chg c false 0 = (d, 0) := by rw [HC.out, if_neg (by rintro (h | h) <;> contradiction)]
        have HR := Lib.hid hR
        have hb : ((d : Int) == (c : Int)) = false := by simp; omega
        have hb0 : ((d : Int) == 0) = false := by simp; omega
        clear hR HC hdc hd0
        go_wp2_with fail
        go_ret2
        exact ⟨by rw [HR.out]; rfl, rfl⟩

set_option maxHeartbeats 4000000 in
theorem change_1 (w : World) (c : Nat) (h0 : 0 < c) (hc : c < 128) (add : Bool) :
    Calls Tryd.prog 14 #[.int .u64 c, .bool add, .int .i64 1] w fun e w' => e = .returned (.tuple #[.int .u64 (Qu.chg c add 1).1, .int .i64 (Qu.chg c add 1).2]) ∧ w = w' := by
  have hs : Qu.soundB c = true := by unfold Qu.soundB; simp; omega
  have hch : Qu.chg c add 1 = if Qu.turned c add 1 = c ∨ Qu.turned c add 1 = 0 then (0, 32) else (Qu.turned c add 1, 0) := by
    unfold Qu.chg
    rw [if_neg (by rw [hs]; decide)]
    rfl
  have HC := Lib.hid hch
  have HS := Lib.hid hs
  have h1 := Qu.or_1 ⟨c, hc⟩
  have h2 := Qu.andNot_1 ⟨c, hc⟩
  simp only at h1 h2
  have H1 := Lib.hid h1
  have H2 := Lib.hid h2
  have hml := Qu.more_lt ⟨c, hc⟩ ⟨1, by decide⟩
  have hll := Qu.less_lt (k := 1) hc
  simp only at hml
  clear hch hs h1 h2
  cases add with
  | true =>
    replace HC : RowKit.Hid (Qu.chg c true 1 = if Qu.more c 1 = c ∨ Qu.more c 1 = 0 then (0, 32) else (Qu.more c 1, 0)) := HC
    go_enter Tryd.func14, Tryd.ntmps14
    go_wp2_with fail
    refine (sound_at w c (by omega)).mono ?_
    rintro e w1 ⟨rfl, rfl⟩
    rw [HS.out]
    have e1 := H1.out
    have e2 := H2.out
    generalize Qu.more c 1 = d at HC H1 e1 hml
    generalize Qu.less c 1 = d2 at H2 e2 hll
    by_cases hdc : d = c
    · subst hdc
      have hR : Qu.chg d true 1 = (0, 32) := by rw [HC.out, if_pos (.inl rfl)]
      have HR := Lib.hid hR
      clear hR HC
      go_wp2_with fail
      go_ret2
      exact ⟨by rw [HR.out]; rfl, rfl⟩
    · by_cases hd0 : d = 0
      · subst hd0
        have hR : Qu.chg c true 1 = (0, 32) := by rw [HC.out, if_pos (.inr rfl)]
        have HR := Lib.hid hR
        clear hR HC
        have hb : ((0 : Int) == (c : Int)) = false := by simp; omega
        clear hdc
        go_wp2_with fail
        go_ret2
        exact ⟨by rw [HR.out]; rfl, rfl⟩
      · have hR : Qu.chg c true 1 = (d, 0) := by rw [HC.out, if_neg (by rintro (h | h) <;> contradiction)]
        have HR := Lib.hid hR
        have hb : ((d : Int) == (c : Int)) = false := by simp; omega
        have hb0 : ((d : Int) == 0) = false := by simp; omega
        clear hR HC hdc hd0
        go_wp2_with fail
        go_ret2
        exact ⟨by rw [HR.out]; rfl, rfl⟩
  | false =>
    replace HC : RowKit.Hid (Qu.chg c false 1 = if Qu.less c 1 = c ∨ Qu.less c 1 = 0 then (0, 32) else (Qu.less c 1, 0)) := HC
    go_enter Tryd.func14, Tryd.ntmps14
    go_wp2_with fail
    refine (sound_at w c (by omega)).mono ?_
    rintro e w1 ⟨rfl, rfl⟩
    rw [HS.out]
    have e2 := H2.out
    generalize Qu.less c 1 = d at HC H2 e2 hll
    by_cases hdc : d = c
    · subst hdc
      have hR : Qu.chg d false 1 = (0, 32) := by rw [HC.out, if_pos (.inl rfl)]
      have HR := Lib.hid hR
      clear hR HC
      go_wp2_with fail
      go_ret2
      exact ⟨by rw [HR.out]; rfl, rfl⟩
    · by_cases hd0 : d = 0
      · subst hd0
        have hR : Qu.chg c false 1 = (0, 32) := by rw [HC.out, if_pos (.inr rfl)]
        have HR := Lib.hid hR
        clear hR HC
        have hb : ((0 : Int) == (c : Int)) = false := by simp; omega
        clear hdc
        go_wp2_with fail
        go_ret2
        exact ⟨by rw [HR.out]; rfl, rfl⟩
      · have hR : Qu.chg c false 1 = (d, 0) := by rw [HC.out, if_neg (by rintro (h | h) <;> contradiction)]
        have HR := Lib.hid hR
        have hb : ((d : Int) == (c : Int)) = false := by simp; omega
        have hb0 : ((d : Int) == 0) = false := by simp; omega
        clear hR HC hdc hd0
        go_wp2_with fail
        go_ret2
        exact ⟨by rw [HR.out]; rfl, rfl⟩

set_option maxHeartbeats 4000000 in
theorem change_2 (w : World) (c : Nat) (h0 : 0 < c) (hc : c < 128) (add : Bool) :
    Calls Tryd.prog 14 #[.int .u64 c, .bool add, .int .i64 2] w fun e w' => e = .returned (.tuple #[.int .u64 (Qu.chg c add 2).1, .int .i64 (Qu.chg c add 2).2]) ∧ w = w' := by
  have hs : Qu.soundB c = true := by unfold Qu.soundB; simp; omega
  have hch : Qu.chg c add 2 = if Qu.turned c add 2 = c ∨ Qu.turned c add 2 = 0 then (0, 32) else (Qu.turned c add 2, 0) := by
    unfold Qu.chg
    rw [if_neg (by rw [hs]; decide)]
    rfl
  have HC := Lib.hid hch
  have HS := Lib.hid hs
  have h1 := Qu.or_2 ⟨c, hc⟩
  have h2 := Qu.andNot_2 ⟨c, hc⟩
  simp only at h1 h2
  have H1 := Lib.hid h1
  have H2 := Lib.hid h2
  have hml := Qu.more_lt ⟨c, hc⟩ ⟨2, by decide⟩
  have hll := Qu.less_lt (k := 2) hc
  simp only at hml
  clear hch hs h1 h2
  cases add with
  | true =>
    replace HC : RowKit.Hid (Qu.chg c true 2 = if Qu.more c 2 = c ∨ Qu.more c 2 = 0 then (0, 32) else (Qu.more c 2, 0)) := HC
    go_enter Tryd.func14, Tryd.ntmps14
    go_wp2_with fail
    refine (sound_at w c (by omega)).mono ?_
    rintro e w1 ⟨rfl, rfl⟩
    rw [HS.out]
    have e1 := H1.out
    have e2 := H2.out
    generalize Qu.more c 2 = d at HC H1 e1 hml
    generalize Qu.less c 2 = d2 at H2 e2 hll
    by_cases hdc : d = c
    · subst hdc
      have hR : Qu.chg d true 2 = (0, 32) := by rw [HC.out, if_pos (.inl rfl)]
      have HR := Lib.hid hR
      clear hR HC
      go_wp2_with fail
      go_ret2
      exact ⟨by rw [HR.out]; rfl, rfl⟩
    · by_cases hd0 : d = 0
      · subst hd0
        have hR : Qu.chg c true 2 = (0, 32) := by rw [HC.out, if_pos (.inr rfl)]
        have HR := Lib.hid hR
        clear hR HC
        have hb : ((0 : Int) == (c : Int)) = false := by simp; omega
        clear hdc
        go_wp2_with fail
        go_ret2
        exact ⟨by rw [HR.out]; rfl, rfl⟩
      · have hR : Qu.chg c true 2 = (d, 0) := by rw [HC.out, if_neg (by rintro (h | h) <;> contradiction)]
        have HR := Lib.hid hR
        have hb : ((d : Int) == (c : Int)) = false := by simp; omega
        have hb0 : ((d : Int) == 0) = false := by simp; omega
        clear hR HC hdc hd0
        go_wp2_with fail
        go_ret2
        exact ⟨by rw [HR.out]; rfl, rfl⟩
  | false =>
    replace HC : RowKit.Hid (Qu.chg c false 2 = if Qu.less c 2 = c ∨ Qu.less c 2 = 0 then (0, 32) else (Qu.less c 2, 0)) := HC
    go_enter Tryd.func14, Tryd.ntmps14
    go_wp2_with fail
    refine (sound_at w c (by omega)).mono ?_
    rintro e w1 ⟨rfl, rfl⟩
    rw [HS.out]
    have e2 := H2.out
    generalize Qu.less c 2 = d at HC H2 e2 hll
    by_cases hdc : d = c
    · subst hdc
      have hR : Qu.chg d false 2 = (0, 32) := by rw [HC.out, if_pos (.inl rfl)]
      have HR := Lib.hid hR
      clear hR HC
      go_wp2_with fail
      go_ret2
      exact ⟨by rw [HR.out]; rfl, rfl⟩
    · by_cases hd0 : d = 0
      · subst hd0
        have hR : Qu.chg c false 2 = (0, 32) := by rw [HC.out, if_pos (.inr rfl)]
        have HR := Lib.hid hR
        clear hR HC
        have hb : ((0 : Int) == (c : Int)) = false := by simp; omega
        clear hdc
        go_wp2_with fail
        go_ret2
        exact ⟨by rw [HR.out]; rfl, rfl⟩
      · have hR : Qu.chg c false 2 = (d, 0) := by rw [HC.out, if_neg (by rintro (h | h) <;> contradiction)]
        have HR := Lib.hid hR
        have hb : ((d : Int) == (c : Int)) = false := by simp; omega
        have hb0 : ((d : Int) == 0) = false := by simp; omega
        clear hR HC hdc hd0
        go_wp2_with fail
        go_ret2
        exact ⟨by rw [HR.out]; rfl, rfl⟩

set_option maxHeartbeats 4000000 in
theorem change_3 (w : World) (c : Nat) (h0 : 0 < c) (hc : c < 128) (add : Bool) :
    Calls Tryd.prog 14 #[.int .u64 c, .bool add, .int .i64 3] w fun e w' => e = .returned (.tuple #[.int .u64 (Qu.chg c add 3).1, .int .i64 (Qu.chg c add 3).2]) ∧ w = w' := by
  have hs : Qu.soundB c = true := by unfold Qu.soundB; simp; omega
  have hch : Qu.chg c add 3 = if Qu.turned c add 3 = c ∨ Qu.turned c add 3 = 0 then (0, 32) else (Qu.turned c add 3, 0) := by
    unfold Qu.chg
    rw [if_neg (by rw [hs]; decide)]
    rfl
  have HC := Lib.hid hch
  have HS := Lib.hid hs
  have h1 := Qu.or_3 ⟨c, hc⟩
  have h2 := Qu.andNot_3 ⟨c, hc⟩
  simp only at h1 h2
  have H1 := Lib.hid h1
  have H2 := Lib.hid h2
  have hml := Qu.more_lt ⟨c, hc⟩ ⟨3, by decide⟩
  have hll := Qu.less_lt (k := 3) hc
  simp only at hml
  clear hch hs h1 h2
  cases add with
  | true =>
    replace HC : RowKit.Hid (Qu.chg c true 3 = if Qu.more c 3 = c ∨ Qu.more c 3 = 0 then (0, 32) else (Qu.more c 3, 0)) := HC
    go_enter Tryd.func14, Tryd.ntmps14
    go_wp2_with fail
    refine (sound_at w c (by omega)).mono ?_
    rintro e w1 ⟨rfl, rfl⟩
    rw [HS.out]
    have e1 := H1.out
    have e2 := H2.out
    generalize Qu.more c 3 = d at HC H1 e1 hml
    generalize Qu.less c 3 = d2 at H2 e2 hll
    by_cases hdc : d = c
    · subst hdc
      have hR : Qu.chg d true 3 = (0, 32) := by rw [HC.out, if_pos (.inl rfl)]
      have HR := Lib.hid hR
      clear hR HC
      go_wp2_with fail
      go_ret2
      exact ⟨by rw [HR.out]; rfl, rfl⟩
    · by_cases hd0 : d = 0
      · subst hd0
        have hR : Qu.chg c true 3 = (0, 32) := by rw [HC.out, if_pos (.inr rfl)]
        have HR := Lib.hid hR
        clear hR HC
        have hb : ((0 : Int) == (c : Int)) = false := by simp; omega
        clear hdc
        go_wp2_with fail
        go_ret2
        exact ⟨by rw [HR.out]; rfl, rfl⟩
      · have hR : Qu.chg c true 3 = (d, 0) := by rw [HC.out, if_neg (by rintro (h | h) <;> contradiction)]
        have HR := Lib.hid hR
        have hb : ((d : Int) == (c : Int)) = false := by simp; omega
        have hb0 : ((d : Int) == 0) = false := by simp; omega
        clear hR HC hdc hd0
        go_wp2_with fail
        go_ret2
        exact ⟨by rw [HR.out]; rfl, rfl⟩
  | false =>
    replace HC : RowKit.Hid (Qu.chg c false 3 = if Qu.less c 3 = c ∨ Qu.less c 3 = 0 then (0, 32) else (Qu.less c 3, 0)) := HC
    go_enter Tryd.func14, Tryd.ntmps14
    go_wp2_with fail
    refine (sound_at w c (by omega)).mono ?_
    rintro e w1 ⟨rfl, rfl⟩
    rw [HS.out]
    have e2 := H2.out
    generalize Qu.less c 3 = d at HC H2 e2 hll
    by_cases hdc : d = c
    · subst hdc
      have hR : Qu.chg d false 3 = (0, 32) := by rw [HC.out, if_pos (.inl rfl)]
      have HR := Lib.hid hR
      clear hR HC
      go_wp2_with fail
      go_ret2
      exact ⟨by rw [HR.out]; rfl, rfl⟩
    · by_cases hd0 : d = 0
      · subst hd0
        have hR : Qu.chg c false 3 = (0, 32) := by rw [HC.out, if_pos (.inr rfl)]
        have HR := Lib.hid hR
        clear hR HC
        have hb : ((0 : Int) == (c : Int)) = false := by simp; omega
        clear hdc
        go_wp2_with fail
        go_ret2
        exact ⟨by rw [HR.out]; rfl, rfl⟩
      · have hR : Qu.chg c false 3 = (d, 0) := by rw [HC.out, if_neg (by rintro (h | h) <;> contradiction)]
        have HR := Lib.hid hR
        have hb : ((d : Int) == (c : Int)) = false := by simp; omega
        have hb0 : ((d : Int) == 0) = false := by simp; omega
        clear hR HC hdc hd0
        go_wp2_with fail
        go_ret2
        exact ⟨by rw [HR.out]; rfl, rfl⟩

set_option maxHeartbeats 4000000 in
theorem change_4 (w : World) (c : Nat) (h0 : 0 < c) (hc : c < 128) (add : Bool) :
    Calls Tryd.prog 14 #[.int .u64 c, .bool add, .int .i64 4] w fun e w' => e = .returned (.tuple #[.int .u64 (Qu.chg c add 4).1, .int .i64 (Qu.chg c add 4).2]) ∧ w = w' := by
  have hs : Qu.soundB c = true := by unfold Qu.soundB; simp; omega
  have hch : Qu.chg c add 4 = if Qu.turned c add 4 = c ∨ Qu.turned c add 4 = 0 then (0, 32) else (Qu.turned c add 4, 0) := by
    unfold Qu.chg
    rw [if_neg (by rw [hs]; decide)]
    rfl
  have HC := Lib.hid hch
  have HS := Lib.hid hs
  have h1 := Qu.or_4 ⟨c, hc⟩
  have h2 := Qu.andNot_4 ⟨c, hc⟩
  simp only at h1 h2
  have H1 := Lib.hid h1
  have H2 := Lib.hid h2
  have hml := Qu.more_lt ⟨c, hc⟩ ⟨4, by decide⟩
  have hll := Qu.less_lt (k := 4) hc
  simp only at hml
  clear hch hs h1 h2
  cases add with
  | true =>
    replace HC : RowKit.Hid (Qu.chg c true 4 = if Qu.more c 4 = c ∨ Qu.more c 4 = 0 then (0, 32) else (Qu.more c 4, 0)) := HC
    go_enter Tryd.func14, Tryd.ntmps14
    go_wp2_with fail
    refine (sound_at w c (by omega)).mono ?_
    rintro e w1 ⟨rfl, rfl⟩
    rw [HS.out]
    have e1 := H1.out
    have e2 := H2.out
    generalize Qu.more c 4 = d at HC H1 e1 hml
    generalize Qu.less c 4 = d2 at H2 e2 hll
    by_cases hdc : d = c
    · subst hdc
      have hR : Qu.chg d true 4 = (0, 32) := by rw [HC.out, if_pos (.inl rfl)]
      have HR := Lib.hid hR
      clear hR HC
      go_wp2_with fail
      go_ret2
      exact ⟨by rw [HR.out]; rfl, rfl⟩
    · by_cases hd0 : d = 0
      · subst hd0
        have hR : Qu.chg c true 4 = (0, 32) := by rw [HC.out, if_pos (.inr rfl)]
        have HR := Lib.hid hR
        clear hR HC
        have hb : ((0 : Int) == (c : Int)) = false := by simp; omega
        clear hdc
        go_wp2_with fail
        go_ret2
        exact ⟨by rw [HR.out]; rfl, rfl⟩
      · have hR : Qu.chg c true 4 = (d, 0) := by rw [HC.out, if_neg (by rintro (h | h) <;> contradiction)]
        have HR := Lib.hid hR
        have hb : ((d : Int) == (c : Int)) = false := by simp; omega
        have hb0 : ((d : Int) == 0) = false := by simp; omega
        clear hR HC hdc hd0
        go_wp2_with fail
        go_ret2
        exact ⟨by rw [HR.out]; rfl, rfl⟩
  | false =>
    replace HC : RowKit.Hid (Qu.chg c false 4 = if Qu.less c 4 = c ∨ Qu.less c 4 = 0 then (0, 32) else (Qu.less c 4, 0)) := HC
    go_enter Tryd.func14, Tryd.ntmps14
    go_wp2_with fail
    refine (sound_at w c (by omega)).mono ?_
    rintro e w1 ⟨rfl, rfl⟩
    rw [HS.out]
    have e2 := H2.out
    generalize Qu.less c 4 = d at HC H2 e2 hll
    by_cases hdc : d = c
    · subst hdc
      have hR : Qu.chg d false 4 = (0, 32) := by rw [HC.out, if_pos (.inl rfl)]
      have HR := Lib.hid hR
      clear hR HC
      go_wp2_with fail
      go_ret2
      exact ⟨by rw [HR.out]; rfl, rfl⟩
    · by_cases hd0 : d = 0
      · subst hd0
        have hR : Qu.chg c false 4 = (0, 32) := by rw [HC.out, if_pos (.inr rfl)]
        have HR := Lib.hid hR
        clear hR HC
        have hb : ((0 : Int) == (c : Int)) = false := by simp; omega
        clear hdc
        go_wp2_with fail
        go_ret2
        exact ⟨by rw [HR.out]; rfl, rfl⟩
      · have hR : Qu.chg c false 4 = (d, 0) := by rw [HC.out, if_neg (by rintro (h | h) <;> contradiction)]
        have HR := Lib.hid hR
        have hb : ((d : Int) == (c : Int)) = false := by simp; omega
        have hb0 : ((d : Int) == 0) = false := by simp; omega
        clear hR HC hdc hd0
        go_wp2_with fail
        go_ret2
        exact ⟨by rw [HR.out]; rfl, rfl⟩

set_option maxHeartbeats 4000000 in
theorem change_5 (w : World) (c : Nat) (h0 : 0 < c) (hc : c < 128) (add : Bool) :
    Calls Tryd.prog 14 #[.int .u64 c, .bool add, .int .i64 5] w fun e w' => e = .returned (.tuple #[.int .u64 (Qu.chg c add 5).1, .int .i64 (Qu.chg c add 5).2]) ∧ w = w' := by
  have hs : Qu.soundB c = true := by unfold Qu.soundB; simp; omega
  have hch : Qu.chg c add 5 = if Qu.turned c add 5 = c ∨ Qu.turned c add 5 = 0 then (0, 32) else (Qu.turned c add 5, 0) := by
    unfold Qu.chg
    rw [if_neg (by rw [hs]; decide)]
    rfl
  have HC := Lib.hid hch
  have HS := Lib.hid hs
  have h1 := Qu.or_5 ⟨c, hc⟩
  have h2 := Qu.andNot_5 ⟨c, hc⟩
  simp only at h1 h2
  have H1 := Lib.hid h1
  have H2 := Lib.hid h2
  have hml := Qu.more_lt ⟨c, hc⟩ ⟨5, by decide⟩
  have hll := Qu.less_lt (k := 5) hc
  simp only at hml
  clear hch hs h1 h2
  cases add with
  | true =>
    replace HC : RowKit.Hid (Qu.chg c true 5 = if Qu.more c 5 = c ∨ Qu.more c 5 = 0 then (0, 32) else (Qu.more c 5, 0)) := HC
    go_enter Tryd.func14, Tryd.ntmps14
    go_wp2_with fail
    refine (sound_at w c (by omega)).mono ?_
    rintro e w1 ⟨rfl, rfl⟩
    rw [HS.out]
    have e1 := H1.out
    have e2 := H2.out
    generalize Qu.more c 5 = d at HC H1 e1 hml
    generalize Qu.less c 5 = d2 at H2 e2 hll
    by_cases hdc : d = c
    · subst hdc
      have hR : Qu.chg d true 5 = (0, 32) := by rw [HC.out, if_pos (.inl rfl)]
      have HR := Lib.hid hR
      clear hR HC
      go_wp2_with fail
      go_ret2
      exact ⟨by rw [HR.out]; rfl, rfl⟩
    · by_cases hd0 : d = 0
      · subst hd0
        have hR : Qu.chg c true 5 = (0, 32) := by rw [HC.out, if_pos (.inr rfl)]
        have HR := Lib.hid hR
        clear hR HC
        have hb : ((0 : Int) == (c : Int)) = false := by simp; omega
        clear hdc
        go_wp2_with fail
        go_ret2
        exact ⟨by rw [HR.out]; rfl, rfl⟩
      · have hR : Qu.chg c true 5 = (d, 0) := by rw [HC.out, if_neg (by rintro (h | h) <;> contradiction)]
        have HR := Lib.hid hR
        have hb : ((d : Int) == (c : Int)) = false := by simp; omega
        have hb0 : ((d : Int) == 0) = false := by simp; omega
        clear hR HC hdc hd0
        go_wp2_with fail
        go_ret2
        exact ⟨by rw [HR.out]; rfl, rfl⟩
  | false =>
    replace HC : RowKit.Hid (Qu.chg c false 5 = if Qu.less c 5 = c ∨ Qu.less c 5 = 0 then (0, 32) else (Qu.less c 5, 0)) := HC
    go_enter Tryd.func14, Tryd.ntmps14
    go_wp2_with fail
    refine (sound_at w c (by omega)).mono ?_
    rintro e w1 ⟨rfl, rfl⟩
    rw [HS.out]
    have e2 := H2.out
    generalize Qu.less c 5 = d at HC H2 e2 hll
    by_cases hdc : d = c
    · subst hdc
      have hR : Qu.chg d false 5 = (0, 32) := by rw [HC.out, if_pos (.inl rfl)]
      have HR := Lib.hid hR
      clear hR HC
      go_wp2_with fail
      go_ret2
      exact ⟨by rw [HR.out]; rfl, rfl⟩
    · by_cases hd0 : d = 0
      · subst hd0
        have hR : Qu.chg c false 5 = (0, 32) := by rw [HC.out, if_pos (.inr rfl)]
        have HR := Lib.hid hR
        clear hR HC
        have hb : ((0 : Int) == (c : Int)) = false := by simp; omega
        clear hdc
        go_wp2_with fail
        go_ret2
        exact ⟨by rw [HR.out]; rfl, rfl⟩
      · have hR : Qu.chg c false 5 = (d, 0) := by rw [HC.out, if_neg (by rintro (h | h) <;> contradiction)]
        have HR := Lib.hid hR
        have hb : ((d : Int) == (c : Int)) = false := by simp; omega
        have hb0 : ((d : Int) == 0) = false := by simp; omega
        clear hR HC hdc hd0
        go_wp2_with fail
        go_ret2
        exact ⟨by rw [HR.out]; rfl, rfl⟩

set_option maxHeartbeats 4000000 in
theorem change_6 (w : World) (c : Nat) (h0 : 0 < c) (hc : c < 128) (add : Bool) :
    Calls Tryd.prog 14 #[.int .u64 c, .bool add, .int .i64 6] w fun e w' => e = .returned (.tuple #[.int .u64 (Qu.chg c add 6).1, .int .i64 (Qu.chg c add 6).2]) ∧ w = w' := by
  have hs : Qu.soundB c = true := by unfold Qu.soundB; simp; omega
  have hch : Qu.chg c add 6 = if Qu.turned c add 6 = c ∨ Qu.turned c add 6 = 0 then (0, 32) else (Qu.turned c add 6, 0) := by
    unfold Qu.chg
    rw [if_neg (by rw [hs]; decide)]
    rfl
  have HC := Lib.hid hch
  have HS := Lib.hid hs
  have h1 := Qu.or_6 ⟨c, hc⟩
  have h2 := Qu.andNot_6 ⟨c, hc⟩
  simp only at h1 h2
  have H1 := Lib.hid h1
  have H2 := Lib.hid h2
  have hml := Qu.more_lt ⟨c, hc⟩ ⟨6, by decide⟩
  have hll := Qu.less_lt (k := 6) hc
  simp only at hml
  clear hch hs h1 h2
  cases add with
  | true =>
    replace HC : RowKit.Hid (Qu.chg c true 6 = if Qu.more c 6 = c ∨ Qu.more c 6 = 0 then (0, 32) else (Qu.more c 6, 0)) := HC
    go_enter Tryd.func14, Tryd.ntmps14
    go_wp2_with fail
    refine (sound_at w c (by omega)).mono ?_
    rintro e w1 ⟨rfl, rfl⟩
    rw [HS.out]
    have e1 := H1.out
    have e2 := H2.out
    generalize Qu.more c 6 = d at HC H1 e1 hml
    generalize Qu.less c 6 = d2 at H2 e2 hll
    by_cases hdc : d = c
    · subst hdc
      have hR : Qu.chg d true 6 = (0, 32) := by rw [HC.out, if_pos (.inl rfl)]
      have HR := Lib.hid hR
      clear hR HC
      go_wp2_with fail
      go_ret2
      exact ⟨by rw [HR.out]; rfl, rfl⟩
    · by_cases hd0 : d = 0
      · subst hd0
        have hR : Qu.chg c true 6 = (0, 32) := by rw [HC.out, if_pos (.inr rfl)]
        have HR := Lib.hid hR
        clear hR HC
        have hb : ((0 : Int) == (c : Int)) = false := by simp; omega
        clear hdc
        go_wp2_with fail
        go_ret2
        exact ⟨by rw [HR.out]; rfl, rfl⟩
      · have hR : Qu.chg c true 6 = (d, 0) := by rw [HC.out, if_neg (by rintro (h | h) <;> contradiction)]
        have HR := Lib.hid hR
        have hb : ((d : Int) == (c : Int)) = false := by simp; omega
        have hb0 : ((d : Int) == 0) = false := by simp; omega
        clear hR HC hdc hd0
        go_wp2_with fail
        go_ret2
        exact ⟨by rw [HR.out]; rfl, rfl⟩
  | false =>
    replace HC : RowKit.Hid (Qu.chg c false 6 = if Qu.less c 6 = c ∨ Qu.less c 6 = 0 then (0, 32) else (Qu.less c 6, 0)) := HC
    go_enter Tryd.func14, Tryd.ntmps14
    go_wp2_with fail
    refine (sound_at w c (by omega)).mono ?_
    rintro e w1 ⟨rfl, rfl⟩
    rw [HS.out]
    have e2 := H2.out
    generalize Qu.less c 6 = d at HC H2 e2 hll
    by_cases hdc : d = c
    · subst hdc
      have hR : Qu.chg d false 6 = (0, 32) := by rw [HC.out, if_pos (.inl rfl)]
      have HR := Lib.hid hR
      clear hR HC
      go_wp2_with fail
      go_ret2
      exact ⟨by rw [HR.out]; rfl, rfl⟩
    · by_cases hd0 : d = 0
      · subst hd0
        have hR : Qu.chg c false 6 = (0, 32) := by rw [HC.out, if_pos (.inr rfl)]
        have HR := Lib.hid hR
        clear hR HC
        have hb : ((0 : Int) == (c : Int)) = false := by simp; omega
        clear hdc
        go_wp2_with fail
        go_ret2
        exact ⟨by rw [HR.out]; rfl, rfl⟩
      · have hR : Qu.chg c false 6 = (d, 0) := by rw [HC.out, if_neg (by rintro (h | h) <;> contradiction)]
        have HR := Lib.hid hR
        have hb : ((d : Int) == (c : Int)) = false := by simp; omega
        have hb0 : ((d : Int) == 0) = false := by simp; omega
        clear hR HC hdc hd0
        go_wp2_with fail
        go_ret2
        exact ⟨by rw [HR.out]; rfl, rfl⟩

theorem change_at (w : World) (c : Nat) (hc : c < 2 ^ 64) (add : Bool) (id : Int) :
    Calls Tryd.prog 14 #[.int .u64 c, .bool add, .int .i64 id] w fun e w' => e = .returned (.tuple #[.int .u64 (Qu.chg c add id).1, .int .i64 (Qu.chg c add id).2]) ∧ w = w' := by
  by_cases hbad : Qu.soundB c = false ∨ id < 0 ∨ 7 ≤ id
  · have e : Qu.chg c add id = (0, 1) := by unfold Qu.chg; rw [if_pos hbad]
    rw [e]
    exact change_bad w c hc add id hbad
  · have hs : Qu.soundB c = true := by
      cases h : Qu.soundB c
      · exact absurd (.inl h) hbad
      · rfl
    unfold Qu.soundB at hs
    simp at hs
    have h7 : id = 0 ∨ id = 1 ∨ id = 2 ∨ id = 3 ∨ id = 4 ∨ id = 5 ∨ id = 6 := by omega
    rcases h7 with rfl | rfl | rfl | rfl | rfl | rfl | rfl
    · exact change_0 w c hs.1 hs.2 add
    · exact change_1 w c hs.1 hs.2 add
    · exact change_2 w c hs.1 hs.2 add
    · exact change_3 w c hs.1 hs.2 add
    · exact change_4 w c hs.1 hs.2 add
    · exact change_5 w c hs.1 hs.2 add
    · exact change_6 w c hs.1 hs.2 add

end Go.Proofs.YtlkonimjeoaljaaDoor
