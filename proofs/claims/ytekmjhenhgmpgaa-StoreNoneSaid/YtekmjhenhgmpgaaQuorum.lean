/- The program's quorum: what each of its functions but Reached answers. -/
import Derived.Test.YtekmjhenhgmpgaaQbits
namespace Go.Proofs.Ytekmjhenhgmpgaa
open Go.RowKit

namespace Qu
theorem and_1 {y : Int} (h : W y) : bits .and .u64 y 1 = y % 2 :=
  bits_mask .u64 64 (by decide) (fun n h0 h1 => by rw [IntKind.wrap_u64]; omega) 1 (by decide) y h.1 (by have := h.2; omega)
/-- is id a member of c? -/
def hasB (c : Nat) (id : Int) : Bool := decide (0 ≤ id ∧ id < 7) && (c % 128).testBit id.toNat
theorem hasB_in {c k : Nat} (hk : k < 7) : hasB c (k : Int) = decide (c / 2 ^ k % 2 = 1) := by
  unfold hasB
  have e : (c % 128).testBit k = c.testBit k := by
    have := Nat.testBit_mod_two_pow c 7 k
    rw [show (2 : Nat) ^ 7 = 128 from rfl] at this
    rw [this]
    simp [hk]
  rw [Int.toNat_natCast, e, Nat.testBit_eq_decide_div_mod_eq]
  simp
  omega
theorem hasB_out {c : Nat} {id : Int} (h : id < 0 ∨ 7 ≤ id) : hasB c id = false := by
  unfold hasB
  have : decide (0 ≤ id ∧ id < 7) = false := by simp; omega
  rw [this]
  rfl
def soundB (c : Nat) : Bool := decide (0 < c ∧ c < 128)
/-- the bits above: are there any? -/
theorem andNot_127 {c : Nat} (hc : c < 2 ^ 64) : (bits .andNot .u64 (c : Int) 127 == 0) = decide (c < 128) := by
  have e : bits .andNot .u64 (c : Int) 127 = ((BitVec.ofNat 64 c &&& ~~~ (127#64)).toNat : Int) := by
    unfold bits
    simp only [IntKind.wrap_u64]
    show ((BitVec.ofInt 64 (c : Int) &&& ~~~ (BitVec.ofInt 64 127)).toNat : Int) % 18446744073709551616 = _
    rw [BitVec.ofInt_natCast]
    have e2 : BitVec.ofInt 64 127 = 127#64 := by decide
    rw [e2]
    have := (BitVec.ofNat 64 c &&& ~~~127#64).isLt
    omega
  rw [e]
  by_cases h : c < 128
  · have : (BitVec.ofNat 64 c &&& ~~~ (127#64)) = 0#64 := by
      have hd : ∀ x : Fin 128, (BitVec.ofNat 64 x.val &&& ~~~ (127#64)) = 0#64 := by decide +kernel
      exact hd ⟨c, h⟩
    rw [this]
    simp [h]
  · have hne : (BitVec.ofNat 64 c &&& ~~~ (127#64)) ≠ 0#64 := by
      intro h0
      apply h
      have : c < 2 ^ 7 := by
        refine Nat.lt_pow_two_of_testBit c fun i hi => ?_
        have h1 : (BitVec.ofNat 64 c &&& ~~~ (127#64)).getLsbD i = false := by rw [h0]; simp
        rcases Nat.lt_or_ge i 64 with hi64 | hi64
        · rw [BitVec.getLsbD_and, BitVec.getLsbD_not, BitVec.getLsbD_ofNat] at h1
          have h127 : (127#64).getLsbD i = false := by
            have hd : ∀ j : Fin 64, 7 ≤ j.val → (127#64).getLsbD j.val = false := by decide +kernel
            exact hd ⟨i, hi64⟩ hi
          rw [h127] at h1
          simpa [hi64] using h1
        · exact Nat.testBit_lt_two_pow (Nat.lt_of_lt_of_le hc (Nat.pow_le_pow_right (by decide) hi64))
      exact this
    have : ((BitVec.ofNat 64 c &&& ~~~ (127#64)).toNat : Int) ≠ 0 := by
      intro h1
      apply hne
      apply BitVec.eq_of_toNat_eq
      simpa using h1
    simp [h]
    simpa using this
theorem and_low {c : Nat} (hc : c < 2 ^ 64) : bits .and .u64 (c : Int) 127 = ((c % 128 : Nat) : Int) := by
  rw [and_127 ⟨by omega, by omega⟩]
  unfold low
  omega
def needN (c : Nat) : Nat := pop (c % 128) / 2 + 1
def majB (c s : Nat) : Bool := decide (needN c ≤ pop ((c &&& s) % 128))
end Qu

theorem sound_at (w : World) (c : Nat) (hc : c < 2 ^ 64) :
    Calls Try.prog 36 #[.int .u64 c] w fun e w' => e = .returned (.bool (Qu.soundB c)) ∧ w = w' := by
  have hb := Qu.andNot_127 hc
  have HB := Lib.hid hb
  clear hb
  by_cases h0 : c = 0
  · subst h0
    go_enter Try.func36, Try.ntmps36
    go_wp2
    go_ret
    exact ⟨rfl, rfl⟩
  · have h1 : ((c : Int) != 0) = true := by simp; omega
    have h2 : ((c : Int) == 0) = false := by simp; omega
    have HZ := Lib.hid h0
    clear h0
    go_enter Try.func36, Try.ntmps36
    go_wp2
    go_ret
    refine ⟨?_, rfl⟩
    show Ending.returned (.bool (bits .andNot .u64 (c : Int) 127 == 0)) = _
    rw [HB.out]
    unfold Qu.soundB
    have := HZ.out
    congr 2
    simp
    omega

theorem cell_one_int (w : World) (c : Int) (t : TypeId) (n : Nat) (hn : n = w.heap.size) : (w.alloc (.cells #[.int .i64 c] t)).cell? ⟨n, 0, none⟩ = some (.int .i64 c) := cell_int w c t n hn

end Go.Proofs.Ytekmjhenhgmpgaa
