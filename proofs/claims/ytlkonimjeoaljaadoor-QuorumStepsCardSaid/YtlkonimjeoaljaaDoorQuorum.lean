/- The program's quorum: what each of its functions but Reached answers. -/
import Derived.Test.YtlkonimjeoaljaaDoorQbits
namespace Go.Proofs.YtlkonimjeoaljaaDoor
open Go.RowKit

namespace Qu
theorem and_1 {y : Int} (h : W y) : bits .and .u64 y 1 = y % 2 :=
  bits_mask .u64 64 (by decide) (fun n h0 h1 => by rw [IntKind.wrap_u64]; omega) 1 (by decide) y h.1 (by have := h.2; omega)
/-- is id a member of c? -/
def hasB (c : Nat) (id : Int) : Bool := decide (0 ≤ id ∧ id < 7) && (c % 128).testBit id.toNat
theorem hasB_in {c k : Nat} (hk : k < 7) : hasB c (k : Int) = decide (c / 2 ^ k % 2 = 1) := by
  unfold hasB
  have e : (c % 128).testBit k = c.testBit k := by
    have := Nat.testBit_mod_two_pow c 7 k
    rw [show (2 : Nat) ^ 7 = 128 from rfl] at this
    rw [this]
    simp [hk]
  rw [Int.toNat_natCast, e, Nat.testBit_eq_decide_div_mod_eq]
  simp
  omega
theorem hasB_out {c : Nat} {id : Int} (h : id < 0 ∨ 7 ≤ id) : hasB c id = false := by
  unfold hasB
  have : decide (0 ≤ id ∧ id < 7) = false := by simp; omega
  rw [this]
  rfl
def soundB (c : Nat) : Bool := decide (0 < c ∧ c < 128)
/-- the bits above: are there any? -/
theorem andNot_127 {c : Nat} (hc : c < 2 ^ 64) : (bits .andNot .u64 (c : Int) 127 == 0) = decide (c < 128) := by
  have e : bits .andNot .u64 (c : Int) 127 = ((BitVec.ofNat 64 c &&& ~~~ (127#64)).toNat : Int) := by
    unfold bits
    simp only [IntKind.wrap_u64]
    show ((BitVec.ofInt 64 (c : Int) &&& ~~~ (BitVec.ofInt 64 127)).toNat : Int) % 18446744073709551616 = _
    rw [BitVec.ofInt_natCast]
    have e2 : BitVec.ofInt 64 127 = 127#64 := by decide
    rw [e2]
    have := (BitVec.ofNat 64 c &&& ~~~127#64).isLt
    omega
  rw [e]
  by_cases h : c < 128
  · have : (BitVec.ofNat 64 c &&& ~~~ (127#64)) = 0#64 := by
      have hd : ∀ x : Fin 128, (BitVec.ofNat 64 x.val &&& ~~~ (127#64)) = 0#64 := by decide +kernel
      exact hd ⟨c, h⟩
    rw [this]
    simp [h]
  · have hne : (BitVec.ofNat 64 c &&& ~~~ (127#64)) ≠ 0#64 := by
      intro h0
      apply h
      have : c < 2 ^ 7 := by
        refine Nat.lt_pow_two_of_testBit c fun i hi => ?_
        have h1 : (BitVec.ofNat 64 c &&& ~~~ (127#64)).getLsbD i = false := by rw [h0]; simp
        rcases Nat.lt_or_ge i 64 with hi64 | hi64
        · rw [BitVec.getLsbD_and, BitVec.getLsbD_not, BitVec.getLsbD_ofNat] at h1
          have h127 : (127#64).getLsbD i = false := by
            have hd : ∀ j : Fin 64, 7 ≤ j.val → (127#64).getLsbD j.val = false := by decide +kernel
            exact hd ⟨i, hi64⟩ hi
          rw [h127] at h1
          simpa [hi64] using h1
        · exact Nat.testBit_lt_two_pow (Nat.lt_of_lt_of_le hc (Nat.pow_le_pow_right (by decide) hi64))
      exact this
    have : ((BitVec.ofNat 64 c &&& ~~~ (127#64)).toNat : Int) ≠ 0 := by
      intro h1
      apply hne
      apply BitVec.eq_of_toNat_eq
      simpa using h1
    simp [h]
    simpa using this
theorem and_low {c : Nat} (hc : c < 2 ^ 64) : bits .and .u64 (c : Int) 127 = ((c % 128 : Nat) : Int) := by
  rw [and_127 ⟨by omega, by omega⟩]
  unfold low
  omega
def needN (c : Nat) : Nat := pop (c % 128) / 2 + 1
def majB (c s : Nat) : Bool := decide (needN c ≤ pop ((c &&& s) % 128))
end Qu

theorem sound_at (w : World) (c : Nat) (hc : c < 2 ^ 64) :
    Calls Tryd.prog 12 #[.int .u64 c] w fun e w' => e = .returned (.bool (Qu.soundB c)) ∧ w = w' := by
  have hb := Qu.andNot_127 hc
  have HB := Lib.hid hb
  clear hb
  by_cases h0 : c = 0
  · subst h0
    go_enter Tryd.func12, Tryd.ntmps12
    go_wp2
    go_ret
    exact ⟨rfl, rfl⟩
  · have h1 : ((c : Int) != 0) = true := by simp; omega
    have h2 : ((c : Int) == 0) = false := by simp; omega
    have HZ := Lib.hid h0
    clear h0
    go_enter Tryd.func12, Tryd.ntmps12
    go_wp2
    go_ret
    refine ⟨?_, rfl⟩
    show Ending.returned (.bool (bits .andNot .u64 (c : Int) 127 == 0)) = _
    rw [HB.out]
    unfold Qu.soundB
    have := HZ.out
    congr 2
    simp
    omega

theorem has_at (w : World) (c : Nat) (hc : c < 2 ^ 64) (id : Int) :
    Calls Tryd.prog 18 #[.int .u64 c, .int .i64 id] w fun e w' => e = .returned (.bool (Qu.hasB c id)) ∧ w = w' := by
  by_cases hr : id < 0 ∨ 7 ≤ id
  · have hb := Qu.hasB_out (c := c) hr
    have HB := Lib.hid hb
    clear hb
    rcases hr with hr | hr
    · go_enter Tryd.func18, Tryd.ntmps18
      go_wp2
      go_ret
      exact ⟨by rw [HB.out]; rfl, rfl⟩
    · have h0 : 0 ≤ id := by omega
      go_enter Tryd.func18, Tryd.ntmps18
      go_wp2
      go_ret
      exact ⟨by rw [HB.out]; rfl, rfl⟩
  · have h7 : id = (0 : Nat) ∨ id = (1 : Nat) ∨ id = (2 : Nat) ∨ id = (3 : Nat) ∨ id = (4 : Nat) ∨ id = (5 : Nat) ∨ id = (6 : Nat) := by omega
    clear hr
    rcases h7 with rfl | rfl | rfl | rfl | rfl | rfl | rfl
    all_goals
      rw [Qu.hasB_in (by decide)]
      go_enter Tryd.func18, Tryd.ntmps18
      go_wp2
      go_ret
      refine ⟨?_, rfl⟩
      first
        | (show Ending.returned (.bool (bits .and .u64 _ 1 == 1)) = _
           rw [Qu.and_1 ⟨by omega, by omega⟩]
           congr 2
           rw [Bool.eq_iff_iff]
           simp
           omega)

theorem need_at (w : World) (c : Nat) (hc : c < 2 ^ 64) :
    Calls Tryd.prog 16 #[.int .u64 c] w fun e w' => e = .returned (.int .i64 (Qu.needN c)) ∧ w = w' := by
  have hb := Qu.and_low hc
  have HB := Lib.hid hb
  have hp := Qu.pop_le (c % 128)
  clear hb
  go_enter Tryd.func16, Tryd.ntmps16
  go_wp2_with fail
  rw [HB.out]
  refine (oc_at w (c % 128) (by omega)).mono ?_
  rintro e w1 ⟨rfl, rfl⟩
  go_wp2_with fail
  go_ret
  refine ⟨?_, rfl⟩
  show Ending.returned (.int .i64 ((Qu.pop (c % 128) : Int) / 2 + 1)) = _
  unfold Qu.needN
  congr 2

theorem majority_at (w : World) (c s : Nat) (hc : c < 2 ^ 64) (hs : s < 2 ^ 64) :
    Calls Tryd.prog 13 #[.int .u64 c, .int .u64 s] w fun e w' => e = .returned (.bool (Qu.majB c s)) ∧ w = w' := by
  have hb := Qu.and_nat hc hs
  have hcs : c &&& s < 2 ^ 64 := Nat.lt_of_le_of_lt Nat.and_le_left hc
  have hb2 := Qu.and_low hcs
  have HB := Lib.hid hb
  have HB2 := Lib.hid hb2
  clear hb hb2
  go_enter Tryd.func13, Tryd.ntmps13
  go_wp2_with fail
  rw [HB.out, HB2.out]
  refine (oc_at w ((c &&& s) % 128) (by omega)).mono ?_
  rintro e w1 ⟨rfl, rfl⟩
  go_wp2_with fail
  refine (need_at w c hc).mono ?_
  rintro e w1 ⟨rfl, rfl⟩
  go_wp2_with fail
  go_ret
  exact ⟨rfl, rfl⟩

theorem cell_one_int (w : World) (c : Int) (t : TypeId) (n : Nat) (hn : n = w.heap.size) : (w.alloc (.cells #[.int .i64 c] t)).cell? ⟨n, 0, none⟩ = some (.int .i64 c) := cell_int w c t n hn

set_option maxHeartbeats 1000000 in
theorem members_at (w : World) (c : Nat) (hc : c < 2 ^ 64) (ht : Qu.TabOk w) :
    Calls Tryd.prog 15 #[.int .u64 c] w fun e w' => ∃ v, e = .returned v ∧ Ints w' w.heap.size v (Qu.mem (c % 128)) ∧ Only NoBlock w w' := by
  have hb := Qu.and_low hc
  have HB := Lib.hid hb
  have HT := Lib.hid ht
  clear hb ht
  go_enter Tryd.func15, Tryd.ntmps15
  go_wp2_with fail
  rw [HB.out]
  go_loopw [0, 3] (fun v0 v3 wr => ∃ (m : Nat) (acc : List Int), m < 128 ∧ v0 = .int .u64 m ∧ acc.length ≤ 7 ∧ Ints wr w.heap.size v3 acc ∧ Only NoBlock w wr ∧ RowKit.Hid (Qu.mem (c % 128) = acc ++ Qu.mem m)) (fun v0 _ _ => (intOf v0).toNat)
  case atStart => exact ⟨c % 128, [], by omega, rfl, by simp, Ints.nil' _ _, Only.refl _ _, Lib.hid rfl⟩
  case round =>
    obtain ⟨m, acc, hm, rfl, hal, hrow, ho, HM⟩ := hrel
    by_cases h0 : m = 0
    · subst h0
      have hz : Qu.mem (c % 128) = acc := by rw [HM.out, Qu.mem_zero, List.append_nil]
      have HZ := Lib.hid hz
      clear hz
      go_wp2_with fail
      go_ret
      exact ⟨_, rfl, by rw [HZ.out]; exact hrow, ho⟩
    · have hst := Qu.mem_step ⟨m, hm⟩ h0
      simp only at hst
      have hz := ho.size
      have h1 : ((m : Int) != 0) = true := by simp; omega
      have h1' : ((m : Int) == 0) = false := by simp; omega
      have hand := Qu.and_nat (x := m) (y := m - 1) (by omega) (by omega)
      have hlt := Qu.and_lt hm
      have hless := Qu.and_less h0
      have ecast : ((m - 1 : Nat) : Int) = (m : Int) - 1 := by omega
      rw [ecast] at hand
      have hlen : acc.length + 1 ≤ 7 := by
        have := Qu.pop_le (c % 128)
        unfold Qu.pop at this
        rw [HM.out, hst, List.length_append, List.length_cons] at this
        omega
      have HST := Lib.hid hst
      have HA := Lib.hid hand
      have H0 := Lib.hid h0
      have hm1 : 1 ≤ m := by omega
      clear hst hand h0 ecast
      go_wp2_with fail
      refine (tz_at wr m hm H0.out (HT.out.keeps ho (fun h => h))).mono ?_
      rintro e w1 ⟨rfl, rfl⟩
      generalize hq : m &&& (m - 1) = m2 at HA HST hlt hless
      clear hq
      have ha := HA.out
      go_wp2_with (first
        | (at_builtin; refine wpList_append_int _ rfl _ _ rfl w.heap.size _ acc (Qu.tz m : Int) ⟨wr.heap.size, 0, none⟩ 1 rfl (hrow.keeps' ((Only.refl NoBlock _).alloc _) (fun _ _ h => h)) rfl (cell_int _ _ _ _ rfl) (by omega) (by simp; omega) ?_; intro v' w3 hb3 hg3))
      go_roundw
      case rel =>
        repeat apply Exists.intro
        refine ⟨?_, rfl⟩
        refine ⟨m2, acc ++ [(Qu.tz m : Int)], hlt, rfl, by simp; omega, hb3, (ho.alloc _).appended (hrow.keeps' ((Only.refl NoBlock _).alloc _) (fun _ _ h => h)) (Nat.le_refl _) hg3, Lib.hid ?_⟩
        rw [HM.out, HST.out, List.append_assoc]
        rfl
      case measure => simp [intOf]; omega

end Go.Proofs.YtlkonimjeoaljaaDoor
