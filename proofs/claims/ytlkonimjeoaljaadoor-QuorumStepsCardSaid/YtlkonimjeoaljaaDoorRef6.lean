/- The document's quorum: what each of its functions but Reached answers. -/
import Derived.Test.YtlkonimjeoaljaaDoorChange
import Derived.Test.YtlkonimjeoaljaaDoorIntsEq
namespace Go.Proofs.YtlkonimjeoaljaaDoor
open Go.RowKit

namespace Qu
/-- the members below k -/
def memTo (c k : Nat) : List Int := ((List.range k).filter (fun i => (c % 128).testBit i)).map (fun (i : Nat) => (i : Int))
theorem memTo_seven (c : Nat) : memTo c 7 = mem (c % 128) := rfl
theorem memTo_succ (c k : Nat) : memTo c (k + 1) = memTo c k ++ (if (c % 128).testBit k then [(k : Int)] else []) := by
  unfold memTo
  rw [List.range_succ, List.filter_append, List.map_append]
  congr 1
  cases h : (c % 128).testBit k <;> simp [h]
theorem memTo_length (c k : Nat) : (memTo c k).length ≤ k := by
  unfold memTo
  rw [List.length_map]
  have := List.length_filter_le (fun i => (c % 128).testBit i) (List.range k)
  simpa using this
theorem hasB_bit {c k : Nat} (hk : k < 7) : hasB c (k : Int) = (c % 128).testBit k := by
  unfold hasB
  have : decide (0 ≤ (k : Int) ∧ (k : Int) < 7) = true := by simp; omega
  rw [this, Int.toNat_natCast]
  rfl
/-- how many members below k are in s -/
def bothTo (c s k : Nat) : Nat := ((List.range k).filter (fun i => (c % 128).testBit i && (s % 128).testBit i)).length
theorem bothTo_succ (c s k : Nat) : bothTo c s (k + 1) = bothTo c s k + (if (c % 128).testBit k && (s % 128).testBit k then 1 else 0) := by
  unfold bothTo
  rw [List.range_succ, List.filter_append, List.length_append]
  congr 1
  cases h : ((c % 128).testBit k && (s % 128).testBit k) <;> simp [h]
theorem bothTo_yes {c s k : Nat} (h1 : (c % 128).testBit k = true) (h2 : (s % 128).testBit k = true) : bothTo c s (k + 1) = bothTo c s k + 1 := by rw [bothTo_succ, h1, h2]; rfl
theorem bothTo_no {c s k : Nat} (h : (c % 128).testBit k = false ∨ (s % 128).testBit k = false) : bothTo c s (k + 1) = bothTo c s k := by
  rw [bothTo_succ]
  rcases h with h | h
  · rw [h]; rfl
  · rw [h, Bool.and_false]; rfl
theorem bothTo_le (c s k : Nat) : bothTo c s k ≤ k := by
  unfold bothTo
  have := List.length_filter_le (fun i => (c % 128).testBit i && (s % 128).testBit i) (List.range k)
  simpa using this
theorem bothTo_seven (c s : Nat) : bothTo c s 7 = pop ((c &&& s) % 128) := by
  unfold bothTo pop mem
  rw [List.length_map]
  congr 1
  refine List.filter_congr fun i hi => ?_
  have hi7 : i < 7 := List.mem_range.1 hi
  have e := Nat.testBit_mod_two_pow (c &&& s) 7 i
  have e1 := Nat.testBit_mod_two_pow c 7 i
  have e2 := Nat.testBit_mod_two_pow s 7 i
  rw [show (2 : Nat) ^ 7 = 128 from rfl] at e e1 e2
  rw [e, e1, e2, Nat.testBit_and]
  simp [hi7]
end Qu

theorem rsound_at (w : World) (c : Nat) (hc : c < 2 ^ 64) :
    Calls Tryd.prog 17 #[.int .u64 c] w fun e w' => e = .returned (.bool (Qu.soundB c)) ∧ w = w' := by
  by_cases h0 : c = 0
  · subst h0
    go_enter Tryd.func17, Tryd.ntmps17
    go_wp2
    go_ret
    exact ⟨rfl, rfl⟩
  · have h1 : 0 < c := by omega
    have HZ := Lib.hid h1
    by_cases h2 : c < 128
    · have hs : Qu.soundB c = true := by unfold Qu.soundB; simp; omega
      have HS := Lib.hid hs
      have h3 : decide ((c : Int) < 128) = true := by simp; omega
      have h4 : decide (c < 128) = true := by simp; omega
      clear hs h0
      go_enter Tryd.func17, Tryd.ntmps17
      go_wp2
      go_ret
      exact ⟨by rw [HS.out]; rfl, rfl⟩
    · have hs : Qu.soundB c = false := by unfold Qu.soundB; simp; omega
      have HS := Lib.hid hs
      have h3 : decide ((c : Int) < 128) = false := by simp; omega
      have h4 : decide (c < 128) = false := by simp; omega
      have h5 : 128 ≤ c := by omega
      clear hs h0 h2
      go_enter Tryd.func17, Tryd.ntmps17
      go_wp2
      go_ret
      exact ⟨by rw [HS.out]; rfl, rfl⟩

theorem rhas6_at (w : World) (c : Nat) (hc : c < 2 ^ 64) (id : Int) :
    Calls Tryd.prog 19 #[.int .u64 c, .int .i64 id] w fun e w' => e = .returned (.bool (Qu.hasB c id)) ∧ w = w' := by
  by_cases hr : id < 0 ∨ 7 ≤ id
  · have hb := Qu.hasB_out (c := c) hr
    have HB := Lib.hid hb
    clear hb
    rcases hr with hr | hr
    · go_enter Tryd.func19, Tryd.ntmps19
      go_wp2
      go_ret
      exact ⟨by rw [HB.out]; rfl, rfl⟩
    · have h0 : 0 ≤ id := by omega
      go_enter Tryd.func19, Tryd.ntmps19
      go_wp2
      go_ret
      exact ⟨by rw [HB.out]; rfl, rfl⟩
  · have h7 : id = (0 : Nat) ∨ id = (1 : Nat) ∨ id = (2 : Nat) ∨ id = (3 : Nat) ∨ id = (4 : Nat) ∨ id = (5 : Nat) ∨ id = (6 : Nat) := by omega
    clear hr
    rcases h7 with rfl | rfl | rfl | rfl | rfl | rfl | rfl
    all_goals
      rw [Qu.hasB_in (by decide)]
      go_enter Tryd.func19, Tryd.ntmps19
      go_wp2
      go_ret
      refine ⟨?_, rfl⟩
      show Ending.returned (.bool _) = Ending.returned (.bool _)
      congr 2
      rw [Bool.eq_iff_iff]
      simp
      omega

set_option maxHeartbeats 1000000 in
theorem rmembers_at (w : World) (c : Nat) (hc : c < 2 ^ 64) :
    Calls Tryd.prog 21 #[.int .u64 c] w fun e w' => ∃ v, e = .returned v ∧ Ints w' w.heap.size v (Qu.mem (c % 128)) ∧ Only NoBlock w w' := by
  go_enter Tryd.func21, Tryd.ntmps21
  go_wp2_with fail
  go_loopw [3, 4] (fun v3 v4 wr => ∃ k : Nat, k ≤ 7 ∧ v4 = .int .i64 k ∧ Ints wr w.heap.size v3 (Qu.memTo c k) ∧ Only NoBlock w wr) (fun _ v4 _ => 7 - (intOf v4).toNat)
  case atStart => exact ⟨0, by omega, rfl, Ints.nil' _ _, Only.refl _ _⟩
  case round =>
    obtain ⟨k, hk, rfl, hrow, ho⟩ := hrel
    have hz := ho.size
    have hml := Qu.memTo_length c k
    by_cases hlt : k < 7
    · have hsu := Qu.memTo_succ c k
      have hbt := Qu.hasB_bit (c := c) hlt
      rw [← hbt] at hsu
      have HS := Lib.hid hsu
      clear hsu hbt
      go_wp2_with fail
      refine (rhas6_at wr c hc k).mono ?_
      rintro e w1 ⟨rfl, rfl⟩
      cases hb : Qu.hasB c k with
      | true =>
        rw [hb, if_pos rfl] at HS
        clear hb
        go_wp2_with (first
          | (at_builtin; refine wpList_append_int _ rfl _ _ rfl w.heap.size _ (Qu.memTo c k) (k : Int) ⟨wr.heap.size, 0, none⟩ 1 rfl (hrow.keeps' ((Only.refl NoBlock _).alloc _) (fun _ _ h => h)) rfl (cell_int _ _ _ _ rfl) (by omega) (by simp; omega) ?_; intro v' w3 hb3 hg3))
        go_roundw
        case rel => exact ⟨k + 1, by omega, by go_num, by rw [HS.out]; exact hb3, (ho.alloc _).appended (hrow.keeps' ((Only.refl NoBlock _).alloc _) (fun _ _ h => h)) (Nat.le_refl _) hg3⟩
        case measure => simp [intOf]; omega
      | false =>
        rw [hb, if_neg (by decide), List.append_nil] at HS
        clear hb
        go_wp2_with fail
        go_roundw
        case rel => exact ⟨k + 1, by omega, by go_num, by rw [HS.out]; exact hrow, ho⟩
        case measure => simp [intOf]; omega
    · obtain rfl : k = 7 := by omega
      rw [Qu.memTo_seven] at hrow
      go_wp2_with fail
      go_ret
      exact ⟨_, rfl, hrow, ho⟩

theorem rneed_at (w : World) (c : Nat) (hc : c < 2 ^ 64) :
    Calls Tryd.prog 22 #[.int .u64 c] w fun e w' => e = .returned (.int .i64 (Qu.needN c)) ∧ Only NoBlock w w' := by
  have hp := Qu.pop_le (c % 128)
  go_enter Tryd.func22, Tryd.ntmps22
  go_wp2_with fail
  refine (rmembers_at w c hc).mono ?_
  rintro e w1 ⟨v, rfl, hrow, ho⟩
  obtain ⟨ao, cap, rfl⟩ := hrow.shape
  have hl : (Qu.mem (c % 128)).length ≤ 7 := hp
  go_wp2_with fail
  go_ret
  refine ⟨?_, ho⟩
  show Ending.returned (.int .i64 (((Qu.mem (c % 128)).length : Int) / 2 + 1)) = _
  unfold Qu.needN Qu.pop
  congr 2

set_option maxHeartbeats 1000000 in
theorem rmajority_at (w : World) (c s : Nat) (hc : c < 2 ^ 64) (hs : s < 2 ^ 64) :
    Calls Tryd.prog 23 #[.int .u64 c, .int .u64 s] w fun e w' => e = .returned (.bool (Qu.majB c s)) ∧ Only NoBlock w w' := by
  go_enter Tryd.func23, Tryd.ntmps23
  go_wp2_with fail
  go_loop [5, 6] (fun v5 v6 => ∃ k : Nat, k ≤ 7 ∧ v6 = .int .i64 k ∧ v5 = .int .i64 (Qu.bothTo c s k)) (fun _ v6 => 7 - (intOf v6).toNat)
  case atStart => exact ⟨0, by omega, rfl, rfl⟩
  case round =>
    obtain ⟨k, hk, rfl, rfl⟩ := hrel
    have hbl := Qu.bothTo_le c s k
    by_cases hlt : k < 7
    · have e1 := Qu.hasB_bit (c := c) hlt
      have e2 := Qu.hasB_bit (c := s) hlt
      have HE := Lib.hid (And.intro e1 e2)
      clear e1 e2
      go_wp2_with fail
      refine (rhas6_at w c hc k).mono ?_
      rintro e w1 ⟨rfl, rfl⟩
      cases hb : Qu.hasB c k with
      | true =>
        have HB := Lib.hid hb
        clear hb
        go_wp2_with fail
        refine (rhas6_at w s hs k).mono ?_
        rintro e w1 ⟨rfl, rfl⟩
        cases hb2 : Qu.hasB s k with
        | true =>
          have HS := Lib.hid (Qu.bothTo_yes (by rw [← HE.out.1]; exact HB.out) (by rw [← HE.out.2]; exact hb2))
          clear hb2
          go_wp2_with fail
          go_round
          case rel => exact ⟨k + 1, by omega, by go_num, by rw [HS.out]; go_num⟩
          case measure => simp [intOf]; omega
        | false =>
          have HS := Lib.hid (Qu.bothTo_no (c := c) (.inr (by rw [← HE.out.2]; exact hb2)))
          clear hb2
          go_wp2_with fail
          go_round
          case rel => exact ⟨k + 1, by omega, by go_num, by rw [HS.out]⟩
          case measure => simp [intOf]; omega
      | false =>
        have HS := Lib.hid (Qu.bothTo_no (s := s) (.inl (by rw [← HE.out.1]; exact hb)))
        clear hb
        go_wp2_with fail
        go_round
        case rel => exact ⟨k + 1, by omega, by go_num, by rw [HS.out]⟩
        case measure => simp [intOf]; omega
    · obtain rfl : k = 7 := by omega
      rw [Qu.bothTo_seven] at hbl ⊢
      go_wp2_with fail
      refine (rneed_at w c hc).mono ?_
      rintro e w1 ⟨rfl, ho⟩
      go_wp2_with fail
      go_ret
      exact ⟨rfl, ho⟩

end Go.Proofs.YtlkonimjeoaljaaDoor
